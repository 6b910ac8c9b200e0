/- Lemmas. -/
import Derived.Test.YtmngbpkapamhoaaGreatDoorG13
set_option maxRecDepth 100000
set_option maxHeartbeats 4000000
open Go Proofs Proofs.YtmngbpkapamhoaaGreatDoor Proofs.Tryz RowKit AM SpanLaw Q Zz
namespace Go.Q
def ti(gs:List za)(c:qO):Bool:=c.names.all fun n=>decide (n∈gs)
theorem zfA(gs:List za)(c:qO):ti gs c=((!(c.kind==5)||decide (c.name∈gs))&&c.args.all (ti gs)):=by
 have h:∀l:List qO,(yh l).all (fun n=>decide (n∈gs))=l.all (ti gs):=fun l=>by
  induction l with
  |nil=>rfl
  |cons x l d=>rw[yh,List.all_append,d,wi];rfl
 have e:ti gs c=c.names.all fun n=>decide (n∈gs):=rfl
 rw[e,xY,List.all_append,h];by_cases a:c.kind=5
 ·simp[a]
 ·have b:=jN a;simp[a,b]
noncomputable def nm1S (sp:AM.Spec):AM.Spec:=wD (zV prog [(69,sp)]) f116
noncomputable abbrev TAnm (sp:AM.Spec):Y7:=[(116,nm1S sp)]
noncomputable abbrev CnmS (sp:AM.Spec):Ctx:=zV prog [(115,Mt (TAnm sp))]
noncomputable def F8:Nat->AM.Spec
 | 0=>fun _ _ _=>none
 |k+1=>wD (CnmS (F8 k)) f69
theorem O6{sp:AM.Spec}(h:zg prog 69 sp):zg prog 116 (nm1S sp):=
 kL (qC (q:=[]) (l:=[(69,sp)]) mixed ⟨h,by simp,trivial⟩) func116
theorem rL:∀k,zg prog 69 (F8 k)
 | 0=>dw ⟨_,func69,by kernel_rfl,by kernel_rfl⟩
 |k+1=>kL (C:=CnmS (F8 k)) (zW mixed ⟨Lc ⟨O6 (rL k),by simp,trivial⟩,trivial⟩) func69
theorem rM(b:Bk)(gs:List za)(id m g:Nat):∀(k:Nat) (c:qO) (Y:Hp) (Z:Nat),c.cb<=k->c.cb<=zA->id<Z->g<Z->Y id=some (Qs b m g false)->Y g=some (xk gs) ->
  ∃x Y' Z',F8 k [.ref id 0 0,.agg c.V] Y Z=some (x,Y',Z')/\o7 (wb (ti gs c)) Y Z x Y' Z'
 | 0,c,_,_,h,_,_,_,_,_=>absurd h (by have:=XU c;omega)
 |k+1,c,w,a,L,z,hid,G,n,o=>by
  have H:=Wh c;have I:=vp c.args;have e:=zfA gs c;have u:¬id=a:=by omega
  have f:¬id=a+1:=by omega
  have B:¬g=a:=by omega
  have p:¬g=a+1:=by omega
  have v:=n;rw[vd]at v;have i:=EU (Y:=qq (qq w a (some ⟨70,1,false,[[.ref id 0 0]]⟩)) (a+1) (some ⟨53,7,false,[c.V]⟩)) c.name (by rw[zz _ _ _ _ p,zz _ _ _ _ B];exact o);obtain⟨r,Y',Z',q,rfl,_,J,l⟩:=UC (σ:=Unit) (T:=fun _=>False) (Rep:=fun _ Y=>Y id=some (Qs b m g false)/\Y g=some (xk gs)/\Y a=some ⟨70,1,false,[[.ref id 0 0]]⟩) (step:=fun _ y=>(!ti gs y,())) (Ta:=TAnm (F8 k)) (g:=116) (sp:=nm1S (F8 k)) (fi:=[]) (cap:=[.ref a 0 0]) (Z0:=a+2) (by simp) c.args (by unfold zA at z;unfold zA;omega)
   (fun _ y Y Z K M ⟨C,D,E⟩=>by
    have N:=xL K;obtain⟨r,Y',Z',q,rfl,J,l⟩:=rM b gs id m g k y (qq Y Z (some ⟨53,7,false,[y.V]⟩)) (Z+1) (by omega) (by omega) (by omega) (by omega) (by rw[zz _ _ _ _ (by omega)];exact C) (by rw[zz _ _ _ _ (by omega)];exact D);refine⟨_,Y',Z',?_,rfl,⟨by rw[l id (by omega),zz _ _ _ _ (by omega)];exact C,by rw[l g (by omega),zz _ _ _ _ (by omega)];exact D,by rw[l a (by omega),zz _ _ _ _ (by omega)];exact E⟩,by omega,fun j F _=>by rw[l j (by omega),zz _ _ _ _ (by omega)]⟩;unfold nm1S wD;rw[zd (by simp[f116])];refine jf rfl ?_;have n1:¬a=Z:=by omega
    simp[E,n1,q,f116]) () (qq (qq w a (some ⟨70,1,false,[[.ref id 0 0]]⟩)) (a+1) (some ⟨53,7,false,[c.V]⟩)) (a+2) (zl _)
   ⟨by rw[zz _ _ _ _ f,zz _ _ _ _ u];exact n,by rw[zz _ _ _ _ p,zz _ _ _ _ B];exact o,by rw[zz _ _ _ _ (by omega)];simp⟩
  rw[Ag]at q;have s:∀j,j<a->Y' j=w j:=fun j F=>by rw[l j (by omega) (fun h=>h),zz _ _ _ _ (by omega),zz _ _ _ _ (by omega)]
  unfold F8 wD;rw[zd (by simp[f69])];refine qF rfl ?_;by_cases t:c.kind=5
  ·by_cases d:c.name∈gs
   ·have e:ti gs c=c.args.all (ti gs):=by rw[e];simp[d]
    rw[kp d]at i;simp[v,u,f,t,i,q,e,o7,f69];exact⟨by omega,s⟩
   ·have e:ti gs c=false:=by rw[e];simp[t,d]
    rw[kr d]at i;simp[v,u,f,t,i,e,o7,f69];exact⟨by omega,fun j F=>by rw[zz _ _ _ _ (by omega),zz _ _ _ _ (by omega)]⟩
  ·have e:ti gs c=c.args.all (ti gs):=by rw[e];simp[t]
   have A:(c.kind != 5)=true:=by simpa using t
   simp[v,u,f,A,q,e,o7,f69];exact⟨by omega,s⟩
noncomputable def Qa (gs:List za) (L:List w9) (a:za) (l:List za) (x:Xp):Int×List za:=
 if jS x.name a=0 then(if(ZF (L.map w9.name) x.wH).2=true then(if wy x.flag=true then(if x.cond.check=0 then(if ti gs x.cond=true then(if jg l x.qp=0 then(if jn x.yF 20=0 then(yU x.zF,vk l x.qp)else(jn x.yF 20,vk l x.qp))else(jg l x.qp,vk l x.qp))else(9,l))else(x.cond.check,l))else(5,l))else(9,l))else(jS x.name a,l)
noncomputable abbrev Mu:Ctx:=zV prog [(65,hP (N1 fun a b=>int (jS a b))),(68,hP N4),(29,hP (FS wy)),(26,GC fun c=>int c.check),(69,F8 zA),(66,wD Iw f66),(70,hP (FRN (fun l n=>int (jn l n)) fun _ n=>1<=n/\n<=20)),(71,hP (FPh fun l=>int (yU l)))]
theorem UD:AM.Good Mu (fun g=>[68].contains g):=qC mixed ⟨Qg,by simp,ba,fun _=>zu _ _,ZJ,by simp,YY,by simp,rL zA,by simp,VP,by simp,J3,by simp,eT,by simp,trivial⟩
theorem fC:zg prog 35 (wD Mu f35):=kL UD func35
theorem mA(b:Bk)(l:List za)(d:za)(x:Xp)(hb:b.cb<=zA)(M:x.cb<=zA)(D:Hp)(Z0 id m g:Nat)(hid:id<Z0)(hmd:m<Z0)(hne:id≠m)(hgd:g<Z0)(hgm:g≠m)(gs:List za)(E:D id=some (Qs b m g false))(u:D m=some (xk l))(N:D g=some (xk gs)) :
  ∃W Y' Z',wD Mu f35 [.ref id 0 0,.agg x.V,str d] D Z0=some (W,Y',Z')/\vB (int (Qa gs b.zf d l x).1) (Qa gs b.zf d l x).2 m D Z0 W Y' Z':=by
 unfold wD;rw[zd (by simp[f35])];refine qF rfl ?_;have X:=qZ vR b.zf;have hbc:b.cb=yn w9.cb b.zf+yn vi.cb b.holds+yn Xp.cb b.zU:=rfl;have hxc:x.cb=x.name.length+x.wH.length+x.flag.length+x.cond.cb+x.qp.length+x.yF.length+yn yz.cb x.zF:=rfl;unfold zA at hb M;have I:¬m=Z0:=by omega
 have w:¬id=Z0:=by omega
 have f:=fun Y Z=>aY (fun a b=>int (jS a b)) x.name d Y Z (by unfold zA;omega) (by simp)
 have k:=fun Y Z=>a8 b.zf x.wH Y Z (by unfold zA;omega)
 have q:x.flag.length<=zA:=by unfold zA;omega
 have r:=fun Y Z=>vx (fun c=>int c.check) x.cond Y Z (by unfold zA;omega)
 have J:=fun Y Z=>eP (fun l n=>int (jn l n)) (fun _ n=>1<=n/\n<=20) x.yF 20 Y Z ⟨by omega,by omega⟩
 have P:=fun Y Z=>eS (fun l=>int (yU l)) x.zF Y Z (by unfold zA;omega)
 have ng:¬g=Z0:=by omega
 obtain⟨xn,Y1,nn,h,rfl,hn1,y⟩:=rM b gs id m g zA x.cond (qq D Z0 (some ⟨57,13,false,[x.V]⟩)) (Z0+1) (by unfold zA;omega) (by unfold zA;omega) (by omega) (by omega) (by rw[zz _ _ _ _ w];exact E) (by rw[zz _ _ _ _ ng];exact N);have Q:Y1 id=some (Qs b m g false):=by rw[y id (by omega),zz _ _ _ _ w];exact E
 have K:Y1 m=some (xk l):=by rw[y m (by omega),zz _ _ _ _ I];exact u
 have z:Y1 Z0=some ⟨57,13,false,[x.V]⟩:=by rw[y Z0 (by omega)];simp
 have A:∀j,j<Z0->Y1 j=D j:=fun j s=>by rw[y j (by omega),zz _ _ _ _ (by omega)]
 have F:=eU b l x.qp (by unfold zA;omega) false Y1 nn id m g Q K;have B:¬Z0=m:=by omega
 have C:=E;rw[vd]at C;rw[qK]at h z;rw[we]at h;simp only[we]at r;rw[qK];by_cases i:jS x.name d=0
 case neg=>
  have o:Qa gs b.zf d l x=(jS x.name d,l):=by unfold Qa;rw[ze i]
  have R:=vX i;simp[f,R,o,f35,vB];exact⟨by rw[zz _ _ _ _ I];exact u,fun j s e=>by rw[zz _ _ _ _ (by omega)]⟩
 cases p:(ZF (b.zf.map w9.name) x.wH).2
 ·have o:Qa gs b.zf d l x=(9,l):=by unfold Qa;rw[zd i,p,ze (by simp)]
  simp[f,i,w,C,k,p,o,f35,vB];exact⟨by rw[zz _ _ _ _ I];exact u,fun j s e=>by rw[zz _ _ _ _ (by omega)]⟩
 cases t:wy x.flag
 ·have o:Qa gs b.zf d l x=(5,l):=by unfold Qa;rw[zd i,p,zd rfl,t,ze (by simp)]
  simp[f,i,w,C,k,p,q,t,o,f35,vB];exact⟨by rw[zz _ _ _ _ I];exact u,fun j s e=>by rw[zz _ _ _ _ (by omega)]⟩
 by_cases v:x.cond.check=0
 case neg=>
  have o:Qa gs b.zf d l x=(x.cond.check,l):=by unfold Qa;rw[zd i,p,zd rfl,t,zd rfl,ze v]
  have S:=vX v;simp[f,i,w,C,k,p,q,t,r,S,o,f35,vB];exact⟨by rw[zz _ _ _ _ I];exact u,fun j s e=>by rw[zz _ _ _ _ (by omega)]⟩
 cases G:ti gs x.cond
 ·have o:Qa gs b.zf d l x=(9,l):=by unfold Qa;rw[zd i,p,zd rfl,t,zd rfl,zd v,G,ze (by simp)]
  rw[G]at h;simp[f,i,w,C,k,p,q,t,r,v,h,o,f35,vB];exact⟨by omega,K,fun j s e=>A j s⟩
 rw[G]at h;by_cases H:jg l x.qp=0
 case neg=>
  have o:Qa gs b.zf d l x=(jg l x.qp,vk l x.qp):=by unfold Qa;rw[zd i,p,zd rfl,t,zd rfl,zd v,G,zd rfl,ze H]
  have T:=vX H;simp[f,i,w,C,k,p,q,t,r,v,h,z,F,T,o,f35,vB];exact⟨by omega,fun j s e=>by rw[zz _ _ _ _ e];exact A j s⟩
 by_cases L:jn x.yF 20=0
 case neg=>
  have o:Qa gs b.zf d l x=(jn x.yF 20,vk l x.qp):=by unfold Qa;rw[zd i,p,zd rfl,t,zd rfl,zd v,G,zd rfl,zd H,ze L]
  have U:=vX L;simp[f,i,w,C,k,p,q,t,r,v,h,z,B,F,H,J,U,o,f35,vB];exact⟨by omega,fun j s e=>by rw[zz _ _ _ _ e];exact A j s⟩
 ·have o:Qa gs b.zf d l x=(yU x.zF,vk l x.qp):=by unfold Qa;rw[zd i,p,zd rfl,t,zd rfl,zd v,G,zd rfl,zd H,zd L]
  simp[f,i,w,C,k,p,q,t,r,v,h,z,B,F,H,J,L,P,o,f35,vB];exact⟨by omega,fun j s e=>by rw[zz _ _ _ _ e];exact A j s⟩
noncomputable def Wl (gs:List za) (L:List w9):za->List za->List Xp->Int×List za
 |_,l,[]=>(0,l)
 |before,l,x::xs=>if(Qa gs L before l x).1=0 then Wl gs L x.name (Qa gs L before l x).2 xs else Qa gs L before l x
noncomputable def kR (gs:List za) (b:Bk):Int:=
 if(20:Int)<b.zf.length\/(10:Int)<b.holds.length\/(100:Int)<b.zU.length then 2
 else if(wz [] [] b.zf).1=0 then
  (if(yq b.zf [] (wz [] [] b.zf).2 b.holds).1=0 then
   (if(Wl gs b.zf [] (yq b.zf [] (wz [] [] b.zf).2 b.holds).2 b.zU).1=0 then(if Wd b.zf b.zU 0 b.zU=true then 13 else 0)
    else(Wl gs b.zf [] (yq b.zf [] (wz [] [] b.zf).2 b.holds).2 b.zU).1)
   else(yq b.zf [] (wz [] [] b.zf).2 b.holds).1)
 else(wz [] [] b.zf).1
theorem Mv{gs:List za}{L:List w9}{a:za}{l:List za}{x:Xp}(h:(Qa gs L a l x).1=0):ZU L a l x=Qa gs L a l x/\ti gs x.cond=true:=by
 unfold Qa at h⊢;unfold ZU;by_cases b:jS x.name a=0
 case neg=>rw[ze b]at h;exact absurd h b
 rw[zd b]at h⊢;rw[zd b];by_cases d:(ZF (L.map w9.name) x.wH).2=true
 case neg=>rw[ze d]at h;simp at h
 rw[zd d]at h⊢;rw[zd d];by_cases e:wy x.flag=true
 case neg=>rw[ze e]at h;simp at h
 rw[zd e]at h⊢;rw[zd e];by_cases c:x.cond.check=0
 case neg=>rw[ze c]at h;exact absurd h c
 rw[zd c]at h⊢;rw[zd c];by_cases f:ti gs x.cond=true
 case neg=>rw[ze f]at h;simp at h
 rw[zd f]at h⊢;exact⟨rfl,f⟩
theorem rN{gs:List za}{L:List w9}:∀{xs:List Xp} {a:za} {l:List za},(Wl gs L a l xs).1=0->(ZR L a l xs).1=0/\∀x∈xs,ti gs x.cond=true
 |[],_,_,h=>⟨rfl,fun x d=>by cases d⟩
 |x::xs,a,l,h=>by
  simp only[Wl]at h;split at h
  ·rename_i c;obtain⟨e,f⟩:=Mv c;obtain⟨g,i⟩:=rN h;refine⟨by simp only[ZR];rw[e,zd c];exact g,fun y b=>?_⟩;rcases zw.1 b with rfl|b
   ·exact f
   ·exact i y b
  ·rename_i c;exact absurd h c
noncomputable abbrev Mw:Ctx:=zV prog [(33,wD Th f33),(34,wD Ti f34),(35,wD Mu f35),(36,wD Tk f36)]
theorem UE:Gd Mw:=zW mixed ⟨eV,lv,fC,cd,trivial⟩
theorem rO:zg prog 20 (wD Mw f20):=kL UE func20
theorem Ld(b:Bk)(hb:b.cb<=zA)(H:Hp)(Z0 id m g:Nat)(hid:id<Z0)(X:m<Z0)(hgd:g<Z0)(d:id≠m)(l:g≠m)(gs:List za)(v:H id=some (Qs b m g false))(hm0:H m=some (xk []))(hg0:H g=some (xk gs)) :
  ∃x1 Y' Z',wD Mw f20 [.ref id 0 0] H Z0=some (x1,Y',Z')/\x1=int (kR gs b):=by
 unfold wD;rw[zd (by simp[f20])];refine qF rfl ?_;have hlen:=qZ X5 b.zU;have hleL:=qZ vR b.zf;have hleH:=qZ Q1 b.holds;have hbc:b.cb=yn w9.cb b.zf+yn vi.cb b.holds+yn Xp.cb b.zU:=rfl;have n:=hb;unfold zA at hb;obtain⟨x1,Y1,nx1,I,rfl,l3,l4,l5⟩:=pB b [] n false H Z0 id m g hid X d v hm0;have w:Y1 id=some (Qs b m g false):=by rw[l5 id hid d];exact v
 obtain⟨J,y⟩:∃e,wz [] [] b.zf=e:=⟨_,rfl⟩;rw[y]at I l4;obtain⟨x2,Y2,PL,S,rfl,g3,g4,g5⟩:=uI b J.2 n false Y1 nx1 id m g (by omega) (by omega) d w l4;have z:Y2 id=some (Qs b m g false):=by rw[g5 id (by omega) d];exact w
 have K:Y2 g=some (xk gs):=by rw[g5 g (by omega) l,l5 g hgd l];exact hg0
 obtain⟨E,L⟩:∃e,yq b.zf [] J.2 b.holds=e:=⟨_,rfl⟩;rw[L]at S g4;obtain⟨e3,A⟩:∃e,Wl gs b.zf [] E.2 b.zU=e:=⟨_,rfl⟩;have t:=v;rw[vd]at t;have i:=z;rw[vd]at i;by_cases B:(20:Int)<b.zf.length
 ·have h:kR gs b=2:=by unfold kR;rw[zd (.inl B)]
  simp[t,B,h,f20]
 by_cases F:(10:Int)<b.holds.length
 ·have h:kR gs b=2:=by unfold kR;rw[zd (.inr (.inl F))]
  simp[t,B,F,h,f20]
 by_cases M:(100:Int)<b.zU.length
 ·have h:kR gs b=2:=by unfold kR;rw[zd (.inr (.inr M))]
  simp[t,B,F,M,h,f20]
 have c:kR gs b=if J.1=0 then(if E.1=0 then(if e3.1=0 then(if Wd b.zf b.zU 0 b.zU=true then 13 else 0)else e3.1)else E.1)else J.1:=by unfold kR;rw[ze (by omega),y,L,A]
 by_cases G:J.1=0
 case neg=>rw[ze G]at c;have Pw:=vX G;simp[t,B,F,M,I,Pw,c,f20]
 rw[zd G]at c;by_cases T:E.1=0
 case neg=>rw[ze T]at c;have c2':=vX T;simp[t,B,F,M,I,G,S,c2',c,f20]
 rw[zd T]at c;simp[t,B,F,M,I,G,S,T,i];refine zL (fun k σ Y Z=>σ 0=.ref id 0 0/\σ 48=.sl 13 (b.zU.map Xp.V)/\σ 49=int b.zU.length/\σ 50=int k/\Z0<=Z/\Y id=some (Qs b m g false)/\Y g=some (xk gs)/\∃(a:za) (l':List za),σ 5=str a/\Y m=some (xk l')/\e3=Wl gs b.zf a l' (b.zU.drop k)) b.zU.length
  ⟨by simp,by simp,by simp,by simp,by simp;omega,z,K,[],E.2,by simp,g4,by simp[A]⟩ ?_
 clear I l3 l4 l5 w S g3 g4 g5 z i t K;rintro k σ Y Z hk ⟨U,o,p,q,hnx,C,N,a,l',h5,hm,j⟩;by_cases r:k<b.zU.length
 ·obtain⟨x,W⟩:=wZ (b.zU[k]);have hmx:=yD (f:=Xp.cb) (zi r);rw[W]at hmx;have nm:¬m=Z:=by omega
  have ni:¬id=Z:=by omega
  have hw:=qe k;rw[zc r,W]at j;simp only[Wl]at j;obtain⟨x3,hp3,nx3,u,rfl,q3,q4,q5⟩:=mA b l' a x n (by unfold zA;omega) (qq Y Z (some (cZ x))) (Z+1) id m g (by omega) (by omega) d (by omega) l gs (by rw[zz _ _ _ _ ni];exact C) (by rw[zz _ _ _ _ nm];exact hm) (by rw[zz _ _ _ _ (by omega)];exact N);have hc3:hp3 id=some (Qs b m g false):=by rw[q5 id (by omega) d,zz _ _ _ _ ni];exact C
  have hg3:hp3 g=some (xk gs):=by rw[q5 g (by omega) l,zz _ _ _ _ (by omega)];exact N
  have P:hp3 Z=some (cZ x):=by rw[q5 Z (by omega) (by omega)];simp
  simp only[cZ,qK]at u P;by_cases Q:(Qa gs b.zf a l' x).1=0
  case neg=>
   rw[ze Q]at j;have h:kR gs b=(Qa gs b.zf a l' x).1:=by rw[c,j,ze Q]
   have d1':=vX Q;simp[U,h5,o,p,q,r,W,qK,u,d1',h,f20]
  ·rw[zd Q]at j;simp[U,h5,o,p,q,r,W,qK,u,Q,P,hw];exact⟨by omega,by omega,hc3,hg3,_,q4,j⟩
 ·obtain rfl:k=b.zU.length:=by omega
  rw[zp]at j;simp only[Wl]at j;have hz:(Wl gs b.zf [] E.2 b.zU).1=0:=by rw[A,j]
  have hyr:=WC (by rw[y];exact G);have R:=eX (rN hz).1;obtain⟨x3,hp3,nx3,u,rfl,q3,q4⟩:=lx b n (fun x D=>⟨⟨WD (R x D).1,by have:=yD (f:=Xp.cb) D;unfold zA;omega⟩,(R x D).2⟩) hyr false Y Z id m g (by omega) C;have h:kR gs b=if Wd b.zf b.zU 0 b.zU=true then 13 else 0:=by rw[c,j,zd rfl]
  cases s:Wd b.zf b.zU 0 b.zU
  ·rw[s,ze (by simp)]at h;rw[s]at u;simp[U,o,p,q,u,h,f20]
  ·rw[s,zd rfl]at h;rw[s]at u;simp[U,o,p,q,u,h,f20]
theorem rP(l:List qU)(b:Bk)(A:bH l<=zA)(u:eR (l.map qU.name))(B:Hp)(Z0:Nat):∃v Y' Z',wD C0 f19 [.sl 10 (l.map qU.V),.agg b.V] B Z0=some (v,Y',Z')/\v=.ref (Z0+1+1+1) 0 0/\Z0+1+1+1+1<=Z'/\Y' (Z0+1)=some (xk [])/\Y' (Z0+1+1)=some (xk (l.map qU.name))/\Y' (Z0+1+1+1)=some (Qs b (Z0+1) (Z0+1+1) false):=by
 have C:=VZ l;unfold zA at A;unfold wD;rw[zd (by simp[f19])];refine qF rfl ?_;simp[Bk.V,qv,qS];refine zL (fun k σ Y Z=>σ 13=.sl 10 (l.map qU.V)/\σ 14=int l.length/\σ 15=int k/\σ 5=.ref (Z0+1+1+1) 0 0/\Z0+1+1+1+1<=Z/\Y (Z0+1)=some (xk [])/\Y (Z0+1+1)=some (xk ((l.take k).map qU.name))/\Y (Z0+1+1+1)=some (Qs b (Z0+1) (Z0+1+1) false)) l.length
  ⟨by simp,by simp,by simp,by simp,by simp,by simp[xk,pA],by simp[xk,pA],by simp[vd]⟩ ?_
 rintro k σ Y Z K ⟨d,e,f,w,n,x,o,z⟩;by_cases c:k<l.length
 ·have D:=qe k;obtain⟨s,hs⟩:=wZ (l[k]);have p:s.name ∉ (l.take k).map qU.name:=by
   intro g;obtain⟨y,E,F⟩:=q9.1 g;obtain⟨j,q⟩:=Va E;have r:j<k:=by have:=(zk.1 q).1;simp at this;omega
   have t:l[j]?=some y:=by rw[List.getElem?_take_of_lt r]at q;exact q
   have G:=(I1 u t).1;have L:=(I1 u (i:=k) (s:=s) (by rw[zq c,hs])).1;rw[F]at G;omega
  have H:¬Z0+1+1=Z:=by omega
  have I:¬Z0+1+1+1=Z:=by omega
  have J:¬Z0+1=Z:=by omega
  have a:=L8 (Y:=qq Y Z (some (rI s))) (id:=Z0+1+1) (l:=(l.take k).map qU.name) s.name (by rw[zz _ _ _ _ H];exact o) p;have h:(l.take k).map qU.name++[s.name]=(l.take (k+1)).map qU.name:=by rw[zQ c,hs];simp
  rw[h]at a;have m:=z;rw[vd]at m;simp only[rI]at a;simp[d,e,f,w,c,hs,m,I,a,D];exact⟨by omega,by omega,by rw[zz _ _ _ _ J];exact x,by simp[vd]⟩
 ·obtain rfl:k=l.length:=by omega
  rw[qf]at o;simp[d,e,f,w,f19];exact⟨n,x,o,z⟩
noncomputable def bK (l:List qU) (b:Bk):Int:=if kT l=0 then kR (l.map qU.name) b else kT l
noncomputable def FLB (out:List qU->Bk->O):zb->Option O:=qd (α:=List qU×Bk) (fun a=>[.sl 10 (a.1.map qU.V),.agg a.2.V]) (fun a=>bH a.1<=zA/\a.2.cb<=zA) (fun a=>out a.1 a.2)
theorem UF(out:List qU->Bk->O)(l:List qU)(b:Bk)(Y:Hp)(Z:Nat)(h:bH l<=zA)(c:b.cb<=zA):hP (FLB out) [.sl 10 (l.map qU.V),.agg b.V] Y Z=some (out l b,Y,Z):=
 QL (l,b) _ _ (by simp[Bk.V]) (fun a b e=>by obtain⟨d,f⟩:=a;obtain⟨g,i⟩:=b;simp only[zj,zG,O.agg.injEq]at e;rw[ZC e.1,Kr e.2]) ⟨h,c⟩ (.inr (by simp[Bk.V]))
noncomputable abbrev Cck2:Ctx:=zV prog [(18,hP (FSs fun l=>int (kT l))),(19,wD C0 f19),(20,wD Mw f20)]
theorem zcz:Gd Cck2:=zW mixed ⟨bI,Xl,rO,trivial⟩
theorem Le(l:List qU)(b:Bk)(g:bH l<=zA)(h:b.cb<=zA):zv Cck2 Tryz.f6 [.sl 10 (l.map qU.V),.agg b.V]=some (int (bK l b)):=by
 refine zn rfl ?_;have i:=fun Y Z=>UA (fun l=>int (kT l)) l Y Z g rfl
 by_cases a:kT l=0
 case neg=>
  have c:=vX a;have d:bK l b=kT l:=by unfold bK;rw[ze a]
  simp[Bk.V,i,c,d,wK,Tryz.f6]
 have e:=zcp a;have d:bK l b=kR (l.map qU.name) b:=by unfold bK;rw[zd a]
 obtain⟨q,Y1,f,j,rfl,r,k,m,n⟩:=rP l b g e.up (qq (fun _=>none) 0 (some ⟨27,3,false,[b.V]⟩)) 1;obtain⟨s,Y2,o,p,rfl⟩:=Ld b h Y1 f 4 2 3 (by omega) (by omega) (by omega) (by omega) (by omega) (l.map qU.name) n k m;simp only[Bk.V]at j;simp[Bk.V,i,a,j,p,d,wK,Tryz.f6]
theorem GW:zg prog 6 (hP (FLB fun l b=>int (bK l b))):=
 vM zcz func6 false [] fun⟨l,b⟩ ⟨a,c⟩=>⟨by simp[Tryz.f6],_,Le l b a c,z8 _⟩
theorem zcA(l:List qU)(c:qO):lM l c.names=ti (l.map qU.name) c:=by
 have h:∀n,(yV n l).isSome=decide (n∈l.map qU.name):=fun n=>by rw[dC,qA];unfold Kw;simp[Yo]
 unfold lM ti;congr 1;funext n;exact h n
theorem zfB{gs:List za}{L:List w9}{a:za}{l:List za}{x:Xp}(h:(Qa gs L a l x).1=0):(Qa gs L a l x).2=l++[x.qp]:=by have b:=(Mv h).1;rw[<-b]at h⊢;exact Uj h
noncomputable def lN (gs:List za) (b:Bk) (k:Nat):Int:=match b.zU[k]? with
 |some x=>(Qa gs b.zf (vC b.zU k) (yM b k) x).1
 |none=>0
theorem F9{gs:List za}{b:Bk}{k:Nat}(h:k<b.zU.length):lN gs b k=(Qa gs b.zf (vC b.zU k) (yM b k) b.zU[k]).1:=by unfold lN;rw[zq h]
theorem Lf{gs:List za}{b:Bk}{k:Nat}(h:k<b.zU.length):(Wl gs b.zf (vC b.zU k) (yM b k) (b.zU.drop k)).1=if lN gs b k=0 then(Wl gs b.zf (vC b.zU (k+1)) (yM b (k+1)) (b.zU.drop (k+1))).1 else lN gs b k:=by
 rw[zc h,Wl,F9 h];by_cases a:(Qa gs b.zf (vC b.zU k) (yM b k) b.zU[k]).1=0
 ·rw[zd a,zd a,zfB a,VX h,lI h]
 ·rw[ze a,ze a]
noncomputable def FExN:zb->Option O:=qd (α:=List qU×Bk×Nat) (fun a=>[.sl 10 (a.1.map qU.V),.agg a.2.1.V,int a.2.2,wb false]) (fun a=>(a.1.length<=zA/\a.2.1.cb<=zA/\eR (a.2.1.zf.map w9.name))/\a.2.2<a.2.1.zU.length) (fun a=>int (lN (a.1.map qU.name) a.2.1 a.2.2))
theorem O7(l:List qU)(b:Bk)(n:Nat)(Y:Hp)(Z:Nat)(a:l.length<=zA)(h:b.cb<=zA)(c:eR (b.zf.map w9.name))(d:n<b.zU.length):hP FExN [.sl 10 (l.map qU.V),.agg b.V,int n,wb false] Y Z=some (int (lN (l.map qU.name) b n),Y,Z):=
 QL (l,b,n) _ _ (by simp[Bk.V]) (fun x y e=>by obtain⟨i,j,f⟩:=x;obtain⟨k,m,g⟩:=y;simp only[zj,zG,O.agg.injEq]at e;have:=qR e.2.2;rw[ZC e.1,Kr e.2.1,show f=g by omega]) ⟨⟨a,h,c⟩,d⟩ (.inl rfl)
abbrev ziZ:List Nat:=[84,39]
noncomputable abbrev zdH:Ctx:=zV prog [(81,hP (FNb fun a b c=>int (xO a b c))),(44,hP (FBS fun b s=>YK (kF s b.zf))),(75,hP (FS wy)),(53,GC fun c=>int c.check),(83,hP (FSCn fun l c=>wb (!lM l c.names))),(82,hP (FS Yf)),(84,hP (FBn fun b n=>.sl 1 (zy (yM b n)))),(39,zh false [1] (OP fun l v=>wb (decide (v∈l)))),(85,hP (FRN (fun l n=>int (jn l n)) fun _ n=>1<=n/\n<=20)),(86,hP (FPh fun l=>int (yU l)))]
theorem UG:AM.Good zdH (fun g=>ziZ.contains g):=qC mixed ⟨J7,by simp,ZB,by simp,Z1,by simp,WX,by simp,th,by simp,WU,by simp,ft,fun _=>zu _ _,kQ,fun _=>zu _ _,JE,by simp,cr,by simp,trivial⟩
theorem Lg(L:List qU)(b:Bk)(n:Nat)(S:L.length<=zA)(T:b.cb<=zA)(hu:eR (b.zf.map w9.name))(U:n<b.zU.length):zv zdH f43 [.sl 10 (L.map qU.V),.agg b.V,int n,wb false]=some (int (lN (L.map qU.name) b n)):=by
 refine zn rfl ?_;have hL:=qZ vR b.zf;have hH:=qZ Q1 b.holds;have hX:=qZ X5 b.zU;have hbc:b.cb=yn w9.cb b.zf+yn vi.cb b.holds+yn Xp.cb b.zU:=rfl;have d:=F9 (gs:=L.map qU.name) U;obtain⟨x,hx⟩:=wZ (b.zU[n]);have W:=yD (f:=Xp.cb) (zi U);rw[hx]at d W;have hxc:x.cb=x.name.length+x.wH.length+x.flag.length+x.cond.cb+x.qp.length+x.yF.length+yn yz.cb x.zF:=rfl;have h:=fun Y Z=>ax (fun b s=>YK (kF s b.zf)) b x.wH Y Z T
 have D:=fun Y Z=>FF (fun b n=>.sl 1 (zy (yM b n))) b n Y Z ⟨T,by omega⟩
 have X:(yM b n).length<=zA:=by unfold yM;simp;omega
 have B:=fun Y Z=>ay (fun l v=>wb (decide (v∈l))) (yM b n) x.qp Y Z X
 simp only[Bk.V]at h D;unfold zA at T;have i:=fun Y Z=>fo (fun a b c=>int (xO a b c)) x.name (vC b.zU n) (decide (n=0)) Y Z (by unfold zA;omega) rfl
 have hnf:xO x.name (vC b.zU n) (decide (n=0))=jS x.name (vC b.zU n):=by
  rw[J8];by_cases N:n=0
  ·subst N;simp[vC]
  ·simp[N]
 simp only[hnf]at i;have z:x.flag.length<=zA:=by unfold zA;omega
 have F:x.qp.length<=zA:=by unfold zA;omega
 have u:=fun Y Z=>O5 (fun l c=>wb (!lM l c.names)) L x.cond Y Z S (by unfold zA;omega) rfl
 have hnn:lM L x.cond.names=ti (L.map qU.name) x.cond:=zcA L x.cond;rw[hnn]at u;simp only[we]at u;have A:=fun Y Z=>vx (fun c=>int c.check) x.cond Y Z (by unfold zA;omega)
 have K:=fun Y Z=>eP (fun l n=>int (jn l n)) (fun _ n=>1<=n/\n<=20) x.yF 20 Y Z ⟨by omega,by omega⟩
 have hph:=fun Y Z=>eS (fun l=>int (yU l)) x.zF Y Z (by unfold zA;omega)
 simp only[we]at A;have w:((n:Int)==0)=decide (n=0):=by rw[qA];simp
 refine y1 (fun st=>st.σ 0=.sl 10 (L.map qU.V)/\st.σ 2=int n/\st.σ 3=wb false/\st.σ 5=.ref 0 0 0/\st.Y 0=some ⟨27,3,false,[b.V]⟩/\st.Z=1) (by simp[Bk.V]) ?_;rintro⟨σ,Y,Z⟩ ⟨k,m,o,p,g,r⟩;simp only at k m o p g r;subst r;have C:=g;simp only[Bk.V]at C;refine y1 (fun st=>st.σ 0=.sl 10 (L.map qU.V)/\st.σ 2=int n/\st.σ 3=wb false/\st.σ 5=.ref 0 0 0/\st.Y 0=some ⟨27,3,false,[b.V]⟩/\st.Z=2/\st.σ 9=.ref 1 0 0/\st.Y 1=some ⟨57,13,false,[x.V]⟩) (by simp[k,m,o,p,C,U,hx,qK,Bk.V]) ?_;clear k m o p g C σ Y;rintro⟨σ,Y,Z⟩ ⟨k,m,o,p,g,r,y,t⟩;simp only at k m o p g r y t;subst r;refine y1 (fun st=>st.σ 0=.sl 10 (L.map qU.V)/\st.σ 2=int n/\st.σ 3=wb false/\st.σ 5=.ref 0 0 0/\st.Y 0=some ⟨27,3,false,[b.V]⟩/\st.Z=2/\st.σ 9=.ref 1 0 0/\st.Y 1=some ⟨57,13,false,[x.V]⟩/\st.σ 10=str []) (by simp[k,m,o,p,g,y,t]) ?_;clear k m o p g y t σ Y;rintro⟨σ,Y,Z⟩ ⟨k,m,o,p,g,r,y,t,e⟩;simp only at k m o p g r y t e;subst r;refine y1 (fun st=>st.σ 0=.sl 10 (L.map qU.V)/\st.σ 2=int n/\st.σ 3=wb false/\st.σ 5=.ref 0 0 0/\st.Y 0=some ⟨27,3,false,[b.V]⟩/\st.Z=2/\st.σ 9=.ref 1 0 0/\st.Y 1=some ⟨57,13,false,[x.V]⟩/\st.σ 10=str (vC b.zU n)) ?_ ?_
 ·have C:=g;simp only[Bk.V]at C;by_cases N:n=0
  ·subst N;simp[k,m,o,p,g,y,t,e,vC]
  ·obtain⟨j,rfl⟩:∃j,n=j+1:=⟨n-1,by omega⟩;have hj:j<b.zU.length:=by omega
   have wj:IntKind.i64.wrap ((j:Int)+1-1)=(j:Int):=by rw[wS (by omega) (by omega)];omega
   have wj':=wq (j:Int);have j2:0<(j:Int)+1:=by omega
   have I:=VX hj;simp[k,m,o,p,C,y,t,e,j2,wj,wj',hj,I,qK,Bk.V]
 clear k m o p g y t e σ Y;rintro⟨σ,Y,Z⟩ ⟨k,m,o,p,g,r,y,t,e⟩;simp only at k m o p g r y t e;subst r;simp only[Bk.V]at g;simp only[qK]at t;obtain⟨pn,I⟩:=wZ (vC b.zU n);rw[I]at e i d;obtain⟨l,hl⟩:=wZ (yM b n);rw[hl]at D B d;unfold Qa at d;by_cases E:jS x.name pn=0
 case neg=>rw[ze E]at d;have Pw:=vX E;simp[k,m,o,p,g,y,t,e,w,i,Pw,d,f43]
 rw[zd E]at d;rcases fp hu x.wH with⟨f1,q,hq,_,f2⟩|⟨f1,f2⟩
 case inr=>rw[f1,ze (by simp)]at d;simp only[f2,dv]at h;simp[k,m,o,p,g,y,t,e,w,i,E,h,d,f43]
 rw[f1,zd rfl]at d;simp only[f2,JD]at h;cases G:wy x.flag
 ·rw[G,ze (by simp)]at d;simp[k,m,o,p,g,y,t,e,w,i,E,h,z,G,d,f43]
 rw[G,zd rfl]at d;by_cases H:x.cond.check=0
 case neg=>rw[ze H]at d;have c4':=vX H;simp[k,m,o,p,g,y,t,e,w,i,E,h,z,G,A,c4',d,f43]
 rw[zd H]at d;by_cases P:ti (L.map qU.name) x.cond=true
 case neg=>
  rw[ze P]at d;have cn':ti (L.map qU.name) x.cond=false:=by simpa using P
  rw[cn']at u;simp at d;simp[k,m,o,p,g,y,t,e,w,i,E,h,z,G,A,H,u,d,f43]
 rw[zd P]at d;rw[P]at u;cases J:Yf x.qp
 ·have M:jg l x.qp=3:=by simp[jg,J]
  rw[M]at d;simp at d;simp[k,m,o,p,g,y,t,e,w,i,E,h,z,G,A,H,u,F,J,d,f43]
 by_cases Q:x.qp∈l
 ·have M:jg l x.qp=7:=by simp[jg,J,Q]
  rw[M]at d;simp at d;rw[kp Q]at B;simp[k,m,o,p,g,y,t,e,w,i,E,h,z,G,A,H,u,F,J,D,B,d,f43]
 have M:jg l x.qp=0:=by simp[jg,J,Q]
 rw[zd M]at d;rw[kr Q]at B;by_cases R:jn x.yF 20=0
 case neg=>rw[ze R]at d;have c6':=vX R;simp[k,m,o,p,g,y,t,e,w,i,E,h,z,G,A,H,u,F,J,D,B,K,c6',d,f43]
 rw[zd R]at d;simp[k,m,o,p,g,y,t,e,w,i,E,h,z,G,A,H,u,F,J,D,B,K,R,hph,d,f43]
theorem Ga:zg prog 43 (hP FExN):=
 vM UG func43 false [] fun⟨l,b,n⟩ ⟨⟨a,c,d⟩,e⟩=>⟨by simp[f43],_,Lg l b n a c d e,z8 _⟩
theorem zcB(l:List qU)(n:za):(I7 (yV n l)).cond.names=xf l n:=by unfold xf I7;cases yV n l<;>rfl
def qm(out:List za):List qU->Nat
 |[]=>0
 |s::l=>(if out.contains s.name=true then 0 else s.cond.names.length)+qm out l
theorem Mx(out:List za)(n:za):∀l:List qU,qm (out++[n]) l<=qm out l
 |[]=>zl _
 |s::l=>by
  have:=Mx out n l;simp only[qm];by_cases h:out.contains s.name=true
  ·rw[zd h,zd (by simp at h⊢;exact .inl h)];omega
  ·rw[ze h];split<;>omega
theorem mY{out:List za}{n:za}(h:n ∉ out):∀l:List qU,(xf l n).length+qm (out++[n]) l<=qm out l
 |[]=>zl _
 |s::l=>by
  by_cases hs:s.name=n
  ·have a:xf (s::l) n=s.cond.names:=by simp[xf,yV,hs]
   have:=Mx out n l;rw[a];simp only[qm];rw[zd (by simp[hs]),ze (by rw[hs];simpa using h)];omega
  ·have a:xf (s::l) n=xf l n:=by simp[xf,yV,hs]
   have:=mY h l;rw[a];simp only[qm];have b:(out++[n]).contains s.name=out.contains s.name:=by simp[hs]
   rw[b];omega
theorem UH(out:List za):∀l:List qU,qm out l<=bH l
 |[]=>ZS _
 |s::l=>by
  have a:=UH out l;have b:=kU _ s.cond (zl _);have c:bH (s::l)=s.cb+bH l:=by simp[bH]
  have d:s.cb=1+s.name.length+KA s.ins+KA s.outs+s.cond.cb:=rfl;simp only[qm];split<;>omega
theorem UI:∀(x y:List za),eR x->eR y->(∀c,c∈x↔c∈y)->x=y
 |[],[],_,_,_=>rfl
 |[],b::y,_,_,h=>absurd ((h b).2 (by simp)) (by simp)
 |a::x,[],_,_,h=>absurd ((h a).1 (by simp)) (by simp)
 |a::x,b::y,k,l,h=>by
  obtain⟨i,m⟩:=yj.1 k;obtain⟨j,n⟩:=yj.1 l;have f:a=b:=by
   rcases zw.1 ((h a).1 (by simp))with e|e
   ·exact e
   ·rcases zw.1 ((h b).2 (by simp))with g|g
    ·exact g.symm
    ·have:=Qr (i b g) (j a e);rw[X6]at this;cases this
  subst f;rw[UI x y m n fun c=>⟨fun d=>?_,fun d=>?_⟩]
  ·rcases zw.1 ((h c).1 (by simp[d]))with e|e
   ·subst e;have:=i c d;rw[X6]at this;cases this
   ·exact e
  ·rcases zw.1 ((h c).2 (by simp[d]))with e|e
   ·subst e;have:=j c d;rw[X6]at this;cases this
   ·exact e
theorem My{l:List za}(h:l.Nodup):eR (l.mergeSort fun x y=>decide (x<=y)):=by
 have Y:=zkf l fun x y=>decide (x<=y)
 have hs:=List.pairwise_mergeSort (le:=fun x y:za=>decide (x<=y)) (fun a b c d e=>by simp only[zS]at d e⊢;exact List.le_trans d e) (fun a b=>by simp only[qx,zS];exact List.le_total a b) l;have f:(l.mergeSort fun x y=>decide (x<=y)).Nodup:=Y.nodup_iff.2 h;refine(hs.and f).imp fun{a b} g=>?_
 rw[bytesLess_eq];obtain⟨d,e⟩:=g;simp only[zS]at d⊢;exact Xm fun f=>e (List.le_antisymm d (List.not_lt.1 f))
theorem Kx{l:List za}(h:l.Nodup):Lib.compact l=l:=by
 refine Lib.compact_all l fun j a=>?_
 unfold Lib.keeps;simp only[zS];by_cases b:j=0
 ·exact .inl b
 ·refine .inr fun e=>?_
  rw[Y3 _ _ (by simpa using a),Y3 _ _ (by simp;omega)]at e;simp only[List.getElem_toArray]at e;exact(Lr.1 h (j-1) j (by omega) a (by omega)) e.symm
open Classical in
noncomputable def dD (l:List qU) (a:List za):List za:=if h:∃L,eR L/\∀n,n∈L↔fR (xf l) a n then h.choose else[]
theorem CK{l:List qU}{a out:List za}(h:GR (xf l) a out []):Lib.compact (out.mergeSort fun x y=>decide (x<=y))=dD l a:=by
 have d:=My h.nodup;have Y:=zkf out fun x y=>decide (x<=y)
 have e:∀n,n∈(out.mergeSort fun x y=>decide (x<=y))↔fR (xf l) a n:=fun n=>Y.mem_iff.trans (h.done n)
 rw[Kx (Y.nodup_iff.2 h.nodup)];have b:∃L,eR L/\∀n,n∈L↔fR (xf l) a n:=⟨_,d,e⟩;unfold dD;rw[zcP b];exact UI _ _ d b.choose_spec.1 fun c=>(e c).trans (b.choose_spec.2 c).symm
theorem UJ{l:List qU}{a:List za}(h:∃out,GR (xf l) a out [])(n:za):n∈dD l a↔fR (xf l) a n:=by
 obtain⟨out,h⟩:=h;have b:=My h.nodup;have Y:=zkf out fun x y=>decide (x<=y)
 rw[<-CK h,Kx (Y.nodup_iff.2 h.nodup)];exact Y.mem_iff.trans (h.done n)
theorem CL(l:List qU)(start:List za):∀(n:Nat) (out b:List za),GR (xf l) start out b->b.length+qm out l<=n->∃c,GR (xf l) start c []
 |_,out,[],h,_=>⟨out,h⟩
 | 0,_,_::_,_,h=>by simp at h
 |n+1,out,a::q,h,e=>by
  simp only[zx]at e;by_cases d:a∈out
  ·exact CL l start n out q (h.skip d) (by omega)
  ·have:=mY d l;exact CL l start n _ _ (h.take d) (by rw[zm];omega)
theorem Mz(l:List qU)(a:List za)(n:za):n∈dD l a↔fR (xf l) a n:=UJ (CL l a _ [] a (.begin _ _) (zl _)) n
def tw(Y:Hp)(Z:Nat)(e s:Nat)(v:O)(xs:List zb):Prop:=(v=.nil/\xs=[])\/(xs≠[]/\∃id,id<Z/\v=.own id 0 xs.length/\Y id=some ⟨e,s,true,xs⟩)
theorem tw.more{Y:Hp}{Z e s:Nat}{v:O}{xs:List zb}(h:tw Y Z e s v xs)(b:Option Blk):tw (qq Y Z b) (Z+1) e s v xs:=by
 rcases h with⟨rfl,rfl⟩|⟨a,id,d,rfl,c⟩
 ·exact .inl ⟨rfl,rfl⟩
 ·exact .inr ⟨a,id,by omega,rfl,by rw[zz _ _ _ _ (by omega)];exact c⟩
theorem tw.Y5{P:Program}{Y:Hp}{Z e s by_:Nat}{v:O}{xs:List zb}{ys:List zb}{z:zb}{t:TypeId}(h:tw Y Z e s v xs)(b:yp P t=some e)(hs:qE P e=some s)(c:kD P e=some by_)(d:y8 P e=some z)
  (a:z.length=s) (f:0<s) (g:xs.length+ys.length<=maxLen) (i:(xs.length+ys.length)*by_<=140737488355328) :
  ∃k Y' Z',jb P Y Z t t v (.sl s ys)=some (k,Y',Z')/\tw Y' Z' e s k (xs++ys):=by
 rcases h with⟨rfl,rfl⟩|⟨l,id,hid,rfl,m⟩
 ·simp at g i;by_cases j:ys=[]
  ·subst j;exact⟨.nil,Y,Z,by simp[jb,b,hs,c,d,a,f,AM.view,maxLen],.inl ⟨rfl,rfl⟩⟩
  ·exact⟨.own Z 0 ys.length,_,Z+1,by simp[jb,b,hs,c,d,a,f,g,i,AM.view,j];rfl,.inr ⟨by simpa using j,Z,by omega,by simp,by simp⟩⟩
 ·exact⟨.own Z 0 (xs.length+ys.length),_,Z+1,by simp[jb,b,hs,c,d,a,f,g,i,AM.view,m];rfl,.inr ⟨by simp[l],Z,by omega,by simp,by simp⟩⟩
def Ak(a:List za):Option Blk:=if a=[]then none else some ⟨9,1,true,zy a⟩
theorem tw.ret{Y:Hp}{Z:Nat}{v:O}{a:List za}(h:tw Y Z 9 1 v (zy a))(Z':Nat):XJ (Ak a) v Y Z':=by
 rcases h with⟨rfl,b⟩|⟨b,id,hid,rfl,c⟩
 ·have:a=[]:=by simpa[zy]using b
  subst this;rfl
 ·have d:a≠[]:=fun e=>b (by rw[e];rfl)
  unfold Ak;rw[ze d];exact⟨id,rfl,c,rfl⟩
theorem tj(c:qO)(G:c.cb<=zA):∃x Y Z,yR (Cnm zA) f77 [.agg c.V] (fun _=>none) 0=some (x,Y,Z)/\XJ (Ak c.names) x Y Z:=by
 have B:=Wh c;have C:=vp c.args;have s:=kU _ c (zl _);have A:zA=268435456:=rfl;have g:∀k,(yh (c.args.take k)).length<=c.cb:=fun k=>by
  have e:yh c.args=yh (c.args.take k)++yh (c.args.drop k):=by rw[<-JG,xB]
  have:=zo List.length e;rw[xY,zm]at s;rw[zm]at this;omega
 refine Vt rfl ?_;by_cases r:c.kind=5
 ·have p:=fun Y Z=>qN.yx (P:=prog) (t:=38) (c:=[str c.name]) (qN.nil Y Z 9 1) Jn mI oa ob rfl (by omega) (by simp[maxLen]) (by simp)
  have h:(c.kind==5)=true:=by simpa using r
  simp only[Qx]at p;simp[we,h,zt,zJ,zr,p];refine zL (fun k σ Y Z=>σ 15=.sl 7 (c.args.map qO.V)/\σ 16=int c.args.length/\σ 17=int k/\tw Y Z 9 1 (σ 3) (zy ([c.name]++yh (c.args.take k)))) c.args.length
   ⟨by simp,by simp,by simp,by simp;exact .inr ⟨by simp[zy],_,by omega,rfl,by simp[zy,yh]⟩⟩ ?_
  rintro k σ Y Z D ⟨b,d,f,i⟩;by_cases a:k<c.args.length
  ·have u:=qe k;obtain⟨x,j⟩:=wZ (c.args[k]);have l:x∈c.args:=by rw[<-j];exact zi a
   have v:=xL l;have w:=kU _ x (zl _);have y:=fun Y Z=>Qf (fun c=>.sl 1 (zy c.names)) zA x Y Z ⟨by omega,by omega⟩
   have E:=g k;have m:=i.more (some ⟨53,7,false,[x.V]⟩);obtain⟨F,Y',Z',n,o⟩:=m.Y5 (P:=prog) (t:=38) (ys:=zy x.names) Jn mI oa ob rfl (by omega) (by simp[maxLen,wa];omega) (by simp[wa];omega);have q:=QB a;rw[j]at q;simp[b,d,f,a,j,y,n,u,Y9];refine⟨by omega,?_⟩;rw[q];simpa[zy]using o
  ·obtain rfl:k=c.args.length:=by omega
   rw[qf]at i;have z:=i.ret Z;simp[b,d,f,f77];rw[xY];simpa[r]using z
 ·have h:=jN r;simp[we,h];refine zL (fun k σ Y Z=>σ 15=.sl 7 (c.args.map qO.V)/\σ 16=int c.args.length/\σ 17=int k/\tw Y Z 9 1 (σ 3) (zy (yh (c.args.take k)))) c.args.length
   ⟨by simp,by simp,by simp,by simp;exact .inl ⟨rfl,by simp[zy,yh]⟩⟩ ?_
  rintro k σ Y Z D ⟨b,d,f,i⟩;by_cases a:k<c.args.length
  ·have u:=qe k;obtain⟨x,j⟩:=wZ (c.args[k]);have l:x∈c.args:=by rw[<-j];exact zi a
   have v:=xL l;have w:=kU _ x (zl _);have y:=fun Y Z=>Qf (fun c=>.sl 1 (zy c.names)) zA x Y Z ⟨by omega,by omega⟩
   have E:=g k;have m:=i.more (some ⟨53,7,false,[x.V]⟩);obtain⟨F,Y',Z',n,o⟩:=m.Y5 (P:=prog) (t:=38) (ys:=zy x.names) Jn mI oa ob rfl (by omega) (by simp[maxLen,wa];omega) (by simp[wa];omega);have q:=QB a;rw[j]at q;simp[b,d,f,a,j,y,n,u,Y9];refine⟨by omega,?_⟩;rw[q];simpa[zy]using o
  ·obtain rfl:k=c.args.length:=by omega
   rw[qf]at i;have z:=i.ret Z;simp[b,d,f,f77];rw[xY];simpa[r]using z
noncomputable def FNf:zb->Option (Option Blk):=qd (α:=qO) (fun c=>[.agg c.V]) (fun c=>c.cb<=zA) fun c=>Ak c.names
theorem Gb(c:qO)(Y:Hp)(Z:Nat)(h:c.cb<=zA):jm [] FNf [.agg c.V] Y Z=if c.names=[]then some (.nil,Y,Z)else some (.own Z 0 c.names.length,qq Y Z (some ⟨9,1,true,zy c.names⟩),Z+1):=by
 have e:FNf [.agg c.V]=some (Ak c.names):=qD (V:=fun c:qO=>[O.agg c.V]) (a:=c) (fun a b e=>by simp only[zj,zG,O.agg.injEq]at e;exact xx e) h
 unfold jm;simp only[show zC Y [.agg c.V]=some ([.agg c.V],Y) by simp[we],show yS [] [O.agg c.V]=[O.agg c.V]from rfl,e];unfold Ak;by_cases d:c.names=[]
 ·rw[zd d,zd d]
 ·rw[ze d,ze d];simp[zy]
theorem tk:zg prog 77 (jm [] FNf):=
 QK (fn:=f77) (code:=_) (zW mixed ⟨cu zA,trivial⟩:AM.Good (Cnm zA) _) ⟨func77,by kernel_rfl,rfl,by kernel_rfl⟩ [] _ fun args r h=>by obtain⟨c,rfl,a,rfl⟩:=zO h;exact⟨by simp[f77],tj c a⟩
end Go.Q
namespace Go.AM
open Go.RowKit Go.Sort Go.Proofs
variable{dr:Prop}
abbrev YZ(zs:List za):List zb:=zs.map fun n=>[str n]
theorem UK{a b:List za}(h:YZ a=YZ b):a=b:=
 jZ (fun x y e=>by have:=List.head_eq_of_cons_eq e;exact wC this) h
@[simp]theorem lO(zs:List za):(YZ zs).length=zs.length:=by simp[YZ]
theorem UL{zs:List za}{i:Nat}{c:zb}(h:(YZ zs)[i]?=some c):∃hi:i<zs.length,c=[str zs[i]]:=by
 unfold YZ at h;rw[qz]at h;cases a:zs[i]? with
 |none=>rw[a]at h;cases h
 |some x=>rw[a]at h;obtain⟨hi,rfl⟩:=zk.1 a;exact⟨hi,by simpa using h.symm⟩
def Lh(P:Program)(f:Nat)(F:List za->List za)(a:Bool):Prop:=
 ∀(blk cap:Nat) (zs:List za) (w:World),Holds encStr w blk 0 zs.toArray->blk<w.heap.size->zs.length<4611686018427387904->zs.length<=cap ->
  Calls P f #[.slice (some ⟨blk,0,none⟩) zs.length cap] w fun e w'=>e=.returned (if a then .slice (some ⟨blk,0,none⟩) (F zs).length cap else .tuple #[]) /\
   ∃(q:Nat) (b:Array Obj) (d:List za),d.length=zs.length/\(∃r,d=F zs++r)/\w'=grow (putRow encStr (Sort.ahead w q) blk 0 d.toArray) b
open Classical in
noncomputable def rQ (es:List zb):Option (List za):=if h:∃zs:List za,es=YZ zs then some h.choose else none
theorem O8(zs:List za):rQ (YZ zs)=some zs:=by have a:∃ys:List za,YZ zs=YZ ys:=⟨zs,rfl⟩;unfold rQ;rw[zcP a];have e:=UK a.choose_spec;rw[<-e]
theorem Li{es:List zb}{zs:List za}(h:rQ es=some zs):es=YZ zs:=by
 unfold rQ at h;split at h
 ·rename_i a;injection h with h
  rw[<-h];exact a.choose_spec
 ·cases h
noncomputable def fD (F:List za->List za) (a:Bool):AM.Spec:=fun args Y Z=>
 match args with
 |[.nil]=>some (if a then .nil else .w5 [],Y,Z)
 |[.own id off n]=>match Y id with
  |some b=>match rQ b.es with
   |some zs=>if off=0/\b.arr=true/\b.s=1/\n=zs.length/\zs.length<4611686018427387904 then
     some (if a then .own id 0 (F zs).length else .w5 [],qq Y id (some ⟨b.e,b.s,b.arr,YZ (F zs)⟩),Z)else none
   |none=>none
  |none=>none
 |_=>none
theorem rR(F:List za->List za)(a:Bool){id e:Nat}{zs:List za}{Y:Hp}{Z:Nat}(h:Y id=some ⟨e,1,true,YZ zs⟩)(b:zs.length<4611686018427387904) :
  fD F a [.own id 0 zs.length] Y Z=some (if a then .own id 0 (F zs).length else .w5 [],qq Y id (some ⟨e,1,true,YZ (F zs)⟩),Z):=by
 unfold fD;simp only[h,O8];simp only[b,and_self,qV]
theorem rS(w:World)(blk:Nat)(d:Array za){cur:Array Value}{e:TypeId}(h:w.heap[blk]?=some (.cells cur e (0,0))) :
  putRow encStr w blk 0 d=w.setRow blk (putCells encStr 0 d cur):=by
 unfold putRow mapBlock World.setRow;congr 1;apply Array.ext_getElem?;intro i;simp only[kS];by_cases hi:blk=i
 ·subst hi;simp only[qV,h,zH,onCells]
 ·simp[hi]
theorem CM(w:World)(blk q:Nat)(d:Array za)(a:Array Obj):Fr dr (putRow encStr w blk 0 d) (fun _=>False) (grow (putRow encStr (Sort.ahead w q) blk 0 d) a):=by
 refine⟨rfl,rfl,rfl,?_,fun _=>?_,fun b c _=>?_⟩
 ·show _<=(_++a).size;rw[Q7];exact U3 _ _
 ·exact U3 _ _
 ·exact vU c
theorem lP{P:Program}{f:Nat}{F:List za->List za}{k:Bool}(I:∃fn,P.funcs[f]?=some fn/\(fn.name== "runtime.NumGoroutine")=false/\fn.body.isNone=false)(J:Lh P f F k)(A:∀w,Calls P f #[.slice none 0 0] w fun e w'=>e=.returned (if k then .slice none 0 0 else .tuple #[])/\w'=w):yY dr P f (fD F k):=by
 refine⟨I,?_⟩;intro args Y Z r Y' Z' h w S G vs hi hz;unfold fD at h;split at h
 case h_3=>cases h
 case h_1=>
  obtain⟨u,us,rfl,H,t⟩:=hz.y9;obtain rfl:=t.Yq;obtain rfl:=H.xQ;injection h with h;injection h with K h;injection h with L M;subst K;subst L;subst M;refine(A w).mono fun e w' N=>?_
  obtain⟨rfl,rfl⟩:=N;refine⟨_,S,G,rfl,.refl hi,?_⟩;cases k with
  |false=>exact kx
  |true=>exact .c .nil
 rename_i id off n;obtain⟨u,us,rfl,H,t⟩:=hz.y9;obtain rfl:=t.Yq;have l:=H.vy;obtain⟨cap,g1,g2,g3,g4,rfl⟩:=H.vf;split at h
 case h_2=>cases h
 rename_i b hb;split at h
 case h_2=>cases h
 rename_i zs m;have m:=Li m;split at h
 case isFalse=>cases h
 rename_i hx;obtain⟨rfl,harr,Q,hn,B⟩:=hx;injection h with h
 injection h with K h;injection h with L M;subst K;subst L;subst M;subst hn;have o:=hi.live id b hb;have a:(G id).s=1:=by rw[<-o.bs];exact Q
 obtain⟨cur,R,c2,c3⟩:=o.row l;rw[a]at c3 g4;have p:=o.fit l;rw[m,a]at p;simp only[lO,ziK,wg]at p g4;have y:∀j (C:j<zs.length),cur[j]?=some (encStr zs[j]):=fun j C=>by obtain⟨u,q1,q2⟩:=c3 j 0 [str zs[j]] (str zs[j]) (by rw[m];simp[YZ,C]) rfl;rw[ziK,vS]at q1;obtain⟨rfl,_⟩:=q2.2.1.yi;exact q1
 have hH:Holds encStr w (G id).g 0 zs.toArray:=by
  intro j C;have T:j<zs.length:=by simpa using C
  constructor
  ·rw[wg,zdY w _ _ cur _ _ R,y j T,Y3 _ j C];simp
  ·simp[World.frozen?,R]
 have U:=J (G id).g cap zs w hH o.lt B g2;rw[a];simp only[Y4];refine U.mono fun e w' N=>?_
 obtain⟨rfl,q,os,d,W,⟨rr,D⟩,rfl⟩:=N;have hFl:(F zs).length<=zs.length:=by rw[<-W,D,zm];omega
 have z:=kW.set (dr:=dr) hi hb l (putCells encStr 0 d.toArray cur) (YZ (F zs)) (by simp[putCells,c2])
  (fun c hc=>by obtain⟨x,_,rfl⟩:=q9.1 hc;rw[a];rfl)
  (by rw[a,lO];omega)
  (fun i j c pv X E=>by
   obtain⟨Dp,rfl⟩:=UL X;have hj0:j=0:=by have:=(zk.1 E).1;simpa using this
   subst hj0;obtain rfl:str (F zs)[i]=pv:=by simpa using E
   refine⟨encStr (F zs)[i],?_,fun _=>.v rfl,.c (.v rfl),rfl⟩;rw[a,ziK,vS];have hic:i<cur.size:=by rw[c2];omega
   unfold putCells;rw[Array.getElem?_mapIdx,jC hic];simp only[zH];have hid:i<d.length:=by omega
   rw[zd ⟨ZS _,by simpa using hid⟩];have:d.toArray[i-0]! = (F zs)[i]:=by rw[Nat.sub_zero,Y3 _ i (by simpa using hid)];simp[D,List.getElem_append_left Dp]
   rw[this])
 rw[<-rS w _ _ R]at z;refine⟨_,S,G,rfl,z.trans (kW.grown z.inv (CM w (G id).g q d.toArray os)),?_⟩;cases k with
 |false=>exact kx
 |true=>simp only[qV];have:=qw.own (w:=grow (putRow encStr (Sort.ahead w q) (G id).g 0 d.toArray) os) (S:=S) (G:=G) (Z:=Z) (id:=id) (off:=0) (n:=(F zs).length) (cap:=cap) g1 (by omega) g3 (by rw[a];omega) l;simpa using this
end Go.AM
namespace Go.Proofs
open Go.Shelf
def Tryz.GX:Go.Shelf.Ren:=⟨fun|125=>156|128=>193|129=>133|190=>127|258=>155|302=>185|303=>186|304=>187|305=>188|306=>189|307=>190|308=>149|309=>191|310=>192|329=>227|330=>228|333=>226|334=>229|335=>230|336=>183|344=>266|n=>n,fun|0=>0|3=>3|4=>4|5=>5|9=>9|31=>38|46=>165|51=>163|53=>133|131=>112|182=>215|183=>216|218=>250|222=>254|228=>291|229=>102|n=>n,fun|n=>n⟩
theorem Tryz.MP:Go.Proofs.Lays.n190 prog Tryz.GX:={
 mixed:=by kernel_rfl
 f125:=Xb func156
 f128:=Xb func193
 f129:=Xb func133
 f190:=Xb func127
 f258:=Xb func155
 f302:=Xb func185
 f303:=Xb func186
 f304:=Xb func187
 f305:=Xb func188
 f306:=Xb func189
 f307:=Xb func190
 f308:=Xb func149
 f309:=Xb func191
 f310:=Xb func192
 f329:=Xb func227
 f330:=Xb func228
 f333:=Xb func226
 f334:=Xb func229
 f335:=Xb func230
 f336:=Xb func183
 f344:=Xb func266
 t0:=underlying0
 a0:=isAgg0
 z0:=sizeOf0
 v0:=zeroValue0
 t3:=underlying3
 a3:=isAgg3
 z3:=sizeOf3
 v3:=zeroValue3
 t4:=underlying4
 a4:=isAgg4
 z4:=sizeOf4
 v4:=zeroValue4
 t5:=underlying5
 a5:=isAgg5
 z5:=sizeOf5
 v5:=zeroValue5
 t9:=underlying9
 a9:=isAgg9
 z9:=sizeOf9
 v9:=zeroValue9
 t31:=underlying38
 a31:=isAgg38
 z31:=sizeOf38
 v31:=zeroValue38
 t46:=underlying165
 a46:=isAgg165
 z46:=sizeOf165
 v46:=zeroValue165
 t51:=underlying163
 a51:=isAgg163
 z51:=sizeOf163
 v51:=zeroValue163
 t53:=underlying133
 a53:=isAgg133
 z53:=sizeOf133
 v53:=zeroValue133
 t131:=underlying112
 a131:=isAgg112
 z131:=sizeOf112
 v131:=zeroValue112
 t182:=underlying215
 a182:=isAgg215
 z182:=sizeOf215
 v182:=zeroValue215
 t183:=underlying216
 a183:=isAgg216
 z183:=sizeOf216
 v183:=zeroValue216
 t218:=underlying250
 a218:=isAgg250
 z218:=sizeOf250
 v218:=zeroValue250
 t222:=underlying254
 a222:=isAgg254
 z222:=sizeOf254
 v222:=zeroValue254
 t228:=underlying291
 a228:=isAgg291
 z228:=sizeOf291
 v228:=zeroValue291
 t229:=underlying102
 a229:=isAgg102
 z229:=sizeOf102
 v229:=zeroValue102}
def Tryz.GY:Go.Shelf.Ren:=⟨fun|194=>128|n=>n,fun|0=>0|3=>3|4=>4|9=>9|31=>38|n=>n,fun|n=>n⟩
theorem Tryz.MQ:Go.Proofs.Lays.n194 prog Tryz.GY:={
 mixed:=by kernel_rfl
 f194:=Xb func128
 t0:=underlying0
 a0:=isAgg0
 z0:=sizeOf0
 v0:=zeroValue0
 t3:=underlying3
 a3:=isAgg3
 z3:=sizeOf3
 v3:=zeroValue3
 t4:=underlying4
 a4:=isAgg4
 z4:=sizeOf4
 v4:=zeroValue4
 t9:=underlying9
 a9:=isAgg9
 z9:=sizeOf9
 v9:=zeroValue9
 t31:=underlying38
 a31:=isAgg38
 z31:=sizeOf38
 v31:=zeroValue38}
end Go.Proofs
namespace Go.Q
open Go.RowKit Go.AM Go.Sort
abbrev cv(zs:List za):List za:=zs.mergeSort fun x y=>decide (x<=y)
theorem UM:Lh prog 127 cv false:=by
 intro blk cap zs w a b c g;refine(Any.slices_Sort_string Tryz.MP blk 0 cap zs w a b c).mono fun e w' d=>?_
 obtain⟨rfl,n,f,rfl⟩:=d;exact⟨rfl,n,f,_,by rw[List.length_mergeSort],⟨[],by simp⟩,rfl⟩
theorem Gc:Lh prog 128 Lib.compact true:=by
 intro blk cap zs w a d f b;refine(Any.slices_Compact_string Tryz.MQ blk 0 cap zs w a (by omega) b).mono fun e w' c=>?_
 obtain⟨rfl,q,rfl⟩:=c;refine⟨rfl,q,#[],Lib.compact zs++List.replicate (zs.length-(Lib.compact zs).length) [],?_,⟨_,rfl⟩,by simp⟩;have:=Lib.compact_length_le zs;simp;omega
theorem Ge:zg prog 127 (fD cv false):=
 lP ⟨_,func127,by decide,by kernel_rfl⟩ UM fun w=>Any.slices_Sort_string_none Tryz.MP none 0 w
theorem rT:zg prog 128 (fD Lib.compact true):=
 lP ⟨_,func128,by decide,by kernel_rfl⟩ Gc fun w=>Any.slices_Compact_string_empty Tryz.MQ none 0 w
def YD(l:List za):List za:=Lib.compact (cv l)
noncomputable abbrev zdI:Ctx:=zV prog [(126,jm [] (QT 9 1)),(127,fD cv false),(128,fD Lib.compact true)]
theorem Gf(l:List za)(g:l.length<=zA)(y:O)(c:iD 1 (zy l) y):∃i,zv zdI f80 [y]=some i/\wL i (.sl 1 (zy (YD l))):=by
 refine dT rfl ?_;have m:l.length<4611686018427387904:=by unfold zA at g;omega
 have d:(cv l).length=l.length:=List.length_mergeSort _;have a:=oQ (e:=9) c (by simpa[zy]using g) (fun _=>none) 0;have f:y=.nil/\l=[]\/(Z3 9 1 (zy l) y 0).1=.own 0 0 l.length/\(Z3 9 1 (zy l) y 0).2.1 (fun _=>none)=qq (fun _=>none) 0 (some ⟨9,1,true,YZ l⟩)/\(Z3 9 1 (zy l) y 0).2.2=1:=by
  generalize b:zy l=es at c;cases c with
  |nil=>exact .inl ⟨rfl,by simpa[zy]using b⟩
  |em=>exact .inr ⟨by simp[Z3,<-b,zy],by simp[Z3,<-b,zy,YZ],rfl⟩
  |sl=>exact .inr ⟨by simp[Z3,<-b,zy],by simp[Z3,<-b,zy,YZ],rfl⟩
 rcases f with⟨rfl,rfl⟩|⟨n,o,p⟩
 ·simp only[Z3]at a;have q:YD []=[]:=by simp[YD,cv,Lib.compact,Lib.compactUpTo]
  simp[a,fD,f80];rw[q];exact⟨.nil,by simp,wL.Gw (.inl ⟨rfl,rfl⟩)⟩
 ·rw[n,o,p]at a;have r:=rR cv false (id:=0) (e:=9) (zs:=l) (Y:=qq (fun _=>none) 0 (some ⟨9,1,true,YZ l⟩)) (Z:=1) (by simp) m;have j:=fun Y (h:Y 0=some ⟨9,1,true,YZ (cv l)⟩)=>rR Lib.compact true (id:=0) (e:=9) (zs:=cv l) (Y:=Y) (Z:=1) h (by omega)
  rw[d]at j;have k:=j _ (by simp:qq (qq (fun _=>none) 0 (some (⟨9,1,true,YZ l⟩:Blk))) 0 (some ⟨9,1,true,YZ (cv l)⟩) 0=_);simp at k;simp[a,r,k,f80];refine⟨.sl 1 (zy (YD l)),?_,wL.refl _⟩;simp[YD,zy,YZ];exact zZ (by simp)
theorem CN:zg prog 80 (zh true [1] (FTl (fun l=>.sl 1 (zy (YD l))) fun l=>l.length<=zA)):=
 W6 (fn:=f80) (zW mixed ⟨eG,Ge,rT,trivial⟩:AM.Good zdI _) (qX func80) true [1] _ fun args r h w S vs b=>by obtain⟨l,rfl,c,rfl⟩:=zO h;obtain⟨u,rfl,d⟩:=YS b;obtain⟨y,e,a⟩:=DJ d;obtain⟨f,g,i⟩:=Gf l c y e;exact⟨_,f,.cons a .nil,zI (zl 1) (by decide),g,i⟩
end Go.Q
namespace Go.Q
noncomputable abbrev PB:Ctx:=zV prog [(77,jm [] FNf),(39,zh false [1] (OP fun l v=>wb (decide (v∈l)))),(78,hP (Uv (fun l s=>ct (yV s l)) fun l _=>l.length<=zA)),(80,zh true [1] (FTl (fun l=>.sl 1 (zy (YD l))) fun l=>l.length<=zA))]
theorem zcC:Gd PB:=zW mixed ⟨tk,kQ,K9,CN,trivial⟩
def Que(Y:Hp)(Z:Nat)(v w:O)(q:List za):Prop:=(w=.nil/\q=[])\/((∃ad,w=.v (.slice (some ad) 0 0))/\q=[])\/∃id off es,id<Z/\w=.own id off q.length/\Y id=some ⟨9,1,true,es⟩/\off+q.length=es.length/\es.drop off=zy q/\∀m,v≠.own id 0 m
theorem Que.len{Y:Hp}{Z:Nat}{v w:O}{q:List za}(h:Que Y Z v w q):Vi prog 38 w=some (int q.length):=by
 rcases h with⟨rfl,rfl⟩|⟨⟨ad,rfl⟩,rfl⟩|⟨id,off,es,_,rfl,_⟩
 ·simp
 ·simp
 ·simp
theorem zcD(l:List qU)(a:za)(h:bH l<=zA):(I7 (yV a l)).cond.cb<=zA:=by
 by_cases b:∃y∈l,y.name=a
 ·obtain⟨j,c,d,_⟩:=iz b;rw[d];have:=J9 (zi c);have f:l[j].cb=1+l[j].name.length+KA l[j].ins+KA l[j].outs+l[j].cond.cb:=rfl;show l[j].cond.cb<=zA;omega
 ·rw[aA fun y g e=>b ⟨y,g,e⟩];show r8.cond.cb<=zA;have:r8.cond.cb=1:=by simp[r8,Wh,qO.jh,qO.args,qO.attr,qO.pat,qO.name,iG,Vg]
  rw[this];decide
theorem Gg{Y:Hp}{Z:Nat}{v:O}{l:List za}(c:qN Y Z 9 1 v (zy l))(d:l.length<=zA):∃Y',zh true [1] (FTl (fun l=>.sl 1 (zy (YD l))) fun l=>l.length<=zA) [v] Y Z=some (.sl 1 (zy (YD l)),Y',Z):=by
 have hs:FTl (fun l=>.sl 1 (zy (YD l))) (fun l=>l.length<=zA) [.sl 1 (zy l)]=some (.sl 1 (zy (YD l))):=qD (V:=fun l:List za=>[O.sl 1 (zy l)]) (a:=l) (fun a b e=>by
  simp only[zj,zG]at e;injection e with _ e
  exact km e) d
 rcases c with⟨rfl,f⟩|⟨id,hid,rfl,g⟩
 ·have hd:l=[]:=by simpa[zy]using f
  subst hd;exact⟨Y,yI (Y1:=Y) rfl hs (.inr rfl)⟩
 ·refine⟨qq Y id none,?_⟩;have h:zC Y [.own id 0 (zy l).length]=some ([.sl 1 (zy l)],qq Y id none):=by
   simp[g]
   try rw[zZ (by simp)]
  try unfold hP
  unfold zh;rw[h];have i:yS [1] [O.sl 1 (zy l)]=[O.sl 1 (zy l)]:=rfl;simp only[i,hs];simp[O.flat,O.noOwn]
theorem O9{Y:Hp}{Z e s id:Nat}{v:O}{xs:List zb}(h:qN Y Z e s v xs)(a:∀m,v≠.own id 0 m):qN (qq Y id none) Z e s v xs:=by
 rcases h with⟨rfl,rfl⟩|⟨i,hi,rfl,b⟩
 ·exact .inl ⟨rfl,rfl⟩
 ·exact .inr ⟨i,hi,rfl,by rw[zz _ _ _ _ (by rintro rfl;exact a _ rfl)];exact b⟩
theorem MA{Y:Hp}{Z e s id m:Nat}{v:O}{xs:List zb}(h:qN Y Z e s v xs)(a:Z<=id):v≠.own id 0 m:=by
 rcases h with⟨rfl,rfl⟩|⟨i,hi,rfl,b⟩
 ·simp
 ·intro e;injection e with e;omega
theorem zcE{q c:List za}{es b:List zb}{off a:Nat}(d:off+q.length=es.length)(hd:es.drop off=zy q)(h:b=es++zy c/\a=off\/b=es.drop off++zy c/\a=0):a+(q++c).length=b.length/\b.drop a=zy (q++c):=by
 rcases h with⟨rfl,rfl⟩|⟨rfl,rfl⟩
 ·exact⟨by simp[wa];omega,by rw[List.drop_append_of_le_length (by omega),hd];simp[zy]⟩
 ·rw[hd];exact⟨by simp[wa],by simp[zy]⟩
def RchI(l:List qU)(a:List za)(n:Nat)(st:St):Prop:=st.σ 0=.sl 10 (l.map qU.V)/\∃out q,qN st.Y st.Z 9 1 (st.σ 5) (zy out)/\Que st.Y st.Z (st.σ 5) (st.σ 6) q/\GR (xf l) a out q/\q.length+qm out l=n/\out.length+n<=zA
noncomputable def FRch:zb->Option O:=qd (α:=List qU×qO) (fun a=>[.sl 10 (a.1.map qU.V),.agg a.2.V]) (fun a=>bH a.1+a.2.cb<=zA) fun a=>.sl 1 (zy (dD a.1 a.2.names))
theorem Pb(l:List qU)(c:qO)(Y:Hp)(Z:Nat)(h:bH l+c.cb<=zA):hP FRch [.sl 10 (l.map qU.V),.agg c.V] Y Z=some (.sl 1 (zy (dD l c.names)),Y,Z):=
 QL (l,c) _ _ (by simp[we]) (fun a b e=>by obtain⟨d,f⟩:=a;obtain⟨g,i⟩:=b;simp only[zj,zG,O.agg.injEq]at e;rw[ZC e.1,xx e.2]) h (.inr (by simp[we,O.noOwn]))
theorem UN{es:List zb}{off:Nat}{a:za}{q:List za}(h:es.drop off=zy (a::q)):es[off]?=some [str a]/\es.drop (off+1)=zy q:=by
 have b:(es.drop off)[0]?=some [str a]:=by rw[h];rfl
 rw[q8,vS]at b;refine⟨b,?_⟩;rw[<-List.drop_drop,h];rfl
theorem Lj(l:List qU)(c:qO)(hlc:bH l+c.cb<=zA){code:Code}(hb:f40.body=some code):Wp True PB f40.ntmps code ⟨vn [.sl 10 (l.map qU.V),.agg c.V],fun _=>none,0⟩ (Vq PB.P f40 (iS (.sl 1 (zy (dD l c.names))))):=by
 have GQ:zA=268435456:=rfl;have f:=zcC;have hll:=VZ l;have hcn:=kU _ c (zl _);have K:=UH [] l;have k0:=fun Y Z=>Gb c Y Z (by omega)
 injection hb with hb;subst hb;refine Wp.seq (Wp.of f ?_);simp[we];refine Wp.seq (Wp.of f ?_);simp;refine Wp.cut f (fun σ Y Z=>RchI l c.names (c.names.length+qm [] l) ⟨σ,Y,Z⟩) ?_ ?_
 ·simp only[we]at k0;by_cases T:c.names=[]
  ·simp[k0,T];exact⟨by simp,[],[],by simp;exact .inl ⟨rfl,rfl⟩,.inl ⟨by simp,rfl⟩,.begin _ _,by simp,by simp;omega⟩
  ·simp[k0,T];exact⟨by simp,[],c.names,by simp;exact .inl ⟨rfl,rfl⟩,.inr (.inr ⟨1,0,zy c.names,by simp,by simp,by simp,by simp[zy],by simp,by simp⟩),.begin _ _,by simp,by simp;omega⟩
 rintro σ Y Z hI;refine Wp.seq (Wp.block (Wp.loop (RchI l c.names) _ hI ?_));clear hI σ Y Z;rintro n ⟨σ,Y,Z⟩ ⟨h0,out,q,x,hQ,hB,hn,hbd⟩;simp only at h0 x hQ;cases q with
 |nil=>have U:=hQ.len;refine Wp.seq (Wp.of f ?_);simp[U];obtain⟨Y',e1⟩:=Gg x (by omega);have hv:YD out=dD l c.names:=CK hB;refine Wp.of f ?_;simp[e1,hv,iS,f40];exact z8 _
 |cons a q=>
  obtain⟨id,off,es,hid,h6,z,A,W,g⟩:=(hQ.resolve_left (by rintro⟨_,e⟩;cases e)).resolve_left (by rintro⟨_,e⟩;cases e);obtain⟨X,B⟩:=UN W;simp only[zx]at hn A h6;refine Wp.cut f (fun σ' Y' Z'=>σ' 0=σ 0/\σ' 5=σ 5/\σ' 6=σ 6/\Y'=Y/\Z'=Z) (by simp[h6]) ?_;rintro b Y Z ⟨p,e5,u,rfl,rfl⟩;rw[h0]at p;rw[<-e5]at x g;rw[h6]at u;clear h0 h6 e5 hQ σ;refine Wp.block ?_;refine Wp.cut f (fun σ' Y' Z'=>σ' 0=b 0/\σ' 5=b 5/\σ' 6=b 6/\σ' 7=str a/\Y'=Y/\Z'=Z) (by simp[u,z,X,A]) ?_;rintro σ Y Z ⟨w,L,F,M,rfl,rfl⟩;rw[p]at w;rw[<-L]at x g;rw[u]at F;clear p u L b;refine Wp.seq (Wp.region ?_);show Wa True PB _ _ (List.range' 0 1++(1::(List.range' 2 1++[]))) _ _;refine Wa.Ap f 0 1 (by decide) (by decide) ?_;simp[F];refine Wa.slice (n:=1) (e:=9) rfl (by decide) rfl un38 mI z rfl (by omega) ?_;rintro r hr;refine Wa.Ap f 2 1 (by decide) (by decide) ?_;simp;refine Wa.nil ?_;simp only[Ru,kM];rw[Nat.add_sub_cancel]at hr;refine Wp.any (fun σ' Y' Z'=>σ' 0=σ 0/\σ' 5=σ 5/\σ' 6=r/\σ' 7=σ 7/\Y'=Y/\Z'=Z) (by simp) ?_;rintro b Y Z ⟨p,e5,u,H,rfl,rfl⟩;rw[w]at p;rw[<-e5]at x g;rw[M]at H;clear w F M e5 σ;have i:off+1+q.length=es.length:=by omega
  generalize off+1=I at hr B i;clear A W X off;have K:r=.own id I q.length\/q=[]/\∃ad,r=.v (.slice (some ad) 0 0):=hr.imp (fun h=>h) fun⟨h1,h2⟩=>⟨wx (by omega),h2⟩
  clear hr;have C:=Cw (fun l v=>wb (decide (v∈l))) (v:=a) x (by omega) rfl;by_cases ha:a∈out
  ·rw[show decide (a∈out)=true from by simpa using ha]at C;refine Wp.seq (Wp.of f ?_);simp[H,C];refine⟨_,by omega,by simp[p],out,q,by simpa using x,?_,hB.skip ha,rfl,by omega⟩;rcases K with rfl|⟨rfl,ad,rfl⟩
   ·exact .inr (.inr ⟨id,I,es,by simpa using hid,by simp[u],by simpa using z,by omega,B,by simpa using g⟩)
   ·exact .inr (.inl ⟨⟨ad,by simp[u]⟩,rfl⟩)
  ·rw[show decide (a∈out)=false from by simpa using ha]at C;refine Wp.cut f (fun σ' Y' Z'=>σ' 0=b 0/\σ' 5=b 5/\σ' 6=b 6/\σ' 7=b 7/\Y'=Y/\Z'=Z) (by simp[H,C]) ?_;rintro σ Y Z ⟨w,L,F,M,rfl,rfl⟩;rw[p]at w;rw[<-L]at x g;rw[u]at F;rw[H]at M;clear p u H L C b;have tp:=x.yx (P:=prog) (t:=38) (c:=[str a]) Jn mI oa ob rfl (by omega) (by simp[wa,maxLen];omega) (by simp[wa];omega);have hk:=yr x (qq Y Z (some ⟨9,1,true,[[str a]]⟩)) id g;have o:¬id=Z:=by omega
   have k:¬id=Z+1:=by omega
   have haf:=qN.after (Y:=Y) (Z:=Z) (e:=9) (s:=1) (v:=σ 5) (xs:=zy out) (c:=[str a]) (tmp:=some ⟨9,1,true,[[str a]]⟩);have haa:zy out++[[str a]]=zy (out++[a]):=by simp[zy]
   refine Wp.cut f (fun σ' Y' Z'=>σ' 0=σ 0/\σ' 6=σ 6/\σ' 7=σ 7/\Z<=Z'/\qN Y' Z' 9 1 (σ' 5) (zy (out++[a]))/\Y' id=some ⟨9,1,true,es⟩/\∀m,σ' 5≠.own id 0 m) (by simp[M,zt,zJ,zr,tp,k,hk,o,z];rw[<-haa];exact⟨by simpa[wa]using haf,fun e=>k e.symm⟩) ?_
   clear tp hk o k haf;rintro b Y1 d ⟨p,u,H,hn1,hO1,hes1,J⟩;have hid1:id<d:=by omega
   rw[w]at p;rw[F]at u;rw[M]at H;clear z hn1 x g hid w F M σ Y Z;have hsg:=fun Y Z=>Af (fun l s=>ct (yV s l)) (fun l _=>l.length<=zA) l a Y Z (by omega)
   obtain⟨s,hs⟩:=wZ (I7 (yV a l));have hsc:s.cond.cb<=zA:=by rw[<-hs];exact zcD l a (by omega)
   have hnx:s.cond.names=xf l a:=by rw[<-hs];exact zcB l a
   have Db:ct (yV a l)=.w5 [.agg s.V,wb (yV a l).isSome]:=by rw[<-hs];rfl
   simp only[Db]at hsg;have o:¬id=d:=by omega
   refine Wp.cut f (fun σ' Y' Z'=>σ' 0=b 0/\σ' 5=b 5/\σ' 6=b 6/\σ' 8=.ref d 0 0/\Y'=qq Y1 d (some ⟨82,10,false,[s.V]⟩)/\Z'=d+1) (by simp[p,H,hsg,jo]) ?_
   rintro σ Y Z ⟨w,L,F,f8,rfl,rfl⟩;rw[p]at w;rw[u]at F;rw[<-L]at hO1 J;have N:id<d+1:=by omega
   have hO2:=hO1.more (some ⟨82,10,false,[s.V]⟩);have hes2:qq Y1 d (some (⟨82,10,false,[s.V]⟩:Blk)) id=some ⟨9,1,true,es⟩:=by rw[zz _ _ _ _ o];exact hes1
   have G:=hB.take ha;have hpu:=mY ha l;rw[<-hnx]at G hpu;have Q:out.length+1+((q++s.cond.names).length+qm (out++[a]) l)<=zA:=by simp;omega
   have hm:(q++s.cond.names).length+qm (out++[a]) l<n:=by simp;omega
   have hcl:∀Y Z,∃y Y' Z',jm [] FNf [.agg s.cond.V] Y Z=some (y,Y',Z')/\AM.view Y' 1 y=some (zy s.cond.names)/\Z<=Z'/\(∀j,j<Z->Y' j=Y j)/\(∀e s v xs,qN Y Z e s v xs->qN Y' Z' e s v xs):=fun Y Z=>by
    have h1:=Gb s.cond Y Z hsc;by_cases D:s.cond.names=[]
    ·rw[zd D]at h1;exact⟨_,_,_,h1,by simp[AM.view,D,zy],zl _,fun _ _=>rfl,fun _ _ _ _ h=>h⟩
    ·rw[ze D]at h1;exact⟨_,_,_,h1,by simp[AM.view,wa],by omega,fun j hj=>zz _ _ _ _ (by omega),fun _ _ _ _ h=>h.more _⟩
   obtain⟨y,Y2,PL,hc1,hc2,hc3,hc4,hc5⟩:=hcl (qq Y1 d (some ⟨82,10,false,[s.V]⟩)) (d+1);have E:=hc5 _ _ _ _ hO2;have hes3:Y2 id=some ⟨9,1,true,es⟩:=by rw[hc4 id N];exact hes2
   have hid3:id<PL:=by omega
   simp only[we,jo]at hc1;refine Wp.region ?_;show Wa True PB _ _ (List.range' 0 4++(4::(List.range' 5 1++[]))) _ _;refine Wa.Ap f 0 4 (by decide) (by decide) ?_;simp[F,f8,jo,we,hc1];have hnl:=kU _ s.cond (zl _);have R:q.length+(zy s.cond.names).length<=maxLen:=by simp[wa,maxLen];omega
   have S:(q.length+(zy s.cond.names).length)*16<=140737488355328:=by simp[wa];omega
   rcases K with rfl|⟨rfl,ad,rfl⟩
   ·refine Wa.append (e:=9) (n:=1) (by_:=16) (ys:=zy s.cond.names) (v:=y) rfl (by decide) (by simp) (by simp) hc2 Jn mI oa ob (by omega) rfl hes3 rfl rfl i R S ?_;intro es' off' hew;obtain⟨hl',hd'⟩:=zcE i B hew;refine Wa.Ap (l2:=[]) f 5 1 (by decide) (by decide) ?_;simp;refine Wa.nil ?_;refine⟨_,hm,by simp[w],out++[a],q++s.cond.names,?_,.inr (.inr ⟨PL,off',es',by simp,by simp[wa],by simp,hl',hd',?_⟩),G,rfl,by simp;simp at Q;omega⟩
    ·simpa using(O9 E J).more _
    ·intro m;simpa using MA E (zl _)
   ·simp only[qj,wg]at R S;refine Wa.zcR (ad:=ad) (e:=9) (n:=1) (by_:=16) (ys:=zy s.cond.names) (v:=y) rfl (by decide) (by simp) (by simp) hc2 Jn mI oa ob (by omega) rfl R S ?_;rintro r Y' Z' (⟨hy0,rfl,rfl,rfl⟩|⟨rfl,rfl,rfl⟩)
    ·have D:s.cond.names=[]:=by simpa[zy]using hy0
     refine Wa.Ap (l2:=[]) f 5 1 (by decide) (by decide) ?_;simp;refine Wa.nil ?_;refine⟨_,hm,by simp[w],out++[a],[]++s.cond.names,by simpa using E,.inr (.inl ⟨⟨ad,by simp⟩,by simp[D]⟩),G,rfl,by simp;simp at Q;omega⟩
    ·refine Wa.Ap (l2:=[]) f 5 1 (by decide) (by decide) ?_;simp;refine Wa.nil ?_;refine⟨_,hm,by simp[w],out++[a],[]++s.cond.names,?_,.inr (.inr ⟨PL,0,zy s.cond.names,by simp,by simp[wa],by simp,by simp[wa],by simp,?_⟩),G,rfl,by simp;simp at Q;omega⟩
     ·simpa using E.more _
     ·intro m;simpa using MA E (zl _)
theorem tm:zg prog 40 (hP FRch):=
 AQ (C:=PB) (pf:=fun g=>([]:List Nat).contains g) (fn:=f40) (code:=_) ⟨func40,by kernel_rfl,rfl,by kernel_rfl⟩ false [] _ fun args r h=>by obtain⟨⟨l,c⟩,rfl,a,rfl⟩:=zO h;exact⟨by simp[f40],Lj l c a rfl⟩
theorem CO(l:List qU)(start:List za):∀(n:Nat) (out b:List za),GR (xf l) start out b->b.length+qm out l<=n->∃c,GR (xf l) start c []/\c.length<=out.length+n
 |_,out,[],h,_=>⟨out,h,by omega⟩
 | 0,_,_::_,_,h=>by simp at h
 |n+1,out,a::q,h,g=>by
  simp only[zx]at g;by_cases d:a∈out
  ·obtain⟨o,e,f⟩:=CO l start n out q (h.skip d) (by omega);exact⟨o,e,by omega⟩
  ·have:=mY d l;obtain⟨o,e,f⟩:=CO l start n _ _ (h.take d) (by rw[zm];omega);exact⟨o,e,by simp at f;omega⟩
theorem zcF(l:List qU)(c:qO)(h:bH l+c.cb<=zA):(dD l c.names).length<=zA:=by
 have d:=UH [] l;have e:=kU _ c (zl _);obtain⟨o,a,b⟩:=CO l c.names _ [] c.names (.begin _ _) (zl _);have Y:=zkf o fun x y=>decide (x<=y)
 rw[<-CK a,Kx (Y.nodup_iff.2 a.nodup),Y.length_eq];simp at b;omega
noncomputable def YE:za->List qU->Int
 |_,[]=>0
 |q,s::l=>if Yk s q=0 then YE s.name l else Yk s q
noncomputable def WH (l:List qU):Int:=if(100:Int)<l.length then 2 else if YE [] l=0 then(if(l.all fun s=>lM l s.cond.names)=true then(if(l.any fun s=>decide (s.name∈dD l s.cond.names))=true then 12 else 0)else 9)else YE [] l
theorem Gh{l:List qU}{k:Nat}(h:k<l.length)(q:za):YE q (l.drop k)=if Yk l[k] q=0 then YE l[k].name (l.drop (k+1))else Yk l[k] q:=by rw[zc h];rfl
theorem Gi:∀(l:List qU) (p:Option za) (q:za),(p=none/\q=[]\/p=some q)->YE q l=YL p l
 |[],p,q,_=>rfl
 |s::l,p,q,h=>by
  have j:=Gi l (some s.name) s.name (.inr rfl);have k:YE q (s::l)=if Yk s q=0 then YE s.name l else Yk s q:=rfl
  rw[k];by_cases d:wy s.name=true
  case neg=>
   have f:Yk s q=5:=by unfold Yk;rw[ze d]
   simp only[YL,ze d];rw[f,ze (by decide)]
  case pos=>
   have m:Xh s.name q=xU p s.name:=by
    rcases h with⟨rfl,rfl⟩|rfl
    ·simp only[xU];have i:s.name≠[]:=by rintro e;rw[e]at d;exact absurd d (by decide)
     cases n:s.name with
     |nil=>exact absurd n i
     |cons a b=>simp[Xh,Op.bytesLess]
    ·rfl
   have f:Yk s q=if xU p s.name=true then 8 else ZW s:=by unfold Yk;rw[zd d,m]
   simp only[YL,zd d];by_cases c:xU p s.name=true
   case pos=>rw[zd c]at f;rw[f,ze (by decide),zd c]
   case neg=>
    rw[ze c]at f;rw[f,ze c];by_cases g:ZW s=0
    ·rw[zd g,zd g];exact j
    ·rw[ze g,ze g]
theorem Pc(l:List qU):WH l=kT l:=by
 unfold WH kT;rw[Gi l none [] (.inl ⟨rfl,rfl⟩)];by_cases h:(100:Int)<l.length
 ·rw[zd h,zd h]
 rw[ze h,ze h];by_cases c:YL none l=0
 case neg=>rw[ze c,ze c]
 rw[zd c,zd c];have j:=(rz l none c).1.1;have p:∀n,(yV n l).isSome=ZD l n:=fun n=>by
  rcases mX j n with⟨a,r,b,_⟩|⟨a,b⟩
  ·rw[a,b];rfl
  ·rw[a,b];rfl
 have d:(l.all fun s=>lM l s.cond.names)=l.all fun s=>YC l s.cond:=by congr 1;funext s;unfold lM YC;congr 1;funext n;exact p n
 rw[d];by_cases f:(l.all fun s=>YC l s.cond)=true
 case neg=>rw[ze f,ze f]
 rw[zd f,zd f];have g:∀s∈l,∀n∈s.cond.names,ZD l n=true:=fun s hs n q=>ql.1 (ql.1 f s hs) n q
 have k:=OW j g;have m:=FU (l:=l) (by omega) g;have o:(l.any fun s=>decide (s.name∈dD l s.cond.names))=true↔∃s∈l,fR (xf l) s.cond.names s.name:=by simp only[Yo,zS];exact⟨fun⟨s,a,b⟩=>⟨s,a,(Mz _ _ _).1 b⟩,fun⟨s,a,b⟩=>⟨s,a,(Mz _ _ _).2 b⟩⟩
 by_cases i:rA l=true
 ·rw[zd i,zd (o.2 (k.2 (m.1 i)))]
 ·rw[ze i,ze fun e=>i (m.2 (k.1 (o.1 e)))]
theorem zcG(out:List qU->List qO->O)(l:List qU)(c:qO)(Y:Hp)(Z:Nat)(a:l.length<=zA)(b:c.cb<=zA)(d:(out l [c]).flat=true):hP (FSC out) [.sl 10 (l.map qU.V),.own Z 0 1] (qq Y Z (some ⟨53,7,true,[c.V]⟩)) (Z+1)=some (out l [c],qq Y Z (some ⟨53,7,true,[c.V]⟩),Z+1):=
 yI (Y1:=qq (qq Y Z (some ⟨53,7,true,[c.V]⟩)) Z none) (show zC (qq Y Z (some ⟨53,7,true,[c.V]⟩)) [.sl 10 (l.map qU.V),.own Z 0 1]=some ([.sl 10 (l.map qU.V),.sl 7 ([c].map qO.V)],_) by simp) (zfz out l [c] ⟨a,by simpa[iG]using b⟩) (.inl d)
noncomputable abbrev Crcs:Ctx:=zV prog [(37,hP (FSgB fun s q=>int (Yk s q))),(38,hP (FSC fun l cs=>int (I9 l cs))),(40,hP FRch),(39,zh false [1] (OP fun l v=>wb (decide (v∈l))))]
theorem zcH:AM.Good Crcs (fun g=>[40,39].contains g):=qC mixed ⟨bJ,by simp,fB,by simp,tm,fun _=>zu _ _,kQ,fun _=>zu _ _,trivial⟩
theorem Pd:Vx Crcs (fun g=>[40,39].contains g) 21 f21:=qX func21
theorem bL(l:List qU)(h:2*bH l<=zA):zv Crcs f21 [.sl 10 (l.map qU.V)]=some (int (WH l)):=by
 have G:=VZ l;have H:zA=268435456:=rfl;refine zn rfl ?_;by_cases i:(100:Int)<l.length
 ·have e:WH l=2:=by unfold WH;rw[zd i]
  simp[i,e,f21]
 refine Zs (fun σ Y Z=>σ 0=.sl 10 (l.map qU.V)) (by simp) ?_;rintro σ Y Z a;refine Zs (fun σ Y Z=>σ 0=.sl 10 (l.map qU.V)) (by simp[a,i]) ?_;clear a σ Y Z;rintro σ Y Z a;refine Zs (fun σ Y Z=>σ 0=.sl 10 (l.map qU.V)/\σ 3=str []) (by simp[a]) ?_;clear a σ Y Z;rintro σ Y Z ⟨a,z⟩;refine Zs (fun σ Y Z=>σ 0=.sl 10 (l.map qU.V)/\YE [] l=0) ?_ ?_
 ·simp[a];refine zL (fun k σ Y Z=>σ 0=.sl 10 (l.map qU.V)/\σ 15=.sl 10 (l.map qU.V)/\σ 16=int l.length/\σ 17=int k/\∃q,σ 3=str q/\YE [] l=YE q (l.drop k)) l.length ⟨by simp[a],by simp,by simp,by simp,[],by simp[z],by simp⟩ ?_;clear a z σ Y Z;rintro k σ Y Z I ⟨a,j,m,n,q,z,c⟩;by_cases b:k<l.length
  ·have A:=qe k;obtain⟨s,hs⟩:=wZ (l[k]);have B:=J9 (zi b);rw[hs]at B;have o:=fun Y Z=>O4 (fun s q=>int (Yk s q)) s q Y Z (by omega) rfl
   simp only[jo,we]at o;rw[Gh b,hs]at c;by_cases C:Yk s q=0
   ·rw[zd C]at c;simp[a,z,j,m,n,b,hs,o,C,A,jo,we];exact⟨by omega,c⟩
   ·rw[ze C]at c;have D:=vX C;have e:WH l=Yk s q:=by unfold WH;rw[ze i,c,ze C]
    simp[a,z,j,m,n,b,hs,o,D,e,jo,we,f21]
  ·obtain rfl:k=l.length:=by omega
   rw[zp]at c;have c:YE [] l=0:=by rw[c];rfl
   simp[a,j,m,n,c]
 clear a z σ Y Z;rintro σ Y Z ⟨a,E⟩;refine Zs (fun σ Y Z=>σ 0=.sl 10 (l.map qU.V)/\(l.all fun s=>lM l s.cond.names)=true) ?_ ?_
 ·simp[a];refine zL (fun k σ Y Z=>σ 0=.sl 10 (l.map qU.V)/\σ 30=.sl 10 (l.map qU.V)/\σ 31=int l.length/\σ 32=int k/\(l.all fun s=>lM l s.cond.names)=(l.drop k).all fun s=>lM l s.cond.names) l.length ⟨by simp[a],by simp,by simp,by simp,by simp⟩ ?_;clear a σ Y Z;rintro k σ Y Z I ⟨a,p,r,t,c⟩;by_cases b:k<l.length
  ·have A:=qe k;obtain⟨s,hs⟩:=wZ (l[k]);have B:=J9 (zi b);rw[hs]at B;have F:s.cb=1+s.name.length+KA s.ins+KA s.outs+s.cond.cb:=rfl;have J:I9 l [s.cond]=if lM l s.cond.names=true then 0 else 9:=by simp[I9]
   rw[zc b,hs,wi]at c;have d:=fun Y Z=>zcG (fun l cs=>int (I9 l cs)) l s.cond Y Z (by omega) (by omega) rfl
   cases f:lM l s.cond.names
   ·rw[f,Qc]at c;have e:WH l=9:=by unfold WH;rw[ze i,zd E,c,ze (by simp)]
    rw[J,f]at d;simp only[we]at d;simp[a,p,r,t,b,hs,zt,zJ,zr,d,e,jo,we,f21]
   ·rw[f,kv]at c;rw[J,f]at d;simp only[we]at d;simp[a,p,r,t,b,hs,zt,zJ,zr,d,A,jo,we];exact⟨by omega,c⟩
  ·obtain rfl:k=l.length:=by omega
   rw[zp]at c;simp only[V4]at c;simp[a,p,r,t];exact ql.1 c
 clear a σ Y Z;rintro σ Y Z ⟨a,K⟩;simp[a];refine zL (fun k σ Y Z=>σ 0=.sl 10 (l.map qU.V)/\σ 45=.sl 10 (l.map qU.V)/\σ 46=int l.length/\σ 47=int k/\(l.any fun s=>decide (s.name∈dD l s.cond.names))=(l.drop k).any fun s=>decide (s.name∈dD l s.cond.names)) l.length ⟨by simp[a],by simp,by simp,by simp,by simp⟩ ?_;clear a σ Y Z;rintro k σ Y Z I ⟨a,u,w,x,c⟩;by_cases b:k<l.length
 ·have A:=qe k;obtain⟨s,hs⟩:=wZ (l[k]);have B:=J9 (zi b);rw[hs]at B;have F:s.cb=1+s.name.length+KA s.ins+KA s.outs+s.cond.cb:=rfl;have y:=fun Y Z=>Pb l s.cond Y Z (by omega)
  have g:=fun Y Z=>ay (fun l v=>wb (decide (v∈l))) (dD l s.cond.names) s.name Y Z (zcF l s.cond (by omega))
  simp only[we]at y;rw[F5 b,hs]at c;cases f:decide (s.name∈dD l s.cond.names)
  ·rw[f,yN]at c;rw[f]at g;simp[a,u,w,x,b,hs,y,g,A,jo,we];exact⟨by omega,c⟩
  ·rw[f,V3]at c;rw[f]at g;have e:WH l=12:=by unfold WH;rw[ze i,zd E,zd K,zd c]
   simp[a,u,w,x,b,hs,y,g,e,jo,we,f21]
 ·obtain rfl:k=l.length:=by omega
  rw[zp]at c;have e:WH l=0:=by unfold WH;rw[ze i,zd E,zd K,c,ze (by simp)]
  simp[a,u,w,x,e,f21]
theorem aD:zg prog 21 (hP (qd (α:=List qU) (fun l=>[.sl 10 (l.map qU.V)]) (fun l=>2*bH l<=zA) fun l=>int (kT l))):=
 yy (fn:=f21) zcH Pd false [] _ fun args r h=>by obtain⟨l,rfl,a,rfl⟩:=zO h;exact⟨zI (zl 1) (by decide),_,bL l a,by rw[Pc];exact z8 _⟩
noncomputable def FBoN:zb->Option O:=qd (α:=List qU×Bk) (fun a=>[.sl 10 (a.1.map qU.V),.agg a.2.V,wb false]) (fun a=>a.1.length<=zA/\a.2.cb<=zA) (fun a=>int (kR (a.1.map qU.name) a.2))
theorem Pe(l:List qU)(b:Bk)(Y:Hp)(Z:Nat)(a:l.length<=zA)(h:b.cb<=zA):hP FBoN [.sl 10 (l.map qU.V),.agg b.V,wb false] Y Z=some (int (kR (l.map qU.name) b),Y,Z):=
 QL (l,b) _ _ (by simp[Bk.V]) (fun x y e=>by obtain⟨c,d⟩:=x;obtain⟨f,g⟩:=y;simp only[zj,zG,O.agg.injEq]at e;rw[ZC e.1,Kr e.2]) ⟨a,h⟩ (.inl rfl)
noncomputable abbrev zdJ:Ctx:=zV prog [(41,hP (FLys fun l=>int (wz [] [] l).1)),(42,hP (FBu fun b=>int (yq b.zf [] (b.zf.map w9.qp) b.holds).1)),(43,hP FExN),(44,hP (FBS fun b s=>YK (kF s b.zf))),(45,hP FClR)]
theorem UO:Gd zdJ:=zW mixed ⟨cq,fu,Ga,ZB,fv,trivial⟩
theorem Gj(S:List qU)(b:Bk)(hS:S.length<=zA)(hb:b.cb<=zA):zv zdJ f22 [.sl 10 (S.map qU.V),.agg b.V,wb false]=some (int (kR (S.map qU.name) b)):=by
 refine zn rfl ?_;have hL:=qZ vR b.zf;have hH:=qZ Q1 b.holds;have hX:=qZ X5 b.zU;have hbc:b.cb=yn w9.cb b.zf+yn vi.cb b.holds+yn Xp.cb b.zU:=rfl;have K:=fun Y Z=>Ac (fun l=>int (wz [] [] l).1) b.zf Y Z (by omega)
 by_cases a1:(20:Int)<b.zf.length
 ·have hv:kR (S.map qU.name) b=2:=by unfold kR;rw[zd (.inl a1)]
  simp[Bk.V,a1,hv,f22]
 by_cases a2:(10:Int)<b.holds.length
 ·have hv:kR (S.map qU.name) b=2:=by unfold kR;rw[zd (.inr (.inl a2))]
  simp[Bk.V,a1,a2,hv,f22]
 by_cases a3:(100:Int)<b.zU.length
 ·have hv:kR (S.map qU.name) b=2:=by unfold kR;rw[zd (.inr (.inr a3))]
  simp[Bk.V,a1,a2,a3,hv,f22]
 have a:kR (S.map qU.name) b=if(wz [] [] b.zf).1=0 then
   (if(yq b.zf [] (wz [] [] b.zf).2 b.holds).1=0 then
    (if(Wl (S.map qU.name) b.zf [] (yq b.zf [] (wz [] [] b.zf).2 b.holds).2 b.zU).1=0 then(if Wd b.zf b.zU 0 b.zU=true then 13 else 0)
     else(Wl (S.map qU.name) b.zf [] (yq b.zf [] (wz [] [] b.zf).2 b.holds).2 b.zU).1)
    else(yq b.zf [] (wz [] [] b.zf).2 b.holds).1)
  else(wz [] [] b.zf).1:=by unfold kR;rw[ze (by omega)]
 by_cases c1:(wz [] [] b.zf).1=0
 case neg=>rw[ze c1]at a;have Pw:=vX c1;simp[Bk.V,a1,a2,a3,K,Pw,a,f22]
 obtain⟨_,hu,Ls⟩:=iy c1;rw[w7]at Ls;rw[zd c1,Ls]at a;rw[c1]at K;have hho:=fun Y Z=>FH (fun b=>int (yq b.zf [] (b.zf.map w9.qp) b.holds).1) b Y Z hb hu
 have w:=hho;simp only[Bk.V]at w;by_cases c2:(yq b.zf [] (b.zf.map w9.qp) b.holds).1=0
 case neg=>rw[ze c2]at a;have c2':=vX c2;simp[Bk.V,a1,a2,a3,K,w,c2',a,f22]
 have hsh:=Cy c2;rw[zd c2]at a;rw[c2]at w;have hs0:(yq b.zf [] (b.zf.map w9.qp) b.holds).2=yM b 0:=by rw[hsh];simp[yM]
 rw[hs0]at a;have hex:=fun k hk Y Z=>O7 S b k Y Z hS hb hu hk
 simp only[Bk.V]at hex;simp[Bk.V,a1,a2,a3,K,w];refine zL (fun k σ Y Z=>σ 0=.sl 10 (S.map qU.V)/\σ 2=wb false/\σ 4=.ref 0 0 0/\σ 45=.sl 13 (b.zU.map Xp.V)/\σ 46=int b.zU.length/\σ 47=int k/\1<=Z/\Y 0=some ⟨27,3,false,[b.V]⟩/\(Wl (S.map qU.name) b.zf [] (yM b 0) b.zU).1=(Wl (S.map qU.name) b.zf (vC b.zU k) (yM b k) (b.zU.drop k)).1) b.zU.length
  ⟨by simp,by simp,by simp,by simp,by simp,by simp,by simp,by simp[Bk.V],by simp[vC]⟩ ?_
 rintro k σ Y Z hk ⟨h0,h2,v,L,M,N,B,I,Q⟩;have c:=I;simp only[Bk.V]at c;by_cases r:k<b.zU.length
 ·have hw:=qe k;have X:=hex k r;rw[Lf r]at Q;by_cases R:lN (S.map qU.name) b k=0
  ·rw[zd R]at Q;simp[h0,h2,v,L,M,N,r,c,X,R,hw];exact⟨by omega,B,rfl,Q⟩
  ·rw[ze R]at Q;have hz':=vX R;rw[Q,ze R]at a;simp[h0,h2,v,L,M,N,r,c,X,hz',a,f22]
 obtain rfl:k=b.zU.length:=by omega
 rw[zp]at Q;simp only[Wl]at Q;rw[Q,zd rfl]at a;have hok:=eX (rN Q).1;have T:∀x∈b.zU,x.tt:=fun x hx=>⟨WD (hok x hx).1,by have:=yD (f:=Xp.cb) hx;omega⟩
 have MN:=fun s Y Z=>ax (fun b s=>YK (kF s b.zf)) b s Y Z hb
 simp only[Bk.V]at MN;simp[h0,h2,v,L,M,N,c];refine zL (fun i σ Y Z=>σ 4=.ref 0 0 0/\σ 60=.sl 13 (b.zU.map Xp.V)/\σ 61=int b.zU.length/\σ 62=int i/\1<=Z/\Y 0=some ⟨27,3,false,[b.V]⟩/\Wd b.zf b.zU 0 b.zU=Wd b.zf b.zU i (b.zU.drop i)) b.zU.length
  ⟨by simp[v],by simp,by simp,by simp,B,I,by simp⟩ ?_
 clear h0 h2 v L M N B I c hk r σ Y Z;rintro i σ Y Z hi ⟨v,e,m,n,B,I,o⟩;have c:=I;simp only[Bk.V]at c;by_cases r:i<b.zU.length
 ·obtain⟨x,hx⟩:=wZ (b.zU[i]);have U:x∈b.zU:=by rw[<-hx];exact zi r
  have hw:=qe i;rw[zc r,hx,Wd,rq (g:=FN x (WB b.zf x.wH)) fun y J=>FO c1 hok U (vu J)]at o;obtain⟨f1,q,hq,f3,f2⟩:(ZF (b.zf.map w9.name) x.wH).2=true/\∃j,∃hj:j<b.zf.length,(ZF (b.zf.map w9.name) x.wH).1=j/\kF x.wH b.zf=some b.zf[j]:=by
   rcases fp hu x.wH with h|⟨h,_⟩
   ·exact h
   ·rw[(hok x U).2]at h;cases h
  obtain⟨z,R⟩:=wZ (b.zf[q]);have hzr:=WC c1 z (by rw[<-R];exact zi hq);have zai:WB b.zf x.wH=z.rest:=by unfold WB;rw[f3,zq hq,R]
  rw[R]at f2;rw[zai]at o;have t:=fun Y Z=>MN x.wH Y Z
  simp only[f2,JD]at t;obtain⟨es,hes⟩:=wZ (b.zU.take i);have hesl:es.length=i:=by rw[<-hes];simp;omega
  have hesm:∀y∈es,y∈b.zU:=fun y J=>vu (by rw[hes];exact J)
  have hsx:=fun Y=>slX Y b.zU i (by omega)
  rw[hes]at o hsx;have n0:¬0=Z:=by omega
  obtain⟨P,hP⟩:=wZ Z;simp[v,e,m,n,r,hx,qK,c,n0,hsx,hesl];rw[hP];refine zL (fun k σ Y Z=>σ 4=.ref 0 0 0/\σ 60=.sl 13 (b.zU.map Xp.V)/\σ 61=int b.zU.length/\σ 62=int i/\σ 12=.ref P 0 0/\σ 70=.sl 13 (es.map Xp.V)/\σ 71=int i/\σ 72=int k/\P<Z/\Y 0=some ⟨27,3,false,[b.V]⟩/\Y P=some ⟨57,13,false,[x.V]⟩/\Wd b.zf b.zU 0 b.zU=((es.drop k).any (FN x z.rest)||Wd b.zf b.zU (i+1) (b.zU.drop (i+1)))) i
   ⟨by simp[v],by simp[e],by simp[m],by simp[n],by simp,by simp,by simp,by simp,(by show P<P+1;omega),by simp[show¬0=P by omega,I],by simp[qK],by simpa using o⟩ ?_
  clear v e m n I c o n0 hi hP B σ Y Z;rintro k σ Y Z hk ⟨v,e,m,n,C,D,E,F,cB,I,bP,o⟩;have n0:¬0=Z:=by omega
  have nP:¬P=Z:=by omega
  have W:¬P=Z+1:=by omega
  have c:=I;simp only[Bk.V]at c;have G:=bP;simp only[qK]at G;by_cases A:k<i
  ·have d:k<es.length:=by omega
   obtain⟨y,J⟩:=wZ (es[k]);have hym:y∈b.zU:=hesm y (by rw[<-J];exact zi d);have hwk:=qe k;rw[zc d,wX,J]at o;have p:=fun Y Z=>bo y x z.rest Y Z ⟨T y hym,T x U,hzr⟩
   have u:=fun Y Z=>bo x y z.rest Y Z ⟨T x U,T y hym,hzr⟩
   simp only[qK]at p u;have hd:FN x z.rest y=(decide (y.wH=x.wH)&&(xP y x z.rest||xP x y z.rest)):=rfl;by_cases hl:y.wH=x.wH
   ·rw[kp hl,kv]at hd;have H:(y.wH==x.wH)=true:=by simpa using hl
    cases k1:xP y x z.rest
    ·rw[k1]at p hd;cases k2:xP x y z.rest
     ·rw[k2]at u hd;rw[hd]at o;simp[v,e,m,n,C,D,E,F,A,d,J,qK,c,G,n0,nP,W,t,H,p,u,hwk];exact⟨by omega,by omega,rfl,by simpa using o⟩
     ·rw[k2]at u hd;rw[hd]at o;rw[o]at a;simp at a;simp[v,e,m,n,C,D,E,F,A,d,J,qK,c,G,n0,nP,W,t,H,p,u,a,f22]
    ·rw[k1]at p hd;rw[hd]at o;rw[o]at a;simp at a;simp[v,e,m,n,C,D,E,F,A,d,J,qK,c,G,n0,nP,W,t,H,p,a,f22]
   ·rw[kr hl,Qc]at hd;have H:=jN hl;rw[hd,yN]at o;simp[v,e,m,n,C,D,E,F,A,d,J,qK,c,G,n0,nP,W,t,H,hwk];exact⟨by omega,by omega,rfl,o⟩
  ·obtain rfl:k=i:=by omega
   rw[jF (by omega),List.any_nil,yN]at o;simp[v,e,m,n,C,D,E,F,hw];exact⟨by omega,by omega,I,o⟩
 ·obtain rfl:i=b.zU.length:=by omega
  rw[zp]at o;simp only[Wd]at o;rw[o]at a;simp at a;simp[v,e,m,n,a,f22]
theorem CP:zg prog 22 (hP FBoN):=
 vM UO func22 false [] fun⟨l,b⟩ ⟨a,c⟩=>⟨by simp[f22],_,Gj l b a c,z8 _⟩
noncomputable def FSs3:zb->Option O:=qd (α:=List qU) (fun l=>[.sl 10 (l.map qU.V)]) (fun l=>2*bH l<=zA) fun l=>int (kT l)
theorem Pf(l:List qU)(Y:Hp)(Z:Nat)(h:2*bH l<=zA):hP FSs3 [.sl 10 (l.map qU.V)] Y Z=some (int (kT l),Y,Z):=
 QL l _ _ (by simp) (fun a b e=>by simp only[zj,zG]at e;exact ZC e) h (.inl rfl)
noncomputable def FLB2 (out:List qU->Bk->O):zb->Option O:=qd (α:=List qU×Bk) (fun a=>[.sl 10 (a.1.map qU.V),.agg a.2.V]) (fun a=>2*bH a.1<=zA/\a.2.cb<=zA) (fun a=>out a.1 a.2)
theorem Pg(out:List qU->Bk->O)(l:List qU)(b:Bk)(Y:Hp)(Z:Nat)(h:2*bH l<=zA)(c:b.cb<=zA)(d:(out l b).flat=true):hP (FLB2 out) [.sl 10 (l.map qU.V),.agg b.V] Y Z=some (out l b,Y,Z):=
 QL (l,b) _ _ (by simp[Bk.V]) (fun a b e=>by obtain⟨f,g⟩:=a;obtain⟨i,j⟩:=b;simp only[zj,zG,O.agg.injEq]at e;rw[ZC e.1,Kr e.2]) ⟨h,c⟩ (.inl d)
noncomputable abbrev Cq11:Ctx:=zV prog [(21,hP FSs3),(22,hP FBoN)]
theorem Gk(l:List qU)(b:Bk)(h:2*bH l<=zA)(j:b.cb<=zA):zv Cq11 Tryz.f7 [.sl 10 (l.map qU.V),.agg b.V]=some (int (bK l b)):=by
 have e:=VZ l;have f:zA=268435456:=rfl;refine zn rfl ?_;have g:=fun Y Z=>Pf l Y Z h
 have i:=fun Y Z=>Pe l b Y Z (by omega) j
 simp only[Bk.V]at i;by_cases a:kT l=0
 case neg=>
  have c:=vX a;have d:bK l b=kT l:=by unfold bK;rw[ze a]
  simp[Bk.V,g,c,d,wK,Tryz.f7]
 have d:bK l b=kR (l.map qU.name) b:=by unfold bK;rw[zd a]
 simp[Bk.V,g,a,i,d,wK,Tryz.f7]
theorem C7:zg prog 7 (hP (FLB2 fun l b=>int (bK l b))):=
 vM (C:=Cq11) (zW mixed ⟨aD,CP,trivial⟩) func7 false [] fun⟨l,b⟩ ⟨a,c⟩=>⟨by simp[Tryz.f7],_,Gk l b a c,z8 _⟩
noncomputable abbrev Ph:Ctx:=zV prog [(16,hP (FBk fun b=>int (yg b))),(12,hP FIt),(10,xh TB UB RV),(17,hP FXt),(14,wD nG f14),(15,rh)]
theorem fE:AM.kB False Ph (fun g=>[12].contains g):=qC mixed ⟨PA.lax,by simp,JI.lax,fun _=>zu _ _,Vd.lax,by simp,Ue,by simp,iF.lax,by simp,rZ.lax,by simp,trivial⟩
noncomputable abbrev mZ:Code:=Tryz.f5.body.getD .skip
noncomputable abbrev rtxN:Nat:=Tryz.f5.ntmps
def G5(b:Bk)(id:Nat)(cur:za)(st:St):Prop:=st.σ 1=.ref 0 0 0/\st.σ 5=.ref id 0 0/\st.Y 0=some ⟨27,3,false,[b.V]⟩/\id≠0/\tn TB UB id st.Y st.Z cur
def RtL(b:Bk)(id:Nat)(cur:za)(n:Nat)(st:St):Prop:=∃k,k+n=b.zf.length/\G5 b id (cur++(b.zf.take k).flatMap QC) st/\st.σ 22=.sl 3 (b.zf.map w9.V)/\st.σ 23=int b.zf.length/\st.σ 24=int k
theorem rtL(b:Bk)(y:b.cb<=zA)(M:yg b=0){id:Nat}{σ:Nat->O}{Y:Hp}{Z:Nat}{cur:za}(z:G5 b id cur ⟨σ,Y,Z⟩)(c:σ 22=.sl 3 (b.zf.map w9.V))(a:σ 23=int b.zf.length)(d:σ 24=int 0)(A:cur.length+(b.zf.flatMap QC).length<=140737488355328) :
  Wp False Ph rtxN ((K4 0 mZ).getD .skip) ⟨σ,Y,Z⟩ (fun e t=>e=.normal/\G5 b id (cur++b.zf.flatMap QC) t):=by
 have B:=fE;have C:zA=268435456:=rfl;have i:=(VQ M).1;refine Wp.block (Wp.loop (RtL b id cur) b.zf.length ⟨0,by simp,by simpa using z,c,a,d⟩ ?_);clear z c a d σ Y Z;rintro n ⟨σ,Y,Z⟩ ⟨k,N,⟨q,r,g,hid,l⟩,c,a,d⟩;simp only at q r c a d g l;by_cases f:k<b.zf.length
 case neg=>
  obtain rfl:k=b.zf.length:=by omega
  refine Wp.of B ?_;rw[qf]at l;simp[a,d];exact⟨by simp[q],by simp[r],g,hid,l⟩
 obtain⟨x,s⟩:=wZ (b.zf[k]);have u:=i x (by rw[<-s];exact zi f);have h:=Qh QC b.zf f;rw[s]at h;have v:=l.keep (Y':=qq Y Z (some ⟨47,3,false,[x.V]⟩)) (Z':=Z+1) (by omega) (fun j T=>by rw[zD _ _ _ _ (by omega)]);have m:QC x≠[]:=by simp[QC,Vf]
 obtain⟨hp3,w,D,P⟩:=v.put (rest:=[str (QC x)]) (az:=[str (QC x)]) (Y1:=qq Y Z (some ⟨47,3,false,[x.V]⟩)) (by simp) rfl (cH (QC x) m) m (by rw[zm];omega);have Q:=P 0 _ (by omega) (fun e=>hid e.symm) (by rw[zD _ _ _ _ (by have:=l.1;omega)];exact g) (by show 27≠UB;decide);have o:=vJ QC b.zf f cur;rw[s]at o;rw[<-o]at D;have hit:=fun Y Z=>kl x.rest Y Z u.1 (by omega)
 have R:=qZ vR b.zf;have S:IntKind.i64.wrap ((k:Int)+1)=(k:Int)+1:=wS (by unfold Bk.cb at y;omega) (by unfold Bk.cb at y;omega);have E:=zbJ x;obtain⟨F,p⟩:=wZ (Lib.decDigits x.rest.toNat);rw[p]at hit;simp only[jt,p]at E;rw[<-E]at w h;simp only[ia,zm,zx,qj]at h;have G:(([108,97,121,101,114,32]:za)).length+x.name.length<=maxLen:=by unfold maxLen;simp;omega
 have H:(([108,97,121,101,114,32]:za)++x.name).length+([32]:za).length<=maxLen:=by unfold maxLen;simp;omega
 have I:(([108,97,121,101,114,32]:za)++x.name++([32]:za)).length+x.qp.length<=maxLen:=by unfold maxLen;simp;omega
 have J:(([108,97,121,101,114,32]:za)++x.name++([32]:za)++x.qp).length+([32]:za).length<=maxLen:=by unfold maxLen;simp;omega
 have K:(([108,97,121,101,114,32]:za)++x.name++([32]:za)++x.qp++([32]:za)).length+F.length<=maxLen:=by unfold maxLen;simp;omega
 have L:(([108,97,121,101,114,32]:za)++x.name++([32]:za)++x.qp++([32]:za)++F).length+([10]:za).length<=maxLen:=by unfold maxLen;simp;omega
 simp at G H I J K L;simp[ia,w9.V]at w;refine Wp.of B ?_;simp[q,r,c,a,d,f,s,w9.V,hit,w,S,G,H,I,J,K,L];exact⟨n-1,by omega,k+1,by omega,⟨by simp[q],by simp[r],Q,hid,D⟩,by simp[c],by simp[a],by simp⟩
def RtHi(b:Bk)(x:vi)(id:Nat)(cur:za)(a:Nat->O)(n:Nat)(st:St):Prop:=∃k,k+n=x.zf.length/\G5 b id (cur++(x.zf.take k).flatMap YB) st/\st.σ 65=.sl 1 (zy x.zf)/\st.σ 66=int x.zf.length/\st.σ 67=int k/\st.σ 44=a 44/\st.σ 45=a 45/\st.σ 46=a 46
theorem rtHi(b:Bk)(x:vi)(G:x.zf.length<=zA){id:Nat}{σ:Nat->O}{Y:Hp}{Z:Nat}{cur:za}(z:G5 b id cur ⟨σ,Y,Z⟩)(c:σ 65=.sl 1 (zy x.zf))(a:σ 66=int x.zf.length)(d:σ 67=int 0)(A:cur.length+(x.zf.flatMap YB).length<=140737488355328) :
  Wp False Ph rtxN ((K4 4 mZ).getD .skip) ⟨σ,Y,Z⟩ (fun e f=>e=.normal/\G5 b id (cur++x.zf.flatMap YB) f/\f.σ 44=σ 44/\f.σ 45=σ 45/\f.σ 46=σ 46):=by
 have B:=fE;have C:zA=268435456:=rfl;refine Wp.block (Wp.loop (RtHi b x id cur σ) x.zf.length ⟨0,by simp,by simpa using z,c,a,d,rfl,rfl,rfl⟩ ?_);generalize σ=H;clear z c a d Y Z;rintro n ⟨σ,Y,Z⟩ ⟨k,I,⟨s,u,h,hid,o⟩,c,a,d,i,j,l⟩;simp only at s u c a d i j l h o;by_cases g:k<x.zf.length
 case neg=>
  obtain rfl:k=x.zf.length:=by omega
  rw[qf]at o;refine Wp.of B ?_;simp[a,d];exact⟨⟨by simp[s],by simp[u],h,hid,o⟩,i,j,l⟩
 obtain⟨t,v⟩:=wZ (x.zf[k]);have m:=Qh YB x.zf g;rw[v]at m;have p:(zy x.zf)[k]?=some [str t]:=by simp[zy,g,v]
 have w:(zy x.zf).length=x.zf.length:=by simp[zy]
 have q:YB t≠[]:=by simp[YB,Vf]
 obtain⟨hp3,y,D,J⟩:=o.put (rest:=[str (YB t)]) (az:=[str (YB t)]) (Y1:=Y) (by simp) rfl (cH (YB t) q) q (by rw[zm];omega);have K:=J 0 _ (by have:=o.1;omega) (fun e=>hid e.symm) h (by show 27≠UB;decide);have r:=vJ YB x.zf g cur;rw[v]at r;rw[<-r]at D;have L:YB t=32::32::(t++[10]):=by simp[YB,Vf,Lib.join]
 rw[L]at y m;simp only[zx,zm,qj]at m;have M:=qe k;have E:(([32,32]:za)).length+t.length<=maxLen:=by unfold maxLen;simp;omega
 have F:(([32,32]:za)++t).length+([10]:za).length<=maxLen:=by unfold maxLen;simp;omega
 simp at E F;simp at y;refine Wp.of B ?_;simp[s,u,c,a,d,g,p,w,v,y,M,E,F];exact⟨n-1,by omega,k+1,by omega,⟨by simp[s],by simp[u],K,hid,D⟩,by simp[c],by simp[a],by simp,by simp[i],by simp[j],by simp[l]⟩
theorem zcI(x:vi):X9++[32]++x.name++[32]++x.qp++[32]++jt x.buckets++[10]=Vf [X9,x.name,x.qp,jt x.buckets]:=by unfold Vf;rw[Je];simp
def RtH(b:Bk)(id:Nat)(cur:za)(n:Nat)(st:St):Prop:=∃k,k+n=b.holds.length/\G5 b id (cur++(b.holds.take k).flatMap Yg) st/\st.σ 44=.sl 4 (b.holds.map vi.V)/\st.σ 45=int b.holds.length/\st.σ 46=int k
theorem rtH(b:Bk)(C:b.cb<=zA)(c0:yg b=0){id:Nat}{σ:Nat->O}{Y:Hp}{Z:Nat}{cur:za}(hI:G5 b id cur ⟨σ,Y,Z⟩)(d:σ 44=.sl 4 (b.holds.map vi.V))(c:σ 45=int b.holds.length)(a:σ 46=int 0)(hlen:cur.length+(b.holds.flatMap Yg).length<=140737488355328) :
  Wp False Ph rtxN ((K4 2 mZ).getD .skip) ⟨σ,Y,Z⟩ (fun e D=>e=.normal/\G5 b id (cur++b.holds.flatMap Yg) D):=by
 have i:=fE;have GQ:zA=268435456:=rfl;have o:=(VQ c0).2.1;have hll:=qZ Q1 b.holds;refine Wp.block (Wp.loop (RtH b id cur) b.holds.length ⟨0,by simp,by simpa using hI,d,c,a⟩ ?_);clear hI d c a σ Y Z;rintro n ⟨σ,Y,Z⟩ ⟨k,PQ,⟨A,E,l,hid,m⟩,d,c,a⟩;simp only at A E d c a l m;by_cases g:k<b.holds.length
 case neg=>
  obtain rfl:k=b.holds.length:=by omega
  refine Wp.cut i (fun σ' Y' Z'=>qq σ 47 (wb false)=σ'/\Y=Y'/\Z=Z') (by simp[c,a]) ?_;rintro _ _ _ ⟨rfl,rfl,rfl⟩;refine Wp.seq (Wp.of i ?_);rw[qf]at m;simp;exact⟨by simp[A],by simp[E],l,hid,m⟩
 obtain⟨x,B⟩:=wZ (b.holds[k]);have p:x∈b.holds:=by rw[<-B];exact zi g
 have F:x.zf.length<=zA:=by have A:x.cb<=yn vi.cb b.holds:=yD p;have h2:=qZ (f:=fun s:List UInt8=>1+s.length) (fun s=>by omega) x.zf;have h3:x.cb=1+x.name.length+x.qp.length+yn (fun s=>1+s.length) x.zf:=rfl;unfold Bk.cb at C;omega
 have G:=o x p;refine Wp.cut i (fun σ' Y' Z'=>qq σ 47 (wb true)=σ'/\Y=Y'/\Z=Z') (by simp[c,a,g]) ?_;rintro _ _ _ ⟨rfl,rfl,rfl⟩;refine Wp.cut i (fun σ' Y' Z'=>qq σ 47 (wb true)=σ'/\Y=Y'/\Z=Z') (by simp) ?_;rintro _ _ _ ⟨rfl,rfl,rfl⟩;refine Wp.seq (Wp.block ?_);refine Wp.cut i (fun σ' Y' Z'=>σ' 1=.ref 0 0 0/\σ' 5=σ 5/\σ' 44=σ 44/\σ' 45=σ 45/\σ' 46=σ 46/\σ' 9=.ref Z 0 0/\qq Y Z (some ⟨49,4,false,[x.V]⟩)=Y'/\Z+1=Z') (by simp[A,d,a,g,B,vi.V]) ?_;rintro σ1 _ _ ⟨g1,g5,H,I,J,g9,rfl,rfl⟩;have K:=m.keep (Y':=qq Y Z (some ⟨49,4,false,[x.V]⟩)) (Z':=Z+1) (by omega) (fun j hj=>by rw[zD _ _ _ _ (by omega)]);have L:=Qh Yg b.holds g;rw[B]at L;obtain⟨ln,h⟩:=wZ (Vf [X9,x.name,x.qp,jt x.buckets]);have q:Yg x=ln++x.zf.flatMap YB:=by rw[<-h];rfl
 have r:=zo List.length q;rw[zm]at r;have t:ln≠[]:=by rw[<-h];simp[Vf]
 obtain⟨hp3,M,e2,e3⟩:=K.put (rest:=[str ln]) (az:=[str ln]) (Y1:=qq Y Z (some ⟨49,4,false,[x.V]⟩)) (by simp) rfl (cH ln t) t (by rw[zm];omega);have b0:=e3 0 _ (by omega) (fun e=>hid e.symm) (by rw[zD _ _ _ _ (by have:=m.1;omega)];exact l) (by show 27≠UB;decide);have b2:=e3 Z _ (by omega) (by have:=m.1;omega) (wU _ _ _) (by show 49≠UB;decide);have hit:=fun Y Z=>kl x.buckets Y Z G.1 (by omega)
 have N:=zcI x;obtain⟨P,u⟩:=wZ (Lib.decDigits x.buckets.toNat);rw[u]at hit;simp only[jt,u]at N h;have hlnl:ln.length=8+x.name.length+x.qp.length+P.length:=by rw[<-h,<-N];simp[X9];omega
 rw[<-h,<-N]at M;have k1:(([104,111,108,100,32]:za)).length+x.name.length<=maxLen:=by unfold maxLen;simp;omega
 have k2:(([104,111,108,100,32]:za)++x.name).length+([32]:za).length<=maxLen:=by unfold maxLen;simp;omega
 have k3:(([104,111,108,100,32]:za)++x.name++([32]:za)).length+x.qp.length<=maxLen:=by unfold maxLen;simp;omega
 have k4:(([104,111,108,100,32]:za)++x.name++([32]:za)++x.qp).length+([32]:za).length<=maxLen:=by unfold maxLen;simp;omega
 have k5:(([104,111,108,100,32]:za)++x.name++([32]:za)++x.qp++([32]:za)).length+P.length<=maxLen:=by unfold maxLen;simp;omega
 have k6:(([104,111,108,100,32]:za)++x.name++([32]:za)++x.qp++([32]:za)++P).length+([10]:za).length<=maxLen:=by unfold maxLen;simp;omega
 simp at k1 k2 k3 k4 k5 k6;simp[X9,vi.V]at M;simp only[vi.V]at b2;have q5:=g5.trans E;refine Wp.cut i (fun σ' Y' Z'=>σ' 1=.ref 0 0 0/\σ' 5=.ref id 0 0/\σ' 44=σ 44/\σ' 45=σ 45/\σ' 46=σ 46/\σ' 9=.ref Z 0 0/\hp3=Y'/\Z+1+1=Z') (by simp[g1,q5,H,I,J,g9,vi.V,hit,M,k1,k2,k3,k4,k5,k6]) ?_;rintro σ2 _ _ ⟨Q,R,S,T,U,k9,rfl,rfl⟩;refine Wp.cut i (fun σ' Y' Z'=>σ' 1=.ref 0 0 0/\σ' 5=.ref id 0 0/\σ' 44=σ 44/\σ' 45=σ 45/\σ' 46=σ 46/\σ' 65=.sl 1 (zy x.zf)/\σ' 66=int x.zf.length/\σ' 67=int 0/\hp3=Y'/\Z+1+1=Z') (by
  have W:(zy x.zf).length=x.zf.length:=by simp[zy]
  simp[Q,R,S,T,U,k9,b2,W]) ?_
 rintro σ3 _ _ ⟨j1,j5,X,j45,j46,j65,j66,j67,rfl,rfl⟩;refine Wp.mono (rtHi b x F (cur:=(cur++(b.holds.take k).flatMap Yg)++ln) ⟨j1,j5,b0,hid,e2⟩ j65 j66 j67 (by rw[zm,zm];omega)) ?_;rintro e ⟨σ4,hp4,nx4⟩ ⟨rfl,⟨m1,m5,v,_,mB⟩,w,y,z⟩;simp only at m1 m5 v mB w y z;simp only[vj,kM];have hw:IntKind.i64.wrap ((k:Int)+1)=(k:Int)+1:=wS (by unfold Bk.cb at C;omega) (by unfold Bk.cb at C;omega);have q46:=(z.trans j46).trans a;refine Wp.of i ?_;simp[q46,hw];refine⟨n-1,by omega,k+1,by omega,⟨by simp[m1],by simp[m5],v,hid,?_⟩,by simp[w,X,d],by simp[y,j45,c],by simp⟩;rw[vJ Yg b.holds g,B,q,<-qG];exact mB
def TxSp(b:Bk)(x:Xp)(p:yz)(id c:Nat)(cur:za)(a:Nat->O)(n:Nat)(st:St):Prop:=∃k,k+n=p.qJ.length/\GZ b x id c cur st/\st.σ 151=.sl 2 (p.qJ.map jP)/\st.σ 152=int p.qJ.length/\st.σ 153=int k/\qN st.Y st.Z 9 1 (st.σ 23) (zy ([32,32,97,116]::jt p.at_::(p.qJ.take k).map bB))/\st.σ 84=a 84/\st.σ 85=a 85/\st.σ 86=a 86/\st.σ 139=a 139/\st.σ 140=a 140/\st.σ 141=a 141
theorem txSp(b:Bk)(x:Xp)(p:yz)(N:∀s∈p.qJ,0<=s.1/\s.1<=4000000000/\0<=s.2/\s.2<=4000000000)(hal:p.qJ.length<=zA){id B:Nat}{σ:Nat->O}{Y:Hp}{Z:Nat}{cur:za}(hI:GZ b x id B cur ⟨σ,Y,Z⟩)(f:σ 151=.sl 2 (p.qJ.map jP))(c:σ 152=int p.qJ.length)(a:σ 153=int 0)(o:qN Y Z 9 1 (σ 23) (zy [[32,32,97,116],jt p.at_])) :
  Wp False K5 Tryz.f4.ntmps ((K4 12 Q4).getD .skip) ⟨σ,Y,Z⟩ (fun e d=>e=.normal/\GZ b x id B cur d/\qN d.Y d.Z 9 1 (d.σ 23) (zy (Iy p))/\d.σ 84=σ 84/\d.σ 85=σ 85/\d.σ 86=σ 86/\d.σ 139=σ 139/\d.σ 140=σ 140/\d.σ 141=σ 141):=by
 have A:=xX;have GQ:zA=268435456:=rfl;refine Wp.block (Wp.loop (TxSp b x p id B cur σ) p.qJ.length ⟨0,by simp,hI,f,c,a,by rw[kV];exact o,rfl,rfl,rfl,rfl,rfl,rfl⟩ ?_);generalize σ=σ0;clear hI f c a o Y Z;rintro n ⟨σ,Y,Z⟩ ⟨k,PQ,⟨⟨P,Q,R,L,q,hid,M⟩,t,C,D,u⟩,f,c,a,o,v,w,y,h,i,l⟩;simp only at P Q R L t f c a v w y h i l q M C u o;by_cases m:k<p.qJ.length
 case neg=>
  obtain rfl:k=p.qJ.length:=by omega
  refine Wp.cut A (fun σ' Y' Z'=>qq σ 154 (wb false)=σ'/\Y=Y'/\Z=Z') (by simp[c,a]) ?_;rintro _ _ _ ⟨rfl,rfl,rfl⟩;refine Wp.seq (Wp.of A ?_);rw[qf]at o;simp;exact⟨⟨⟨by simp[P],by simp[Q],by simp[R],by simp[L],q,hid,M⟩,by simp[t],C,D,u⟩,o,v,w,y,h,i,l⟩
 obtain⟨r,S⟩:=wZ (p.qJ[k]);have T:r∈p.qJ:=by rw[<-S];exact zi m
 refine Wp.cut A (fun σ' Y' Z'=>qq σ 154 (wb true)=σ'/\Y=Y'/\Z=Z') (by simp[c,a,m]) ?_;rintro _ _ _ ⟨rfl,rfl,rfl⟩;refine Wp.cut A (fun σ' Y' Z'=>qq σ 154 (wb true)=σ'/\Y=Y'/\Z=Z') (by simp) ?_;rintro _ _ _ ⟨rfl,rfl,rfl⟩;refine Wp.seq (Wp.block ?_);refine Wp.cut A (fun σ' Y' Z'=>σ' 1=.ref 0 0 0/\σ' 5=σ 5/\σ' 6=σ 6/\σ' 7=σ 7/\σ' 15=σ 15/\σ' 23=σ 23/\σ' 84=σ 84/\σ' 85=σ 85/\σ' 86=σ 86/\σ' 139=σ 139/\σ' 140=σ 140/\σ' 141=σ 141/\σ' 151=σ 151/\σ' 152=σ 152/\σ' 153=σ 153/\σ' 25=.ref Z 0 0/\qq Y Z (some ⟨65,2,false,[jP r]⟩)=Y'/\Z+1=Z') (by simp[P,f,a,m,S,jP]) ?_;rintro U _ _ ⟨g1,g5,g6,g7,W,X,g84,g85,g86,E,F,G,H,I,J,g25,rfl,rfl⟩;have hO2:qN (qq Y Z (some ⟨65,2,false,[jP r]⟩)) (Z+1) 9 1 (U 23) (zy ([32,32,97,116]::jt p.at_::(p.qJ.take k).map bB)):=by rw[X];exact o.more _
 refine zir r (g7.trans L) g25 (by omega) (by simp) (N r T) hO2 (by have:=List.length_take_le k p.qJ;simp only[zx,Zn];omega) ?_;intro σ2 Y2 PL g hO3 hnx z;simp only[vj,kM];have hw:=qe k;have K:=(g 153 (by decide) (by decide)).trans (J.trans a);have hB2:=u7 (M.keep (Y':=qq Y Z (some ⟨65,2,false,[jP r]⟩)) (Z':=Z+1) (by omega) (fun j hj=>by rw[zD _ _ _ _ (by omega)])) hnx z;refine Wp.of A ?_;simp[K,hw];refine⟨n-1,by omega,k+1,by omega,⟨⟨?_,?_,?_,?_,?_,hid,hB2⟩,?_,(by show B<PL;omega),D,?_⟩,?_,?_,by simp,?_,?_,?_,?_,?_,?_,?_⟩
 ·simp[g 1 (by decide) (by decide),g1]
 ·simp[g 5 (by decide) (by decide),g5,Q]
 ·simp[g 6 (by decide) (by decide),g6,R]
 ·simp[g 7 (by decide) (by decide),g7,L]
 ·exact z 0 _ (by omega) (by rw[zD _ _ _ _ (by have:=M.1;omega)];exact q) (.inr rfl)
 ·simp[g 15 (by decide) (by decide),W,t]
 ·exact z B _ (by omega) (by rw[zD _ _ _ _ (by omega)];exact u) (.inr rfl)
 ·simp[g 151 (by decide) (by decide),H,f]
 ·simp[g 152 (by decide) (by decide),I,c]
 ·rw[Fy bB p.qJ m,S];simpa using hO3
 ·simp[g 84 (by decide) (by decide),g84,v]
 ·simp[g 85 (by decide) (by decide),g85,w]
 ·simp[g 86 (by decide) (by decide),g86,y]
 ·simp[g 139 (by decide) (by decide),E,h]
 ·simp[g 140 (by decide) (by decide),F,i]
 ·simp[g 141 (by decide) (by decide),G,l]
def TxPh(b:Bk)(x:Xp)(id c:Nat)(cur:za)(a:Nat->O)(n:Nat)(st:St):Prop:=∃k,k+n=x.zF.length/\GZ b x id c (cur++(x.zF.take k).flatMap ab) st/\st.σ 139=.sl 2 (x.zF.map yz.V)/\st.σ 140=int x.zF.length/\st.σ 141=int k/\st.σ 84=a 84/\st.σ 85=a 85/\st.σ 86=a 86
theorem txPh(b:Bk)(x:Xp)(N:Ve x)(P:x.zF.length<=zA/\∀p∈x.zF,p.qJ.length<=zA){id r:Nat}{σ:Nat->O}{Y:Hp}{Z:Nat}{cur:za}(hI:GZ b x id r cur ⟨σ,Y,Z⟩)(g:σ 139=.sl 2 (x.zF.map yz.V))(f:σ 140=int x.zF.length)(d:σ 141=int 0)(hlen:cur.length+(x.zF.flatMap ab).length<=140737488355328) :
  Wp False K5 Tryz.f4.ntmps ((K4 10 Q4).getD .skip) ⟨σ,Y,Z⟩ (fun e a=>e=.normal/\GZ b x id r (cur++x.zF.flatMap ab) a/\a.σ 84=σ 84/\a.σ 85=σ 85/\a.σ 86=σ 86):=by
 have s:=xX;have GQ:zA=268435456:=rfl;refine Wp.block (Wp.loop (TxPh b x id r cur σ) x.zF.length ⟨0,by simp,by simpa using hI,g,f,d,rfl,rfl,rfl⟩ ?_);generalize σ=σ0;clear hI g f d Y Z;rintro n ⟨σ,Y,Z⟩ ⟨k,PQ,⟨⟨h1,h5,h6,Q,F,hid,R⟩,G,H,t,I⟩,g,f,d,J,L,M⟩;simp only at h1 h5 h6 Q G g f d J L M F R H I;by_cases o:k<x.zF.length
 case neg=>
  obtain rfl:k=x.zF.length:=by omega
  refine Wp.cut s (fun σ' Y' Z'=>qq σ 142 (wb false)=σ'/\Y=Y'/\Z=Z') (by simp[f,d]) ?_;rintro _ _ _ ⟨rfl,rfl,rfl⟩;refine Wp.seq (Wp.of s ?_);rw[qf]at R;simp;exact⟨⟨⟨by simp[h1],by simp[h5],by simp[h6],by simp[Q],F,hid,R⟩,by simp[G],H,t,I⟩,J,L,M⟩
 obtain⟨p,Y'⟩:=wZ (x.zF[k]);have u:p∈x.zF:=by rw[<-Y'];exact zi o
 have hat:=N.phs p u;have S:=Qh ab x.zF o;rw[Y']at S;refine Wp.cut s (fun σ' Y' Z'=>qq σ 142 (wb true)=σ'/\Y=Y'/\Z=Z') (by simp[f,d,o]) ?_;rintro _ _ _ ⟨rfl,rfl,rfl⟩;refine Wp.cut s (fun σ' Y' Z'=>qq σ 142 (wb true)=σ'/\Y=Y'/\Z=Z') (by simp) ?_;rintro _ _ _ ⟨rfl,rfl,rfl⟩;refine Wp.seq (Wp.block ?_);refine Wp.cut s (fun σ' Y' Z'=>σ' 1=.ref 0 0 0/\σ' 5=σ 5/\σ' 6=σ 6/\σ' 7=σ 7/\σ' 15=σ 15/\σ' 84=σ 84/\σ' 85=σ 85/\σ' 86=σ 86/\σ' 139=σ 139/\σ' 140=σ 140/\σ' 141=σ 141/\σ' 22=.ref Z 0 0/\qq Y Z (some ⟨63,2,false,[p.V]⟩)=Y'/\Z+1=Z') (by simp[h1,g,d,o,Y',yz.V]) ?_;rintro c _ _ ⟨g1,g5,g6,g7,v,w,y,z,i,l,m,A,rfl,rfl⟩;have q7:=g7.trans Q;have hit:=fun Y Z=>kl p.at_ Y Z hat.1 (by omega)
 have bp:qq Y Z (some ⟨63,2,false,[p.V]⟩) Z=some ⟨63,2,false,[[int p.at_,.sl 2 (p.qJ.map jP)]]⟩:=by simp[yz.V]
 refine Wp.cut s (fun σ' Y' Z'=>σ' 1=.ref 0 0 0/\σ' 5=σ 5/\σ' 6=σ 6/\σ' 7=σ 7/\σ' 15=σ 15/\σ' 84=σ 84/\σ' 85=σ 85/\σ' 86=σ 86/\σ' 139=σ 139/\σ' 140=σ 140/\σ' 141=σ 141/\σ' 22=.ref Z 0 0/\σ' 23=.own (Z+1) 0 2/\qq (qq Y Z (some ⟨63,2,false,[p.V]⟩)) (Z+1) (some ⟨9,1,true,zy [[32,32,97,116],jt p.at_]⟩)=Y'/\Z+2=Z') (by simp[g1,g5,g6,q7,Q,v,w,y,z,i,l,m,A,bp,yz.V,hit,jt,zt,zJ,zr,zy]) ?_;clear g1 g5 g6 g7 v w y z i l m A q7 bp c;rintro c _ _ ⟨g1,g5,g6,g7,v,w,y,z,i,l,m,A,g23,rfl,rfl⟩;obtain⟨h,B⟩:=wZ (qq (qq Y Z (some ⟨63,2,false,[p.V]⟩)) (Z+1) (some ⟨9,1,true,zy [[32,32,97,116],jt p.at_]⟩));rw[B];have bp:h Z=some ⟨63,2,false,[[int p.at_,.sl 2 (p.qJ.map jP)]]⟩:=by rw[<-B,zD _ _ _ _ (by omega)];simp[yz.V]
 have q:∀j,j<Z->h j=Y j:=fun j hj=>by rw[<-B,zD _ _ _ _ (by omega),zD _ _ _ _ (by omega)]
 have hO:qN h (Z+2) 9 1 (c 23) (zy [[32,32,97,116],jt p.at_]):=.inr ⟨Z+1,by omega,by rw[g23];simp[zy],by rw[<-B];simp⟩;refine Wp.seq (Wp.mono (K:=fun e a=>e=.normal/\GZ b x id r (cur++(x.zF.take k).flatMap ab) a/\qN a.Y a.Z 9 1 (a.σ 23) (zy (Iy p))/\a.σ 84=σ 84/\a.σ 85=σ 85/\a.σ 86=σ 86/\a.σ 139=σ 139/\a.σ 140=σ 140/\a.σ 141=σ 141) ?_ ?_)
 ·refine Wp.cut s (fun σ' Y' Z'=>σ' 1=.ref 0 0 0/\σ' 5=c 5/\σ' 6=c 6/\σ' 7=c 7/\σ' 15=c 15/\σ' 23=c 23/\σ' 84=c 84/\σ' 85=c 85/\σ' 86=c 86/\σ' 139=c 139/\σ' 140=c 140/\σ' 141=c 141/\σ' 151=.sl 2 (p.qJ.map jP)/\σ' 152=int p.qJ.length/\σ' 153=int 0/\h=Y'/\Z+2=Z') (by simp[A,bp,g1]) ?_;rintro σ2 _ _ ⟨k1,k5,k6,k7,k15,k23,k84,k85,k86,T,U,W,X,k152,k153,rfl,rfl⟩;have hX:GZ b x id r (cur++(x.zF.take k).flatMap ab) ⟨σ2,h,Z+2⟩:=⟨⟨k1,(k5.trans g5).trans h5,(k6.trans g6).trans h6,(k7.trans g7).trans Q,by show h 0=_;rw[q 0 (by have:=R.1;omega)];exact F,hid,R.keep (Z':=Z+2) (by omega) q⟩,(k15.trans v).trans G,(by show r<Z+2;omega),t,by show h r=_;rw[q r H];exact I⟩;refine Wp.mono (txSp b x p (N.spn p u) (P.2 p u) hX X k152 k153 (by rw[k23];exact hO)) ?_;rintro e a ⟨rfl,hX',hO',a84,a85,a86,a139,a140,a141⟩;exact⟨rfl,hX',hO',(a84.trans k84).trans w,(a85.trans k85).trans y,(a86.trans k86).trans z,(a139.trans T).trans i,(a140.trans U).trans l,(a141.trans W).trans m⟩
 rintro e ⟨σ3,hp3,nx3⟩ ⟨rfl,⟨⟨m1,m5,m6,m7,mb0,_,mB⟩,m15,mjn,_,mbx⟩,mO,m84,m85,m86,C,D,E⟩;simp only at m1 m5 m6 m7 mb0 mB m15 mjn mbx mO m84 m85 m86 C D E;simp only[kM];have hpl2:=P.2 p u;obtain⟨hp4,nx4,e1,e2,e3,e4⟩:=Jr mB mO (by unfold Iy;simp;omega) (by rw[zm];show _+(ab p).length<=_;omega);refine Wp.mono (K:=fun e a=>e=.normal/\a=⟨qq (qq (qq σ3 171 (.fn (.func 9) [] [.ref id 0 0])) 172 (σ3 23)) 173 (.w5 []),hp4,nx4⟩) (Wp.of s (by simp[m6,e1])) ?_;rintro e a ⟨rfl,rfl⟩;simp only[vj,kM];have hw:=qe k;have q141:=E.trans d;refine Wp.of s ?_;simp[q141,hw];refine⟨n-1,by omega,k+1,by omega,⟨⟨by simp[m1],by simp[m5],by simp[m6],by simp[m7],?_,hid,?_⟩,by simp[m15],(by show r<nx4;omega),t,?_⟩,by simp[C,g],by simp[D,f],by simp,by simp[m84,J],by simp[m85,L],by simp[m86,M]⟩
 ·exact e4 0 _ (by have:=mB.1;omega) (fun e=>hid e.symm) mb0 (by show 27≠UB;decide)
 ·rw[vJ ab x.zF o,Y'];exact e2
 ·exact e4 r _ mjn t mbx (by show 57≠UB;decide)
theorem fF{b:Bk}{x:Xp}{id l:Nat}{cur ln:za}{σ σ':Nat->O}{Y hp3:Hp}{Z nx3:Nat}(h:GZ b x id l cur ⟨σ,Y,Z⟩)(r:tn TB UB id hp3 nx3 (cur++ln))(w:Z<=nx3)(a:∀j b,j<Z->j≠id->Y j=some b->b.e≠UB->hp3 j=some b)
  (s:σ' 1=σ 1) (t:σ' 5=σ 5) (u:σ' 6=σ 6) (v:σ' 7=σ 7) (m:σ' 15=σ 15):GZ b x id l (cur++ln) ⟨σ',hp3,nx3⟩:=by
 obtain⟨⟨n,o,p,q,c,hid,d⟩,f,g,i,k⟩:=h;simp only at n o p q c d f g k;exact⟨⟨s.trans n,t.trans o,u.trans p,v.trans q,a 0 _ (by have:=d.1;omega) (fun e=>hid e.symm) c (by show 27≠UB;decide),hid,r⟩,m.trans f,(by show l<nx3;omega),i,a l _ g i k (by show 57≠UB;decide)⟩
theorem UP{Y hp3:Hp}{Z id:Nat}{o:Option Blk}(c:∀j b,j<Z+1->j≠id->qq Y Z o j=some b->b.e≠UB->hp3 j=some b):∀j b,j<Z->j≠id->Y j=some b->b.e≠UB->hp3 j=some b:=fun j b g a d f=>c j b (by omega) a (by rw[zD _ _ _ _ (by omega)];exact d) f
def TxE(b:Bk)(id:Nat)(cur:za)(n:Nat)(st:St):Prop:=∃k,k+n=b.zU.length/\(∀y∈b.zU.take k,(Zc y.cond).2=0)/\Fx b id (cur++(b.zU.take k).flatMap bC) st/\st.σ 84=.sl 13 (b.zU.map Xp.V)/\st.σ 85=int b.zU.length/\st.σ 86=int k
theorem zcJ{b:Bk}(a:b.cb<=zA){x:Xp}(c:x∈b.zU):x.cond.cb<=zA/\x.yF.length<=zA/\x.zF.length<=zA/\∀p∈x.zF,p.qJ.length<=zA:=by have d:x.cb<=yn Xp.cb b.zU:=yD c;have e:x.cb=x.name.length+x.wH.length+x.flag.length+x.cond.cb+x.qp.length+x.yF.length+yn yz.cb x.zF:=rfl;have f:=qZ J4 x.zF;unfold Bk.cb at a;refine⟨by omega,by omega,by omega,fun p Y=>?_⟩;have g:p.cb<=yn yz.cb x.zF:=yD Y;have h:p.cb=1+p.qJ.length:=rfl;omega
theorem MB{b:Bk}(a:yg b=0):b.zU.length<=100:=by
 unfold yg at a;split at a
 ·exact absurd a (by simp)
 ·rename_i c;omega
set_option maxHeartbeats 8000000 in
theorem txE(b:Bk)(hb:b.cb<=zA)(c0:yg b=0){id:Nat}{σ:Nat->O}{Y:Hp}{Z:Nat}{cur:za}{K:Exit->St->Prop}(hI:Fx b id cur ⟨σ,Y,Z⟩)(w:σ 84=.sl 13 (b.zU.map Xp.V))(s:σ 85=int b.zU.length)(l:σ 86=int 0)(hlen:cur.length+(b.zU.flatMap bC).length<=140737488355328)
  (hOk:mo b.zU=false->∀d,Fx b id (cur++b.zU.flatMap bC) d->K .normal d) (hBad:mo b.zU=true->∀d,d.σ 2=str []->d.σ 3=int 2->K .ret d) :
  Wp False K5 Tryz.f4.ntmps ((K4 6 Q4).getD .skip) ⟨σ,Y,Z⟩ K:=by
 have z:=xX;have GQ:zA=268435456:=rfl;have hnum:=(VQ c0).2.2;have hel:=MB c0;refine Wp.block (Wp.loop (TxE b id cur) b.zU.length ⟨0,by simp,by simp,by simpa using hI,w,s,l⟩ ?_);clear hI w s l σ Y Z;rintro n ⟨σ,Y,Z⟩ ⟨k,PQ,I,⟨h1,h5,h6,h7,hb0,hid,hB⟩,w,s,l⟩;simp only at h1 h5 h6 h7 w s l hb0 hB;by_cases B:k<b.zU.length
 case neg=>
  obtain rfl:k=b.zU.length:=by omega
  refine Wp.cut z (fun σ' Y' Z'=>qq σ 87 (wb false)=σ'/\Y=Y'/\Z=Z') (by simp[s,l]) ?_;rintro _ _ _ ⟨rfl,rfl,rfl⟩;refine Wp.seq (Wp.of z ?_);rw[qf]at hB I;have ht:mo b.zU=false:=by unfold mo;rw[List.any_eq_false];intro y hy;simp[I y hy]
  simp;exact hOk ht _ ⟨by simp[h1],by simp[h5],by simp[h6],by simp[h7],hb0,hid,hB⟩
 obtain⟨x,hx⟩:=wZ (b.zU[k]);have hxm:x∈b.zU:=by rw[<-hx];exact zi B
 have Hi:=hnum x hxm;obtain⟨l1,l2,l3,l4⟩:=zcJ hb hxm;have hpre:=Qh bC b.zU B;rw[hx]at hpre;have hxb:(bC x).length=(sg x).length+((xpI x).length+((Vf (ch x)).length+(x.zF.flatMap ab).length)):=by unfold bC;rw[zm,zm,zm]
 refine Wp.cut z (fun σ' Y' Z'=>qq σ 87 (wb true)=σ'/\Y=Y'/\Z=Z') (by simp[s,l,B]) ?_;rintro _ _ _ ⟨rfl,rfl,rfl⟩;refine Wp.cut z (fun σ' Y' Z'=>qq σ 87 (wb true)=σ'/\Y=Y'/\Z=Z') (by simp) ?_;rintro _ _ _ ⟨rfl,rfl,rfl⟩;refine Wp.seq (Wp.block ?_);refine Wp.cut z (fun σ' Y' Z'=>σ' 1=.ref 0 0 0/\σ' 5=σ 5/\σ' 6=σ 6/\σ' 7=σ 7/\σ' 84=σ 84/\σ' 85=σ 85/\σ' 86=σ 86/\σ' 15=.ref Z 0 0/\qq Y Z (some ⟨57,13,false,[x.V]⟩)=Y'/\Z+1=Z') (by simp[h1,w,l,B,hx,qK]) ?_;rintro a _ _ ⟨g1,g5,g6,g7,g84,g85,g86,R,rfl,rfl⟩;obtain⟨t,S⟩:=wZ (qq Y Z (some ⟨57,13,false,[x.V]⟩));rw[S];have hX:GZ b x id Z (cur++(b.zU.take k).flatMap bC) ⟨a,t,Z+1⟩:=⟨⟨g1,g5.trans h5,g6.trans h6,g7.trans h7,by show t 0=_;rw[<-S,zD _ _ _ _ (by have:=hB.1;omega)];exact hb0,hid,hB.keep (Z':=Z+1) (by omega) (fun j hj=>by show t j=_;rw[<-S,zD _ _ _ _ (by omega)])⟩,R,(by show Z<Z+1;omega),by have:=hB.1;omega,by show t Z=_;rw[<-S];simp⟩;have bx:t Z=some ⟨57,13,false,[x.V]⟩:=hX.2.2.2.2;simp only[qK]at bx;have gk:∀Y Z,GC JL [.agg x.cond.V] Y Z=some (.w5 [str (Zc x.cond).1,int (Zc x.cond).2],Y,Z):=fun Y Z=>vx JL x.cond Y Z l1
 simp only[we]at gk;have hnn:Z<Z+1:=by omega
 generalize Z+1=C at *;have w1:a 1=.ref 0 0 0:=g1;have w6:=g6.trans h6;have w84:=g84.trans w;have w85:=g85.trans s;have w86:=g86.trans l;clear g1 g5 g6 g7 g84 g85 g86 h1 h5 h6 h7 w s l;refine Wp.cut z (fun σ' Y' Z'=>σ' 1=a 1/\σ' 5=a 5/\σ' 6=a 6/\σ' 7=a 7/\σ' 15=a 15/\σ' 84=a 84/\σ' 85=a 85/\σ' 86=a 86/\σ' 16=str (Zc x.cond).1/\σ' 17=int (Zc x.cond).2/\t=Y'/\C=Z') (by simp[R,bx,gk]) ?_;rintro f _ _ ⟨T,U,W,X,m,o,p,q,u,k17,rfl,rfl⟩;obtain⟨pe,hpe⟩:=wZ ((Zc x.cond).2);rw[hpe]at k17;by_cases A:pe=0
 case neg=>
  refine Wp.seq (Wp.of z ?_);have hne:=vX A;simp[k17,hne];refine hBad ?_ _ ?_ ?_
  ·unfold mo;rw[Yo];exact⟨x,hxm,by rw[hpe];simpa using A⟩
  ·simp
  ·simp
 refine Wp.cut z (fun σ' Y' Z'=>σ' 1=a 1/\σ' 5=a 5/\σ' 6=a 6/\σ' 7=a 7/\σ' 15=a 15/\σ' 84=a 84/\σ' 85=a 85/\σ' 86=a 86/\σ' 16=str (Zc x.cond).1/\t=Y'/\C=Z') (by simp[k17,A,T,U,W,X,m,o,p,q,u]) ?_;clear T U W X m o p q u k17 f;rintro f _ _ ⟨T,U,W,X,m,o,p,q,u,rfl,rfl⟩;have hB1:=hX.1.2.2.2.2.2.2;simp only at hB1;obtain⟨hpB,J,e1,e2,e3,e4⟩:=Jr (hB1.keep (Y':=qq t C (some ⟨9,1,true,zy [sK,x.name,x.wH,x.flag,x.qp]⟩)) (Z':=C+1) (by omega) (fun j hj=>by rw[zD _ _ _ _ (by omega)])) (v:=.own C 0 5) (xs:=[sK,x.name,x.wH,x.flag,x.qp]) (e:=9) (.inr ⟨C,by omega,rfl,by simp⟩) (by simp) (by rw[zm];show _+(sg x).length<=_;omega);have c6:=W.trans w6;have c15:=m.trans R;simp only[zy,z6,yX,sK]at e1;refine Wp.cut z (fun σ' Y' Z'=>σ' 1=a 1/\σ' 5=a 5/\σ' 6=a 6/\σ' 7=a 7/\σ' 15=a 15/\σ' 84=a 84/\σ' 85=a 85/\σ' 86=a 86/\σ' 16=str (Zc x.cond).1/\hpB=Y'/\J=Z') (by simp[c6,c15,bx,e1,T,U,w6,X,R,o,p,q,u,zt,zJ,zr]) ?_;have L:=fun σ'=>fF (σ':=σ') hX e2 (by omega) (UP e4)
 clear T U W X m o p q u e1 c6 c15 bx gk f;rintro f _ _ ⟨T,U,W,X,m,o,p,q,u,rfl,rfl⟩;have hXB:=L f T U W X m;clear L;have hB2:=hXB.1.2.2.2.2.2.2;simp only at hB2;obtain⟨hpC,g,f1,f2,f3,f4⟩:=Jr (hB2.keep (Y':=qq hpB J (some ⟨9,1,true,zy [[32,32,105,102],(Zc x.cond).1]⟩)) (Z':=J+1) (by omega) (fun j hj=>by rw[zD _ _ _ _ (by omega)])) (v:=.own J 0 2) (xs:=[[32,32,105,102],(Zc x.cond).1]) (e:=9) (.inr ⟨J,by omega,rfl,by simp⟩) (by simp) (by rw[zm,zm];show _+_+(sg x).length+(xpI x).length<=_;omega);have c6:=W.trans w6;simp only[zy,z6,yX]at f1;refine Wp.cut z (fun σ' Y' Z'=>σ' 1=f 1/\σ' 5=f 5/\σ' 6=f 6/\σ' 7=f 7/\σ' 15=f 15/\σ' 84=f 84/\σ' 85=f 85/\σ' 86=f 86/\hpC=Y'/\g=Z') (by simp[c6,f1,T,U,w6,X,m,o,p,q,u,zt,zJ,zr]) ?_;have L:=fun σ'=>fF (σ':=σ') hXB f2 (by omega) (UP f4)
 rintro r _ _ ⟨m1,m5,m6,m7,m15,m84,m85,m86,rfl,rfl⟩;have hXC:=L r m1 m5 m6 m7 m15;clear L f1;refine Wp.cut z (fun σ' Y' Z'=>σ' 1=r 1/\σ' 5=r 5/\σ' 6=r 6/\σ' 7=r 7/\σ' 15=r 15/\σ' 84=r 84/\σ' 85=r 85/\σ' 86=r 86/\σ' 18=.own g 0 1/\qq hpC g (some ⟨9,1,true,zy [rj]⟩)=Y'/\g+1=Z') (by simp[rj,zy,zt,zJ,zr]) ?_;rintro c _ _ ⟨n1,n5,n6,n7,n15,n84,n85,n86,n18,rfl,rfl⟩;obtain⟨D,M⟩:=wZ (qq hpC g (some ⟨9,1,true,zy [rj]⟩));rw[M];have hXD:GZ b x id Z (cur++(b.zU.take k).flatMap bC++sg x++xpI x) ⟨c,D,g+1⟩:=by have:=fF (σ':=c) (ln:=[]) (hp3:=D) (nx3:=g+1) hXC (by rw[ku];exact(hXC.1.2.2.2.2.2.2).keep (Z':=g+1) (by show g<=g+1;omega) (fun j hj=>by show D j=hpC j;rw[<-M,zD _ _ _ _ (by intro e;subst e;exact absurd hj (Nat.lt_irrefl _))])) (by omega) (fun j b hj _ hb _=>by rw[<-M,zD _ _ _ _ (by omega)];exact hb) n1 n5 n6 n7 n15;rw[ku]at this;exact this
 have hOD:qN D (g+1) 9 1 (c 18) (zy [rj]):=.inr ⟨g,by omega,by rw[n18];rfl,by rw[<-M];simp⟩;have z84:=(((n84.trans m84).trans o).trans w84);have z85:=(((n85.trans m85).trans p).trans w85);have z86:=(((n86.trans m86).trans q).trans w86);clear n1 n5 n6 n7 n15 n84 n85 n86 n18 m1 m5 m6 m7 m15 m84 m85 m86 T U W X m o p q u w1 w6 w84 w85 w86 hXC hXB hX hB1 hB2 M e2 e3 e4 f2 f3 f4 c6;generalize g+1=nxD at *;refine Wp.seq (Wp.mono (K:=fun e d=>e=.normal/\GZ b x id Z (cur++(b.zU.take k).flatMap bC++sg x++xpI x) d/\qN d.Y d.Z 9 1 (d.σ 18) (zy (ch x))/\d.σ 84=c 84/\d.σ 85=c 85/\d.σ 86=c 86) ?_ ?_)
 ·have bx:D Z=some ⟨57,13,false,[x.V]⟩:=hXD.2.2.2.2;have q15:c 15=.ref Z 0 0:=hXD.2.1;simp only[qK]at bx;refine Wp.cut z (fun σ' Y' Z'=>σ' 1=c 1/\σ' 5=c 5/\σ' 6=c 6/\σ' 7=c 7/\σ' 15=c 15/\σ' 84=c 84/\σ' 85=c 85/\σ' 86=c 86/\σ' 18=c 18/\σ' 115=.sl 3 (x.yF.map Qq)/\σ' 116=int x.yF.length/\σ' 117=int 0/\D=Y'/\nxD=Z') (by simp[q15,bx]) ?_;rintro h _ _ ⟨r1,r5,r6,r7,E,F,G,H,r18,r115,r116,r117,rfl,rfl⟩;obtain⟨⟨a1,a5,a6,a7,a0,_,aB⟩,a15,ajn,aji,abx⟩:=hXD;refine Wp.mono (txAr b x Hi l2 (σ:=h) ⟨⟨r1.trans a1,r5.trans a5,r6.trans a6,r7.trans a7,a0,hid,aB⟩,E.trans a15,ajn,aji,abx⟩ r115 r116 r117 (by rw[r18];exact hOD)) ?_;rintro e d ⟨rfl,hX',hO',N,P,Q⟩;exact⟨rfl,hX',hO',N.trans F,P.trans G,Q.trans H⟩
 rintro e ⟨h,hpE,nxE⟩ ⟨rfl,hXE,hOE,N,P,Q⟩;simp only at hOE N P Q;simp only[kM];have aB:=hXE.1.2.2.2.2.2.2;have a6:h 6=.fn (.func 9) [] [.ref id 0 0]:=hXE.1.2.2.1;simp only at aB;obtain⟨hpF,nxF,i1,i2,i3,i4⟩:=Jr aB hOE (by unfold ch;simp;omega) (by rw[zm,zm,zm];omega);refine Wp.cut z (fun σ' Y' Z'=>σ' 1=h 1/\σ' 5=h 5/\σ' 6=h 6/\σ' 7=h 7/\σ' 15=h 15/\σ' 84=h 84/\σ' 85=h 85/\σ' 86=h 86/\hpF=Y'/\nxF=Z') (by simp[a6,i1]) ?_;rintro i _ _ ⟨r1,r5,r6,r7,E,F,G,H,rfl,rfl⟩;have hXF:=fF (σ':=i) hXE i2 i3 i4 r1 r5 r6 r7 E;have y84:=(F.trans N).trans z84;have y85:=(G.trans P).trans z85;have y86:=(H.trans Q).trans z86;clear r1 r5 r6 r7 E F G H N P Q z84 z85 z86 hXE hOE aB a6 i1 i2 i3 i4 hXD hOD;have bx:hpF Z=some ⟨57,13,false,[x.V]⟩:=hXF.2.2.2.2;have q15:i 15=.ref Z 0 0:=hXF.2.1;simp only[qK]at bx;refine Wp.cut z (fun σ' Y' Z'=>σ' 1=i 1/\σ' 5=i 5/\σ' 6=i 6/\σ' 7=i 7/\σ' 15=i 15/\σ' 84=i 84/\σ' 85=i 85/\σ' 86=i 86/\σ' 139=.sl 2 (x.zF.map yz.V)/\σ' 140=int x.zF.length/\σ' 141=int 0/\hpF=Y'/\nxF=Z') (by simp[q15,bx]) ?_;rintro σ7 _ _ ⟨r1,r5,r6,r7,E,F,G,H,r139,r140,r141,rfl,rfl⟩;obtain⟨⟨a1,a5,a6,a7,a0,_,aB⟩,a15,ajn,aji,abx⟩:=hXF;refine Wp.mono (txPh b x Hi ⟨l3,l4⟩ (σ:=σ7) ⟨⟨r1.trans a1,r5.trans a5,r6.trans a6,r7.trans a7,a0,hid,aB⟩,E.trans a15,ajn,aji,abx⟩ r139 r140 r141 (by rw[zm,zm,zm,zm];omega)) ?_;rintro e ⟨σ8,hpG,nxG⟩ ⟨rfl,⟨⟨s1,s5,s6,s7,s0,_,sB⟩,_⟩,s84,s85,s86⟩;simp only at s1 s5 s6 s7 s0 sB s84 s85 s86;simp only[vj,kM];have hw:=qe k;have q86:=(s86.trans H).trans y86;refine Wp.of z ?_;simp[q86,hw];refine⟨n-1,by omega,k+1,by omega,?_,⟨by simp[s1],by simp[s5],by simp[s6],by simp[s7],s0,hid,?_⟩,by simp[s84,F,y84],by simp[s85,G,y85],by simp⟩
 ·intro y hy;rw[zQ B,qi,hx]at hy;rcases hy with hy|hy
  ·exact I y hy
  ·rw[wG.1 hy,hpe];exact A
 ·rw[vJ bC b.zU B,hx,show bC x=sg x++(xpI x++(Vf (ch x)++x.zF.flatMap ab))from rfl];simpa[qG]using sB
set_option maxHeartbeats 8000000 in
theorem Ll:yY False prog 4 (hP (FBk fun b=>.w5 [str (Xt b).1,int (Xt b).2])):=
 YU (C:=K5) (fn:=Tryz.f4) (code:=_) func4 (by kernel_rfl) rfl false [] _ fun args r h=>by
  obtain⟨b,rfl,t,rfl⟩:=zO h;clear h;refine⟨by simp[Tryz.f4],?_⟩;have j:=xX;have S:zA=268435456:=rfl;have z:=fun Y Z=>pD (fun b=>int (yg b)) b Y Z t
  refine Wp.cut j (fun σ Y Z=>σ 1=.ref 0 0 0/\Y 0=some ⟨27,3,false,[b.V]⟩/\Z=1) (by simp[Bk.V]) ?_;rintro σ Y _ ⟨d,a,rfl⟩;have c:=a;simp only[Bk.V]at z c;by_cases k:yg b=0
  case neg=>
   have A:=vX k;have s:Xt b=([],yg b):=by unfold Xt;rw[zd k]
   refine Wp.seq (Wp.of j ?_);simp[d,c,z,A];rw[s];exact⟨_,rfl,z8 _⟩
  refine Wp.cut j (fun σ Y Z=>σ 1=.ref 0 0 0/\Y 0=some ⟨27,3,false,[b.V]⟩/\Z=1) (by simp[d,c,z,k,Bk.V]) ?_;clear d a c σ Y;rintro σ Y _ ⟨d,a,rfl⟩;refine Wp.cut j (fun σ Y Z=>σ 1=.ref 0 0 0/\Y 0=some ⟨27,3,false,[b.V]⟩/\∃id,σ 5=.ref id 0 0/\id≠0/\tn TB UB id Y Z []) (by simp[d,a];exact⟨by omega,.inl ⟨rfl,by simp[W7]⟩⟩) ?_;clear d a σ Y;rintro σ Y Z ⟨d,a,id,f,hid,g⟩;refine Wp.cut j (fun σ Y Z=>σ 1=.ref 0 0 0/\Y 0=some ⟨27,3,false,[b.V]⟩/\σ 5=.ref id 0 0/\σ 6=.fn (.func 9) [] [.ref id 0 0]/\tn TB UB id Y Z []) (by simp[d,a,f,g]) ?_;clear d a f g σ Y Z;rintro σ Y Z ⟨d,a,f,i,g⟩;refine Wp.cut j (fun σ Y Z=>Fx b id [] ⟨σ,Y,Z⟩) (by simp[d,a,f,i,g,Fx,hid]) ?_;clear d a f i g σ Y Z;rintro σ Y Z l;have X:=Md k t;have hbe:(uL b).length=(b.zf.flatMap QC).length+((b.holds.flatMap Yg).length+(b.zU.flatMap bC).length):=by unfold uL;rw[zm,zm]
  refine Wp.seq (Wp.mono (K:=fun e o=>e=.normal/\Fx b id ([]++b.zf.flatMap QC) o) ?_ ?_)
  ·obtain⟨d,f,i,m,a,_,g⟩:=l;have c:=a;simp only[Bk.V]at d f i m c g;refine Wp.cut j (fun σ' Y' Z'=>σ' 1=σ 1/\σ' 5=σ 5/\σ' 6=σ 6/\σ' 7=σ 7/\σ' 33=.sl 3 (b.zf.map w9.V)/\σ' 34=int b.zf.length/\σ' 35=int 0/\Y=Y'/\Z=Z') (by simp[d,c]) ?_;rintro σ' _ _ ⟨u,v,w,x,B,D,E,rfl,rfl⟩;exact txL b t k ⟨u.trans d,v.trans f,w.trans i,x.trans m,a,hid,g⟩ B D E (by show 0+_<=_;omega)
  clear l σ Y Z;rintro e ⟨σ,Y,Z⟩ ⟨rfl,l⟩;simp only[kM];refine Wp.seq (Wp.mono (K:=fun e o=>e=.normal/\Fx b id ([]++b.zf.flatMap QC++b.holds.flatMap Yg) o) ?_ ?_)
  ·obtain⟨d,f,i,m,a,_,g⟩:=l;have c:=a;simp only[Bk.V]at d f i m c g;refine Wp.cut j (fun σ' Y' Z'=>σ' 1=σ 1/\σ' 5=σ 5/\σ' 6=σ 6/\σ' 7=σ 7/\σ' 52=.sl 4 (b.holds.map vi.V)/\σ' 53=int b.holds.length/\σ' 54=int 0/\Y=Y'/\Z=Z') (by simp[d,c]) ?_;rintro σ' _ _ ⟨u,v,w,x,F,G,H,rfl,rfl⟩;exact txH b t k ⟨u.trans d,v.trans f,w.trans i,x.trans m,a,hid,g⟩ F G H (by rw[w7];omega)
  clear l σ Y Z;rintro e ⟨σ,Y,Z⟩ ⟨rfl,l⟩;simp only[kM];rw[w7]at l;obtain⟨d,f,i,m,a,_,g⟩:=l;have c:=a;simp only[Bk.V]at d f i m c g;refine Wp.seq ?_;refine Wp.cut j (fun σ' Y' Z'=>σ' 1=σ 1/\σ' 5=σ 5/\σ' 6=σ 6/\σ' 7=σ 7/\σ' 84=.sl 13 (b.zU.map Xp.V)/\σ' 85=int b.zU.length/\σ' 86=int 0/\Y=Y'/\Z=Z') (by simp[d,c]) ?_;rintro σ' _ _ ⟨u,v,w,x,I,J,L,rfl,rfl⟩;refine txE b t k (σ:=σ') ⟨u.trans d,v.trans f,w.trans i,x.trans m,a,hid,g⟩ I J L (by rw[zm];omega) ?_ ?_
  ·rintro p ⟨M,Y2,N⟩ ⟨m1,P,m6,m7,Q,_,y⟩;simp only at m1 P m6 m7 Q y;rw[qG,show b.zf.flatMap QC++(b.holds.flatMap Yg++b.zU.flatMap bC)=uL b from rfl]at y;simp only[kM];have n:=Mm y;obtain⟨hp3,R⟩:=Mn y;have s:Xt b=if 500000<(uL b).length then([],2)else(uL b,0):=by unfold Xt;rw[ze (by simpa using k),ze (by rw[p];decide)]
   refine Wp.of j ?_;by_cases T:500000<(uL b).length
   ·have q:(500000:Int)<(uL b).length:=by omega
    rw[s,zd T];simp[P,n,q,Tryz.f4];exact⟨_,rfl,z8 _⟩
   ·have q:¬(500000:Int)<(uL b).length:=by omega
    rw[s,ze T];simp[P,n,q,R,Tryz.f4];exact⟨_,rfl,z8 _⟩
  ·rintro p ⟨M,Y2,N⟩ U W;have s:Xt b=([],2):=by unfold Xt;rw[ze (by simpa using k),zd p]
   rw[s];simp only at U W;simp[U,W,Tryz.f4];exact⟨_,rfl,z8 _⟩
def RtE(b:Bk)(id:Nat)(cur:za)(n:Nat)(st:St):Prop:=∃k,k+n=b.zU.length/\(∀y∈b.zU.take k,(Zc y.cond).2=0)/\G5 b id (cur++(b.zU.take k).flatMap bC) st/\st.σ 78=.sl 13 (b.zU.map Xp.V)/\st.σ 79=int b.zU.length/\st.σ 80=int k
theorem Pj{c:qO}(h:c.check=0)(a:(Zc c).2≠0):(Zc c).2=2:=by
 unfold Zc at a⊢;rw[zd h]at a⊢;split at a
 ·rw[zd (by assumption)]
 ·exact absurd rfl a
theorem UQ(x:Xp):bC x≠[]:=by simp[bC,sg,Vf]
set_option maxHeartbeats 8000000 in
theorem rtE(b:Bk)(N:b.cb<=zA)(G:yg b=0){id:Nat}{σ:Nat->O}{Y:Hp}{Z:Nat}{cur:za}{K:Exit->St->Prop}(H:G5 b id cur ⟨σ,Y,Z⟩)(f:σ 78=.sl 13 (b.zU.map Xp.V))(c:σ 79=int b.zU.length)(g:σ 80=int 0)(I:cur.length+(b.zU.flatMap bC).length<=140737488355328)
  (A:mo b.zU=false->∀h,G5 b id (cur++b.zU.flatMap bC) h->K .normal h) (r:mo b.zU=true->∀h,h.σ 2=str []->h.σ 3=int 2->K .ret h) :
  Wp False Ph rtxN ((K4 6 mZ).getD .skip) ⟨σ,Y,Z⟩ K:=by
 have B:=fE;have J:zA=268435456:=rfl;have s:=(VQ G).2.2;have P:=MB G;refine Wp.block (Wp.loop (RtE b id cur) b.zU.length ⟨0,by simp,by simp,by simpa using H,f,c,g⟩ ?_);clear H f c g σ Y Z;rintro n ⟨σ,Y,Z⟩ ⟨k,Q,l,⟨p,t,m,hid,u⟩,f,c,g⟩;simp only at p t f c g m u;by_cases i:k<b.zU.length
 case neg=>
  obtain rfl:k=b.zU.length:=by omega
  refine Wp.of B ?_;rw[qf]at u l;have C:mo b.zU=false:=by unfold mo;rw[List.any_eq_false];intro y hy;simp[l y hy]
  simp[c,g];exact A C _ ⟨by simp[p],by simp[t],m,hid,u⟩
 obtain⟨x,q⟩:=wZ (b.zU[k]);have o:x∈b.zU:=by rw[<-q];exact zi i
 have v:=s x o;have D:x.cb<=zA:=by have p:x.cb<=yn Xp.cb b.zU:=yD o;unfold Bk.cb at N;omega
 have w:=Qh bC b.zU i;rw[q]at w;have a:=fun Y Z=>Ud x Y Z ⟨v,D⟩
 have R:=qe k;by_cases d:(Zc x.cond).2=0
 case neg=>
  have E:Uc x=.w5 [str [],int 2]:=by unfold Uc;rw[ze d,Pj v.cond d]
  rw[E]at a;simp only[qK]at a;have C:mo b.zU=true:=by unfold mo;rw[Yo];exact⟨x,o,by simpa using d⟩
  refine Wp.of B ?_;simp[p,t,f,c,g,i,q,qK,a];exact r C _ (by simp) (by simp)
 have E:Uc x=.w5 [str (bC x),int 0]:=by unfold Uc;rw[zd d]
 rw[E]at a;simp only[qK]at a;have F:=u.keep (Y':=qq Y Z (some ⟨57,13,false,[x.V]⟩)) (Z':=Z+1) (by omega) (fun j U=>by rw[zD _ _ _ _ (by omega)]);obtain⟨hp3,L,M,S⟩:=F.put (rest:=[str (bC x)]) (az:=[str (bC x)]) (Y1:=qq Y Z (some ⟨57,13,false,[x.V]⟩)) (by simp) rfl (cH (bC x) (UQ x)) (UQ x) (by rw[zm];omega);have T:=S 0 _ (by omega) (fun e=>hid e.symm) (by rw[zD _ _ _ _ (by have:=u.1;omega)];exact m) (by show 27≠UB;decide);have z:=vJ bC b.zU i cur;rw[q]at z;rw[<-z]at M;simp only[qK]at L;refine Wp.of B ?_;simp[p,t,f,c,g,i,q,qK,a,L,R];refine⟨n-1,by omega,k+1,by omega,fun y hy=>?_,⟨by simp[p],by simp[t],T,hid,M⟩,by simp[f],by simp[c],by simp⟩;rw[zQ i,qi]at hy;rcases hy with hy|hy
 ·exact l y hy
 ·rw[wG]at hy;rw[hy,q];exact d
set_option maxHeartbeats 8000000 in
theorem Gl:yY False prog 5 (hP (FBk fun b=>.w5 [str (Xt b).1,int (Xt b).2])):=
 YU (C:=Ph) (fn:=Tryz.f5) (code:=_) func5 (by kernel_rfl) rfl false [] _ fun args r h=>by
  obtain⟨b,rfl,q,rfl⟩:=zO h;clear h;refine⟨by simp[Tryz.f5],?_⟩;have i:=fE;have N:zA=268435456:=rfl;have v:=fun Y Z=>pD (fun b=>int (yg b)) b Y Z q
  refine Wp.cut i (fun σ Y Z=>σ 1=.ref 0 0 0/\Y 0=some ⟨27,3,false,[b.V]⟩/\Z=1) (by simp[Bk.V]) ?_;rintro σ Y _ ⟨d,a,rfl⟩;have c:=a;simp only[Bk.V]at v c;by_cases f:yg b=0
  case neg=>
   have w:=vX f;have p:Xt b=([],yg b):=by unfold Xt;rw[zd f]
   refine Wp.seq (Wp.of i ?_);simp[d,c,v,w];rw[p];exact⟨_,rfl,z8 _⟩
  refine Wp.cut i (fun σ Y Z=>σ 1=.ref 0 0 0/\Y 0=some ⟨27,3,false,[b.V]⟩/\Z=1) (by simp[d,c,v,f,Bk.V]) ?_;clear d a c σ Y;rintro σ Y _ ⟨d,a,rfl⟩;refine Wp.cut i (fun σ Y Z=>∃id,G5 b id [] ⟨σ,Y,Z⟩) (by simp[d,a,G5];exact⟨by omega,.inl ⟨rfl,by simp[W7]⟩⟩) ?_;clear d a σ Y;rintro σ Y Z ⟨id,g⟩;have hid:id≠0:=g.2.2.2.1;have S:=Md f q;have T:(uL b).length=(b.zf.flatMap QC).length+((b.holds.flatMap Yg).length+(b.zU.flatMap bC).length):=by unfold uL;rw[zm,zm]
  refine Wp.seq (Wp.mono (K:=fun e m=>e=.normal/\G5 b id ([]++b.zf.flatMap QC) m) ?_ ?_)
  ·obtain⟨d,j,a,_,k⟩:=g;have c:=a;simp only[Bk.V]at d j c k;refine Wp.cut i (fun σ' Y' Z'=>σ' 1=.ref 0 0 0/\σ' 5=.ref id 0 0/\σ' 22=.sl 3 (b.zf.map w9.V)/\σ' 23=int b.zf.length/\σ' 24=int 0/\Y=Y'/\Z=Z') (by simp[d,j,c]) ?_;rintro σ' _ _ ⟨s,t,x,y,z,rfl,rfl⟩;exact rtL b q f ⟨s,t,a,hid,k⟩ x y z (by show 0+_<=_;omega)
  clear g σ Y Z;rintro e ⟨σ,Y,Z⟩ ⟨rfl,g⟩;simp only[kM];refine Wp.seq (Wp.mono (K:=fun e m=>e=.normal/\G5 b id ([]++b.zf.flatMap QC++b.holds.flatMap Yg) m) ?_ ?_)
  ·obtain⟨d,j,a,_,k⟩:=g;have c:=a;simp only[Bk.V]at d j c k;refine Wp.cut i (fun σ' Y' Z'=>σ' 1=.ref 0 0 0/\σ' 5=.ref id 0 0/\σ' 44=.sl 4 (b.holds.map vi.V)/\σ' 45=int b.holds.length/\σ' 46=int 0/\Y=Y'/\Z=Z') (by simp[d,j,c]) ?_;rintro σ' _ _ ⟨s,t,A,B,D,rfl,rfl⟩;exact rtH b q f ⟨s,t,a,hid,k⟩ A B D (by rw[w7];omega)
  clear g σ Y Z;rintro e ⟨σ,Y,Z⟩ ⟨rfl,g⟩;simp only[kM];rw[w7]at g;obtain⟨d,j,a,_,k⟩:=g;have c:=a;simp only[Bk.V]at d j c k;refine Wp.seq ?_;refine Wp.cut i (fun σ' Y' Z'=>σ' 1=.ref 0 0 0/\σ' 5=.ref id 0 0/\σ' 78=.sl 13 (b.zU.map Xp.V)/\σ' 79=int b.zU.length/\σ' 80=int 0/\Y=Y'/\Z=Z') (by simp[d,j,c]) ?_;rintro σ' _ _ ⟨s,t,E,F,G,rfl,rfl⟩;refine rtE b q f (σ:=σ') ⟨s,t,a,hid,k⟩ E F G (by rw[zm];omega) ?_ ?_
  ·rintro n ⟨H,Y2,I⟩ ⟨U,J,L,_,u⟩;simp only at U J L u;rw[qG,show b.zf.flatMap QC++(b.holds.flatMap Yg++b.zU.flatMap bC)=uL b from rfl]at u;simp only[kM];have l:=Mm u;obtain⟨hp3,M⟩:=Mn u;have p:Xt b=if 500000<(uL b).length then([],2)else(uL b,0):=by unfold Xt;rw[ze (by simpa using f),ze (by rw[n];decide)]
   refine Wp.of i ?_;by_cases P:500000<(uL b).length
   ·have o:(500000:Int)<(uL b).length:=by omega
    rw[p,zd P];simp[J,l,o,Tryz.f5];exact⟨_,rfl,z8 _⟩
   ·have o:¬(500000:Int)<(uL b).length:=by omega
    rw[p,ze P];simp[J,l,o,M,Tryz.f5];exact⟨_,rfl,z8 _⟩
  ·rintro n ⟨H,Y2,I⟩ Q R;have p:Xt b=([],2):=by unfold Xt;rw[ze (by simpa using f),zd n]
   rw[p];simp only at Q R;simp[Q,R,Tryz.f5];exact⟨_,rfl,z8 _⟩
noncomputable def txO (b:Bk):O:=.w5 [str (Xt b).1,int (Xt b).2]
noncomputable abbrev Clb:Ctx:=zV prog [(4,hP (FBk txO)),(5,hP (FBk txO)),(6,hP (FLB fun l b=>int (bK l b))),(7,hP (FLB2 fun l b=>int (bK l b)))]
theorem zfC:AM.kB False Clb (fun g=>[6,7].contains g):=qC mixed ⟨Ll,by simp,Gl,by simp,GW.lax,fun _=>zu _ _,C7.lax,fun _=>zu _ _,trivial⟩
theorem UR:Vx Clb (fun g=>[6,7].contains g) 3 Tryz.f3:=qX func3
theorem zcK(l:List qU)(b:Bk)(g:2*bH l<=zA)(a:b.cb<=zA):zv Clb Tryz.f3 [.sl 10 (l.map qU.V),.agg b.V]=some (wb true):=by
 have d:zA=268435456:=rfl;refine zn rfl ?_;have c:=fun Y Z=>pD txO b Y Z a
 have e:=fun Y Z=>UF (fun l b=>int (bK l b)) l b Y Z (by omega) a
 have f:=fun Y Z=>Pg (fun l b=>int (bK l b)) l b Y Z g a rfl
 simp only[Bk.V]at c e f;simp only[txO]at c;simp[Bk.V,c,e,f,txO,Tryz.f3]
end Go.Q
