/- Lemmas. -/
import Derived.Test.YtmngbpkapamhoaaGreatDoorG9
set_option maxRecDepth 100000
set_option maxHeartbeats 4000000
open Go Proofs Proofs.YtmngbpkapamhoaaGreatDoor Proofs.Tryz RowKit AM SpanLaw Q Zz
namespace Go.Q
def cZ(x:Xp):Blk:=⟨57,13,false,[x.V]⟩
def N7(n:Int):Blk:=⟨3,1,false,[[int n]]⟩
def eW(x:Xp)(rest:Int)(y:Xp):Bool:=decide (y.wH=x.wH)&&Ks x y rest
noncomputable abbrev Ccl1:Ctx:=zV prog [(74,hP Iu)]
theorem zbz:AM.Good Ccl1 (fun g=>[74].contains g):=qC mixed ⟨ET,fun _=>zu _ _,trivial⟩
theorem Ix:zg prog 73 (wD Ccl1 f73):=kL zbz func73
theorem Tj(x y:Xp)(rest:Int)(i:x.tt)(j:y.tt)(g:0<=rest/\rest<=100000000)(Y:Hp)(Z b c:Nat)(k:b<Z)(l:c<Z)(bx:Y b=some (cZ x))(e:Y c=some (N7 rest)) :
  wD Ccl1 f73 [.agg y.V,.ref b 0 0,.ref c 0 0] Y Z=some (wb (eW x rest y),qq Y Z (some (cZ y)),Z+1):=by
 unfold wD;rw[zd (by simp[f73])];refine jf rfl ?_;have n1:¬b=Z:=by omega
 have h:¬c=Z:=by omega
 have a:=fun Y Z=>EP x y rest Y Z ⟨i,j,g.1,g.2⟩
 rw[cZ,qK]at bx;rw[N7]at e;simp only[qK]at a;by_cases d:y.wH=x.wH
 ·have hd:(y.wH==x.wH)=true:=by simpa using d
  have f:eW x rest y=Ks x y rest:=by simp[eW,d]
  simp[qK,cZ,n1,h,bx,e,hd,a,f,f73]
 ·have hd:=jN d;have f:eW x rest y=false:=by simp[eW,d]
  simp[qK,cZ,n1,h,bx,e,hd,f,f73]
def hZ(x:Xp)(rest:Int):Nat->List Xp->Int
 |_,[]=>-1
 |k,y::l=>if eW x rest y=true then k else hZ x rest (k+1) l
theorem EW(x:Xp)(rest:Int):∀(l:List Xp) (k:Nat),decide (0<=hZ x rest k l)=l.any (eW x rest)
 |[],k=>by simp[hZ]
 |s::l,k=>by
  by_cases h:eW x rest s=true
  ·have e:hZ x rest k (s::l)=k:=by simp only[hZ,zd h]
   rw[e,wX,h];simp
  ·have e:hZ x rest k (s::l)=hZ x rest (k+1) l:=by simp only[hZ,ze h]
   rw[e,EW x rest l (k+1),wX,MG.2 h];rfl
noncomputable abbrev Cxix:Ctx:=zV prog [(73,wD Ccl1 f73)]
theorem zbA:Gd Cxix:=zW mixed ⟨Ix,trivial⟩
theorem N8:zg prog 121 (wD Cxix f121):=kL zbA func121
def nL(a b:Nat):O:=.fn (.func 73) [] [.ref a 0 0,.ref b 0 0]
def uJ(r:O)(Y:Hp)(Z:Nat)(x:O)(Y':Hp)(Z':Nat):Prop:=x=r/\Z<=Z'/\∀j,j<Z->Y' j=Y j
theorem zbB(l:List Xp)(x:Xp)(rest:Int)(w:l.length<=zA)(hs:∀s∈l,s.tt)(y:x.tt)(z:0<=rest/\rest<=100000000)(g:Hp)(Z0 e f:Nat)(i:e<Z0)(m:f<Z0)(bx:g e=some (cZ x))(A:g f=some (N7 rest)) :
  ∃u Y' Z',wD Cxix f121 [.sl 13 (l.map Xp.V),nL e f] g Z0=some (u,Y',Z')/\uJ (int (hZ x rest 0 l)) g Z0 u Y' Z':=by
 unfold wD;rw[zd (by simp[f121])];refine qF rfl ?_;unfold zA at w;simp[nL];refine zL (fun k σ Y Z=>σ 0=.sl 13 (l.map Xp.V)/\σ 1=nL e f/\σ 7=int l.length/\σ 8=int k/\Z0<=Z/\(∀j,j<Z0->Y j=g j)/\hZ x rest 0 l=hZ x rest k (l.drop k)) l.length ⟨by simp,by simp[nL],by simp,by simp,zl _,fun _ _=>rfl,by simp⟩ ?_;rintro k σ Y Z B ⟨n,o,p,q,r,b,d⟩;by_cases c:k<l.length
 ·have v:=qe k;have a:=Tj x l[k] rest y (hs _ (zi c)) z Y Z e f (by omega) (by omega) (by rw[b e i];exact bx) (by rw[b f m];exact A);simp only[qK]at a;rw[zc c]at d;simp only[hZ]at d;cases h:eW x rest l[k]
  ·rw[h,ze (by simp)]at d;rw[h]at a;simp[n,o,p,q,nL,c,qK,a,v];exact⟨c,by omega,fun j t=>by rw[zz _ _ _ _ (by omega)];exact b j t,d⟩
  ·rw[h,zd rfl]at d;rw[h]at a;simp[n,o,p,q,nL,c,qK,a,v,f121];exact⟨by rw[d],by omega,fun j t=>by rw[zz _ _ _ _ (by omega)];exact b j t⟩
 ·obtain rfl:k=l.length:=by omega
  rw[zp]at d;simp only[hZ]at d;simp[n,o,p,q,f121];exact⟨by rw[d],r,b⟩
noncomputable abbrev Cxtn:Ctx:=zV prog [(121,wD Cxix f121)]
theorem zbC:Gd Cxtn:=zW mixed ⟨N8,trivial⟩
theorem N9:zg prog 72 (wD Cxtn f72):=kL zbC func72
theorem zbD(l:List Xp)(x:Xp)(rest:Int)(h:l.length<=zA)(hs:∀s∈l,s.tt)(i:x.tt)(j:0<=rest/\rest<=100000000)(a:Hp)(Z0 b c:Nat)(d:b<Z0)(e:c<Z0)(bx:a b=some (cZ x))(k:a c=some (N7 rest)) :
  ∃f Y' Z',wD Cxtn f72 [.sl 13 (l.map Xp.V),nL b c] a Z0=some (f,Y',Z')/\uJ (wb (l.any (eW x rest))) a Z0 f Y' Z':=by
 unfold wD;rw[zd (by simp[f72])];refine qF rfl ?_;obtain⟨f,Y',Z',g,m,n,o⟩:=zbB l x rest h hs i j a Z0 b c d e bx k;subst m;have p:=EW x rest l 0;simp only[nL]at g;simp[nL,g,p,uJ,n,f72];exact o
theorem slX(Y:Hp)(l:List Xp)(k:Nat)(h:k<=l.length):jO prog Y 25 (.sl 13 (l.map Xp.V)) none (some (some (int k)))=some (.sl 13 ((l.take k).map Xp.V)):=by simp[jO,h]
noncomputable def WB (L:List w9) (s:za):Int:=match L[(ZF (L.map w9.name) s).1]? with
 |some y=>y.rest
 |none=>0
noncomputable def Wd (L:List w9) (a:List Xp):Nat->List Xp->Bool
 |_,[]=>false
 |i,x::l=>(a.take i).any (eW x (WB L x.wH))||Wd L a (i+1) l
noncomputable abbrev Tk:Ctx:=zV prog [(68,hP N4),(72,wD Cxtn f72)]
theorem zbE:AM.Good Tk (fun g=>[68].contains g):=qC mixed ⟨ba,fun _=>zu _ _,N9,by simp,trivial⟩
theorem cd:zg prog 36 (wD Tk f36):=kL zbE func36
theorem lx(b:Bk)(T:b.cb<=zA)(hs:∀x∈b.zU,x.tt/\(ZF (b.zf.map w9.name) x.wH).2=true)(U:∀y∈b.zf,0<=y.rest/\y.rest<=100000000)(r:Bool)(t:Hp)(Z0 id m g:Nat)(hid:id<Z0)(u:t id=some (Qs b m g r)) :
  ∃G Y' Z',wD Tk f36 [.ref id 0 0] t Z0=some (G,Y',Z')/\uJ (wb (Wd b.zf b.zU 0 b.zU)) t Z0 G Y' Z':=by
 unfold wD;rw[zd (by simp[f36])];refine qF rfl ?_;have N:=qZ X5 b.zU;have P:=qZ vR b.zf;have W:b.cb=yn w9.cb b.zf+yn vi.cb b.holds+yn Xp.cb b.zU:=rfl;unfold zA at T;have Q:=u;rw[vd]at Q;simp[Q];refine zL (fun k σ Y Z=>σ 0=.ref id 0 0/\σ 12=.sl 13 (b.zU.map Xp.V)/\σ 13=int b.zU.length/\σ 14=int k/\Z0<=Z/\(∀j,j<Z0->Y j=t j)/\Wd b.zf b.zU 0 b.zU=Wd b.zf b.zU k (b.zU.drop k)) b.zU.length
  ⟨by simp,by simp,by simp,by simp,zl _,fun _ _=>rfl,by simp⟩ ?_
 rintro k σ Y Z hk ⟨H,h,i,l,I,n,a⟩;by_cases c:k<b.zU.length
 ·obtain⟨x,C⟩:=wZ (b.zU[k]);have v:x∈b.zU:=by rw[<-C];exact zi c
  obtain⟨J,K⟩:=hs x v;have X:=yD (f:=Xp.cb) v;have hxc:x.cb=x.name.length+x.wH.length+x.flag.length+x.cond.cb+x.qp.length+x.yF.length+yn yz.cb x.zF:=rfl;rw[zc c,C]at a;simp only[Wd]at a;have R:=qe k;have w:=fun Y Z=>a8 b.zf x.wH Y Z (by unfold zA;omega)
  obtain⟨q,D⟩:=wZ ((ZF (b.zf.map w9.name) x.wH).1);have d:q<b.zf.length:=by have:=Tc K;rw[D]at this;simpa using this
  obtain⟨y,E⟩:=wZ (b.zf[q]);have L:=U y (by rw[<-E];exact zi d);have o:WB b.zf x.wH=y.rest:=by unfold WB;rw[D,zq d,E]
  rw[o]at a;have S:¬id=Z:=by omega
  have z:¬id=Z+1:=by omega
  have p:Y id=some (Qs b m g r):=by rw[n id hid];exact u
  rw[vd]at p;obtain⟨G,Y',Z',A,h2,h3,h4⟩:=zbD (b.zU.take k) x y.rest (by unfold zA;simp;omega) (fun s M=>(hs s (vu M)).1) J L (qq (qq Y Z (some (cZ x))) (Z+1) (some (N7 y.rest))) (Z+1+1) Z (Z+1) (by omega) (by omega) (by rw[zz _ _ _ _ (by omega)];simp) (by simp);subst h2;simp only[nL,cZ,N7,qK,List.map_take]at A;have e:∀j,j<Z0->Y' j=t j:=fun j hj=>by rw[h4 j (by omega),zz _ _ _ _ (by omega),zz _ _ _ _ (by omega)];exact n j hj
  have B:=fun Y=>slX Y b.zU k (by omega)
  cases F:(b.zU.take k).any (eW x y.rest)
  ·rw[F,yN]at a;rw[F]at A;simp[H,h,i,l,c,C,qK,S,z,p,w,D,d,E,w9.V,B,A,R];exact⟨by omega,by omega,e,a⟩
  ·rw[F,V3]at a;rw[F]at A;simp[H,h,i,l,c,C,qK,S,z,p,w,D,d,E,w9.V,B,A,R,f36,uJ,a];exact⟨by omega,e⟩
 ·obtain rfl:k=b.zU.length:=by omega
  rw[zp]at a;simp only[Wd]at a;simp[H,h,i,l,f36,uJ,a];exact⟨I,n⟩
noncomputable def ZR (L:List w9):za->List za->List Xp->Int×List za
 |_,l,[]=>(0,l)
 |before,l,x::xs=>if(ZU L before l x).1=0 then ZR L x.name (ZU L before l x).2 xs else ZU L before l x
noncomputable def yg (b:Bk):Int:=
 if(20:Int)<b.zf.length\/(10:Int)<b.holds.length\/(100:Int)<b.zU.length then 2
 else if(wz [] [] b.zf).1=0 then
  (if(yq b.zf [] (wz [] [] b.zf).2 b.holds).1=0 then
   (if(ZR b.zf [] (yq b.zf [] (wz [] [] b.zf).2 b.holds).2 b.zU).1=0 then(if Wd b.zf b.zU 0 b.zU=true then 13 else 0)
    else(ZR b.zf [] (yq b.zf [] (wz [] [] b.zf).2 b.holds).2 b.zU).1)
   else(yq b.zf [] (wz [] [] b.zf).2 b.holds).1)
 else(wz [] [] b.zf).1
theorem mT(n lo hi:Int):jG n lo hi=true↔lo<=n/\n<=hi:=by simp[jG]
theorem WC:∀{xs:List w9} {a:za} {l:List za},(wz a l xs).1=0->∀y∈xs,0<=y.rest/\y.rest<=100000000
 |[],_,_,_,y,b=>by simp at b
 |x::xs,a,l,h,y,b=>by
  simp only[wz]at h;split at h
  ·split at h
   ·split at h
    ·rename_i d;rcases zw.1 b with rfl|b
     ·exact(mT _ _ _).1 d
     ·exact WC h y b
    ·exact absurd h (by simp)
   ·rename_i c;exact absurd h c
  ·rename_i c;exact absurd h c
theorem Tl:∀{xs:List yz} {p:Option Int} {b:List Sp},Da p b xs=0->VO xs
 |[],_,_,_,y,a=>by simp at a
 |x::xs,p,b,h,y,a=>by
  simp only[Da]at h;split at h
  ·rename_i d;split at h
   ·exact absurd h (by simp)
   ·split at h
    ·split at h
     ·exact absurd h (by simp)
     ·rcases zw.1 a with rfl|a
      ·exact(mT _ _ _).1 d
      ·exact Tl h y a
    ·rename_i c;exact absurd h c
  ·exact absurd h (by simp)
theorem WD{l:List yz}(h:yU l=0):VO l:=by
 unfold yU at h;split at h
 ·exact absurd h (by simp)
 ·exact Tl h
theorem L9{L:List w9}{a:za}{l:List za}{x:Xp}(h:(ZU L a l x).1=0):yU x.zF=0/\(ZF (L.map w9.name) x.wH).2=true/\jn x.yF 20=0/\x.cond.check=0/\jS x.name a=0:=by
 unfold ZU at h;split at h
 ·rename_i b;split at h
  ·rename_i d;split at h
   ·split at h
    ·rename_i e;split at h
     ·split at h
      ·rename_i f;exact⟨h,d,f,e,b⟩
      ·rename_i c;exact absurd h c
     ·rename_i c;exact absurd h c
    ·rename_i c;exact absurd h c
   ·exact absurd h (by simp)
  ·exact absurd h (by simp)
 ·rename_i c;exact absurd h c
theorem eX{L:List w9}:∀{xs:List Xp} {a:za} {l:List za},(ZR L a l xs).1=0->∀y∈xs,yU y.zF=0/\(ZF (L.map w9.name) y.wH).2=true
 |[],_,_,_,y,b=>by simp at b
 |x::xs,a,l,h,y,b=>by
  simp only[ZR]at h;split at h
  ·rename_i c;rcases zw.1 b with rfl|b
   ·exact⟨(L9 c).1,(L9 c).2.1⟩
   ·exact eX h y b
  ·rename_i c;exact absurd h c
noncomputable abbrev Cchk:Ctx:=zV prog [(33,wD Th f33),(34,wD Ti f34),(35,wD Cexp f35),(36,wD Tk f36)]
theorem zbF:Gd Cchk:=zW mixed ⟨eV,lv,hV,cd,trivial⟩
theorem sI:zg prog 20 (wD Cchk f20):=kL zbF func20
theorem Oa(b:Bk)(hb:b.cb<=zA)(N:Hp)(Z0 id m g:Nat)(hid:id<Z0)(T:m<Z0)(d:id≠m)(u:N id=some (Qs b m g true))(U:N m=some (xk [])) :
  ∃W Y' Z',wD Cchk f20 [.ref id 0 0] N Z0=some (W,Y',Z')/\W=int (yg b):=by
 unfold wD;rw[zd (by simp[f20])];refine qF rfl ?_;have hlen:=qZ X5 b.zU;have hleL:=qZ vR b.zf;have hleH:=qZ Q1 b.holds;have hbc:b.cb=yn w9.cb b.zf+yn vi.cb b.holds+yn Xp.cb b.zU:=rfl;have l:=hb;unfold zA at hb;obtain⟨W,Y1,X,G,rfl,l3,l4,l5⟩:=pB b [] l true N Z0 id m g hid T d u U;have v:Y1 id=some (Qs b m g true):=by rw[l5 id hid d];exact u
 obtain⟨H,w⟩:∃e,wz [] [] b.zf=e:=⟨_,rfl⟩;rw[w]at G l4;obtain⟨x2,Y2,PL,P,rfl,g3,g4,g5⟩:=uI b H.2 l true Y1 X id m g (by omega) (by omega) d v l4;have y:Y2 id=some (Qs b m g true):=by rw[g5 id (by omega) d];exact v
 obtain⟨D,I⟩:∃e,yq b.zf [] H.2 b.holds=e:=⟨_,rfl⟩;rw[I]at P g4;obtain⟨e3,z⟩:∃e,ZR b.zf [] D.2 b.zU=e:=⟨_,rfl⟩;have s:=u;rw[vd]at s;have i:=y;rw[vd]at i;by_cases A:(20:Int)<b.zf.length
 ·have h:yg b=2:=by unfold yg;rw[zd (.inl A)]
  simp[s,A,h,f20]
 by_cases E:(10:Int)<b.holds.length
 ·have h:yg b=2:=by unfold yg;rw[zd (.inr (.inl E))]
  simp[s,A,E,h,f20]
 by_cases J:(100:Int)<b.zU.length
 ·have h:yg b=2:=by unfold yg;rw[zd (.inr (.inr J))]
  simp[s,A,E,J,h,f20]
 have c:yg b=if H.1=0 then(if D.1=0 then(if e3.1=0 then(if Wd b.zf b.zU 0 b.zU=true then 13 else 0)else e3.1)else D.1)else H.1:=by unfold yg;rw[ze (by omega),w,I,z]
 by_cases F:H.1=0
 case neg=>rw[ze F]at c;have Pw:=vX F;simp[s,A,E,J,G,Pw,c,f20]
 rw[zd F]at c;by_cases Q:D.1=0
 case neg=>rw[ze Q]at c;have c2':=vX Q;simp[s,A,E,J,G,F,P,c2',c,f20]
 rw[zd Q]at c;simp[s,A,E,J,G,F,P,Q,i];refine zL (fun k σ Y Z=>σ 0=.ref id 0 0/\σ 48=.sl 13 (b.zU.map Xp.V)/\σ 49=int b.zU.length/\σ 50=int k/\Z0<=Z/\Y id=some (Qs b m g true)/\∃(a:za) (l':List za),σ 5=str a/\Y m=some (xk l')/\e3=ZR b.zf a l' (b.zU.drop k)) b.zU.length
  ⟨by simp,by simp,by simp,by simp,by simp;omega,y,[],D.2,by simp,g4,by simp[z]⟩ ?_
 clear G l3 l4 l5 v P g3 g4 g5 y i s;rintro k σ Y Z hk ⟨R,n,o,p,hnx,B,a,l',h5,hm,j⟩;by_cases q:k<b.zU.length
 ·obtain⟨x,S⟩:=wZ (b.zU[k]);have hmx:=yD (f:=Xp.cb) (zi q);rw[S]at hmx;have nm:¬m=Z:=by omega
  have ni:¬id=Z:=by omega
  have hw:=qe k;rw[zc q,S]at j;simp only[ZR]at j;obtain⟨x3,hp3,nx3,t,rfl,q3,q4,q5⟩:=pC b l' a x l (by unfold zA;omega) (qq Y Z (some (cZ x))) (Z+1) id m g (by omega) (by omega) d (by rw[zz _ _ _ _ ni];exact B) (by rw[zz _ _ _ _ nm];exact hm);have hc3:hp3 id=some (Qs b m g true):=by rw[q5 id (by omega) d,zz _ _ _ _ ni];exact B
  have K:hp3 Z=some (cZ x):=by rw[q5 Z (by omega) (by omega)];simp
  simp only[cZ,qK]at t K;by_cases L:(ZU b.zf a l' x).1=0
  case neg=>
   rw[ze L]at j;have h:yg b=(ZU b.zf a l' x).1:=by rw[c,j,ze L]
   have d1':=vX L;simp[R,h5,n,o,p,q,S,qK,t,d1',h,f20]
  ·rw[zd L]at j;simp[R,h5,n,o,p,q,S,qK,t,L,K,hw];exact⟨by omega,by omega,hc3,_,q4,j⟩
 ·obtain rfl:k=b.zU.length:=by omega
  rw[zp]at j;simp only[ZR]at j;have hz:(ZR b.zf [] D.2 b.zU).1=0:=by rw[z,j]
  have hyr:=WC (by rw[w];exact F);have M:=eX hz;obtain⟨x3,hp3,nx3,t,rfl,q3,q4⟩:=lx b l (fun x C=>⟨⟨WD (M x C).1,by have:=yD (f:=Xp.cb) C;unfold zA;omega⟩,(M x C).2⟩) hyr true Y Z id m g (by omega) B;have h:yg b=if Wd b.zf b.zU 0 b.zU=true then 13 else 0:=by rw[c,j,zd rfl]
  cases r:Wd b.zf b.zU 0 b.zU
  ·rw[r,ze (by simp)]at h;rw[r]at t;simp[R,n,o,p,t,h,f20]
  ·rw[r,zd rfl]at h;rw[r]at t;simp[R,n,o,p,t,h,f20]
theorem Xl:zg prog 19 (wD C0 f19):=kL je func19
theorem sJ(b:Bk)(f:Hp)(Z0:Nat):∃e Y' Z',wD C0 f19 [.nil,.agg b.V] f Z0=some (e,Y',Z')/\e=.ref (Z0+1+1+1) 0 0/\Z'=Z0+1+1+1+1/\Y' (Z0+1)=some (xk [])/\Y' (Z0+1+1+1)=some (Qs b (Z0+1) (Z0+1+1) false):=by
 unfold wD;rw[zd (by simp[f19])];refine qF rfl ?_;simp[Bk.V,qv,qS];refine zL (fun k σ Y Z=>σ 14=int 0/\σ 15=int k/\σ 5=.ref (Z0+1+1+1) 0 0/\Z=Z0+1+1+1+1/\Y (Z0+1)=some (xk [])/\Y (Z0+1+1+1)=some (Qs b (Z0+1) (Z0+1+1) false)) 0
  ⟨by simp,by simp,by simp,by simp,by simp[xk,pA],by simp[vd]⟩ ?_
 rintro k σ Y Z j ⟨a,c,g,d,h,i⟩;obtain rfl:k=0:=by omega
 simp[a,c,g,d,f19];exact⟨h,i⟩
noncomputable def FBk (out:Bk->O):zb->Option O:=qd (α:=Bk) (fun b=>[.agg b.V]) (fun b=>b.cb<=zA) out
theorem pD(out:Bk->O)(b:Bk)(Y:Hp)(Z:Nat)(h:b.cb<=zA):hP (FBk out) [.agg b.V] Y Z=some (out b,Y,Z):=
 QL b _ _ (by simp[Bk.V]) (fun a b e=>by simp only[zj,zG,O.agg.injEq]at e;exact Kr e) h (.inr (by simp[Bk.V]))
noncomputable abbrev Cxcb:Ctx:=zV prog [(19,wD C0 f19),(20,wD Cchk f20)]
theorem zbG:Gd Cxcb:=zW mixed ⟨Xl,sI,trivial⟩
theorem Tm(b:Bk)(h:b.cb<=zA):zv Cxcb Tryz.f8 [.agg b.V]=some (int (yg b)):=by refine zn rfl ?_;obtain⟨i,Y1,e,a,rfl,rfl,f,c⟩:=sJ b (qq (fun _=>none) 0 (some ⟨27,3,false,[b.V]⟩)) 1;obtain⟨j,Y2,g,d,rfl⟩:=Oa b h (qq Y1 4 (some (Qs b 2 3 true))) 5 4 2 3 (by omega) (by omega) (by omega) (by simp) (by rw[zz _ _ _ _ (by omega)];exact f);simp only[Bk.V]at a;rw[vd]at c d;simp[Bk.V,a,c,d,wK,Tryz.f8]
theorem Px:zg prog 8 (hP (FBk fun b=>int (yg b))):=
 vM zbG func8 false [] fun b a=>⟨by simp[Tryz.f8],_,Tm b a,z8 _⟩
end Go.Q
namespace Go.AM
end Go.AM
namespace Go.Q
theorem K0(Y:Hp)(b:Bk):qt Y (.agg b.V)=some (.agg b.V,Y):=by simp[Bk.V]
theorem pE(b:Bk):O.noOwn (.agg b.V)=true:=by simp[Bk.V]
theorem uK:∀{xs:List yz} {p:Option Int} {b:List Sp},Da p b xs=0->∀y∈xs,jc y.qJ=0
 |[],_,_,_,y,a=>by simp at a
 |x::xs,p,b,h,y,a=>by
  simp only[Da]at h;split at h
  ·split at h
   ·exact absurd h (by simp)
   ·split at h
    ·rename_i c;split at h
     ·exact absurd h (by simp)
     ·rcases zw.1 a with rfl|a
      ·exact c
      ·exact uK h y a
    ·rename_i c;exact absurd h c
  ·exact absurd h (by simp)
theorem Kt{l:List yz}(h:yU l=0):∀y∈l,jc y.qJ=0:=by
 unfold yU at h;split at h
 ·exact absurd h (by simp)
 ·exact uK h
def ia:za:=[108,97,121,101,114]
def X9:za:=[104,111,108,100]
def sK:za:=[101,120,112,101,114,105,109,101,110,116]
def jt(n:Int):za:=Lib.decDigits n.toNat
def QC(x:w9):za:=Vf [ia,x.name,x.qp,jt x.rest]
def YB(s:za):za:=Vf [32::32::s]
def Yg(x:vi):za:=Vf [X9,x.name,x.qp,jt x.buckets]++x.zf.flatMap YB
def aa(r:Rg):za:=jt r.2.1++58::jt r.2.2
def bB(s:Sp):za:=jt s.1++45::jt s.2
def ch(x:Xp):List za:=[32,32,97,114,109,115]::x.yF.map aa
def Iy(p:yz):List za:=[32,32,97,116]::jt p.at_::p.qJ.map bB
def ab(p:yz):za:=Vf (Iy p)
def sg(x:Xp):za:=Vf [sK,x.name,x.wH,x.flag,x.qp]
noncomputable def xpI (x:Xp):za:=Vf [[32,32,105,102],(Zc x.cond).1]
noncomputable def bC (x:Xp):za:=sg x++(xpI x++(Vf (ch x)++x.zF.flatMap ab))
noncomputable def uL (b:Bk):za:=b.zf.flatMap QC++(b.holds.flatMap Yg++b.zU.flatMap bC)
noncomputable def mo (l:List Xp):Bool:=l.any fun x=>decide ((Zc x.cond).2≠0)
noncomputable def Xt (b:Bk):za×Int:=
 if yg b≠0 then([],yg b)else if mo b.zU=true then([],2)else if 500000<(uL b).length then([],2)else(uL b,0)
structure Ve (x:Xp):Prop where
 cond:x.cond.check=0
 yF:∀r∈x.yF,0<=r.2.1/\r.2.1<=4000000000/\0<=r.2.2/\r.2.2<=4000000000
 phs:∀p∈x.zF,0<=p.at_/\p.at_<=4000000000
 spn:∀p∈x.zF,∀s∈p.qJ,0<=s.1/\s.1<=4000000000/\0<=s.2/\s.2<=4000000000
theorem uM{L:List w9}:∀{xs:List vi} {a:za} {l:List za},(yq L a l xs).1=0->∀y∈xs,0<=y.buckets/\y.buckets<=4000000000
 |[],_,_,_,y,b=>by simp at b
 |x::xs,a,l,h,y,b=>by
  simp only[yq]at h;split at h
  ·split at h
   ·split at h
    ·rename_i c;rcases zw.1 b with rfl|b
     ·unfold cc at c;split at c
      ·rename_i d;rw[mT]at d;omega
      ·exact absurd c (by simp)
     ·exact uM h y b
    ·rename_i c;exact absurd h c
   ·rename_i c;exact absurd h c
  ·rename_i c;exact absurd h c
theorem Ma:∀{xs:List yz} {p:Option Int} {b:List Sp},Da p b xs=0->∀y∈xs,0<=y.at_/\y.at_<=4000000000
 |[],_,_,_,y,a=>by simp at a
 |x::xs,p,b,h,y,a=>by
  simp only[Da]at h;split at h
  ·rename_i d;split at h
   ·exact absurd h (by simp)
   ·split at h
    ·rename_i c;split at h
     ·exact absurd h (by simp)
     ·rcases zw.1 a with rfl|a
      ·unfold X7 at d;rw[mT]at d;exact d
      ·exact Ma h y a
    ·rename_i c;exact absurd h c
  ·exact absurd h (by simp)
theorem uN:∀{l:List Sp} {lo:Int},ll lo l->Below 100000 l->∀s∈l,lo<s.1/\s.1<=100000/\lo<s.2/\s.2<=100000
 |[],_,_,_,s,hs=>by simp at hs
 |x::l,lo,h,a,s,hs=>by
  obtain⟨b,e,c⟩:=h;have f:=a x (by simp);rcases zw.1 hs with rfl|hs
  ·exact⟨b,by omega,by omega,by omega⟩
  ·have:=uN c (fun y d=>a y (by simp[d])) s hs;omega
theorem uO:∀{l:List Rg} {n lo hi:Int} {p:Option Int},L6 n lo hi p l->0<=lo->n<=100->hi<=100000->∀r∈l,0<=r.2.1/\r.2.1<=4000000000/\0<=r.2.2/\r.2.2<=4000000000
 |[],_,_,_,_,_,_,_,_,r,a=>by simp at a
 |x::l,n,lo,hi,p,h,e,b,c,r,a=>by
  obtain⟨f,g,i,j,k,m,d⟩:=h;rcases zw.1 a with rfl|a
  ·omega
  ·exact uO d (by omega) b c r a
theorem EX{L:List w9}:∀{xs:List Xp} {a:za} {l:List za},(ZR L a l xs).1=0->∀y∈xs,Ve y
 |[],_,_,_,y,e=>by simp at e
 |x::xs,a,l,h,y,e=>by
  simp only[ZR]at h;split at h
  ·rename_i c;rcases zw.1 e with rfl|e
   ·unfold ZU at c;split at c
    ·split at c
     ·split at c
      ·split at c
       ·rename_i g;split at c
        ·split at c
         ·rename_i i;have b:yU y.zF=0:=c;have f:Da none [] y.zF=0:=by
           unfold yU at b;split at b
           ·exact absurd b (by simp)
           ·exact b
          refine⟨g,?_,Ma f,fun p Y s hs=>?_⟩
          ·obtain⟨j,_,_⟩:=sG i;exact uO j (by omega) (by omega) (by omega)
          ·have:=Kt b p Y;obtain⟨k,m,n,_⟩:=Kq this;have:=uN k m s hs;omega
         ·rename_i d;exact absurd c d
        ·rename_i d;exact absurd c d
       ·rename_i d;exact absurd c d
      ·exact absurd c (by simp)
     ·exact absurd c (by simp)
    ·rename_i d;exact absurd c d
   ·exact EX h y e
  ·rename_i c;exact absurd h c
theorem VQ{b:Bk}(h:yg b=0):(∀y∈b.zf,0<=y.rest/\y.rest<=4000000000)/\(∀y∈b.holds,0<=y.buckets/\y.buckets<=4000000000)/\∀x∈b.zU,Ve x:=by
 unfold yg at h;split at h
 ·exact absurd h (by simp)
 split at h
 ·rename_i a;split at h
  ·rename_i d;split at h
   ·rename_i e;exact⟨fun y f=>by have:=WC a y f;omega,uM d,EX e⟩
   ·rename_i c;exact absurd h c
  ·rename_i c;exact absurd h c
 ·rename_i c;exact absurd h c
theorem Zz{n:Int}(h:0<=n/\n<=4000000000):(jt n).length<=10:=Go.PrLaw.fL 9 n.toNat (by omega)
theorem EY:∀l:List za,(Lib.join l [32]).length<=(l.map fun w=>w.length+1).sum
 |[]=>by simp[Lib.join]
 |[a]=>by simp[Lib.join]
 |a::b::l=>by
  have h:=EY (b::l);have e:Lib.join (a::b::l) [32]=a++(32::Lib.join (b::l) [32]):=by simp[Lib.join,List.intercalate]
  rw[e];simp only[zm,z6,yo,zx,qj]at h⊢;omega
theorem VR(l:List za):(Vf l).length<=(l.map fun w=>w.length+1).sum+1:=by have:=EY l;unfold Vf;rw[zm];simp only[zx,qj];omega
theorem ae{α:Type}{f:α->za}{g:α->Nat}{c:Nat}:∀{l:List α},(∀x∈l,(f x).length<=c*g x)->(l.flatMap f).length<=c*yn g l
 |[],_=>by simp
 |x::l,h=>by
  have d:=h x (by simp);have e:=ae (l:=l) fun y a=>h y (by simp[a])
  rw[List.flatMap_cons,zm];have b:yn g (x::l)=g x+yn g l:=by simp[yn]
  rw[b,Nat.mul_add];omega
theorem c7{α:Type}{f:α->Nat}{c:Nat}:∀{l:List α},(∀x∈l,f x<=c)->(l.map f).sum<=c*l.length
 |[],_=>by simp
 |x::l,h=>by
  have b:=h x (by simp);have d:=c7 (l:=l) fun y a=>h y (by simp[a])
  simp only[z6,yo,zx];rw[Nat.mul_succ];omega
theorem Tn(x:w9)(h:0<=x.rest/\x.rest<=4000000000):(QC x).length<=40*x.cb:=by have b:=Zz h;have a:=VR [ia,x.name,x.qp,jt x.rest];have c:x.cb=1+x.name.length+x.qp.length:=rfl;unfold QC;simp only[z6,yX,yo,List.sum_nil,ia,zx,qj]at a;simp only[ia];omega
theorem To(x:vi)(h:0<=x.buckets/\x.buckets<=4000000000):(Yg x).length<=40*x.cb:=by
 have b:=Zz h;have a:=VR [X9,x.name,x.qp,jt x.buckets];have c:x.cb=1+x.name.length+x.qp.length+yn (fun s=>1+s.length) x.zf:=rfl;have d:(x.zf.flatMap YB).length<=40*yn (fun s=>1+s.length) x.zf:=ae fun s _=>by have:=VR [32::32::s];simp only[z6,yX,yo,List.sum_nil,zx,qj]at this;unfold YB;omega
 unfold Yg;rw[zm];simp only[z6,yX,yo,List.sum_nil,X9,zx,qj]at a;simp only[X9];omega
theorem Tp{r:Rg}(h:0<=r.2.1/\r.2.1<=4000000000/\0<=r.2.2/\r.2.2<=4000000000):(aa r).length<=21:=by have a:=Zz ⟨h.1,h.2.1⟩;have b:=Zz h.2.2;unfold aa;rw[zm,zx];omega
theorem Tq{s:Sp}(h:0<=s.1/\s.1<=4000000000/\0<=s.2/\s.2<=4000000000):(bB s).length<=21:=by have a:=Zz ⟨h.1,h.2.1⟩;have b:=Zz h.2.2;unfold bB;rw[zm,zx];omega
theorem Tr{x:Xp}(h:Ve x):(Vf (ch x)).length<=8+22*x.yF.length:=by
 have a:=VR (ch x);have b:(x.yF.map fun r=>(aa r).length+1).sum<=22*x.yF.length:=c7 fun r c=>by have:=Tp (h.yF r c);omega
 unfold ch at a⊢;simp only[z6,List.map_map,ka,yo,zx,qj]at a;omega
theorem zbH{x:Xp}(h:Ve x){p:yz}(Y:p∈x.zF):(ab p).length<=40*p.cb:=by
 have a:=VR (Iy p);have b:(p.qJ.map fun s=>(bB s).length+1).sum<=22*p.qJ.length:=c7 fun s hs=>by have:=Tq (h.spn p Y s hs);omega
 have c:=Zz (h.phs p Y);have d:p.cb=1+p.qJ.length:=rfl;unfold ab;unfold Iy at a⊢;simp only[z6,List.map_map,ka,yo,zx,qj]at a;omega
theorem EZ(c:qO):(Zc c).1.length<=20000:=by
 unfold Zc;split
 ·split
  ·simp
  ·rename_i h;simp only;omega
 ·simp
theorem Mb{x:Xp}(h:Ve x):(bC x).length<=30000*(x.cb+1):=by
 have a:=VR [sK,x.name,x.wH,x.flag,x.qp];have b:=VR [[32,32,105,102],(Zc x.cond).1];have c:=Tr h;have d:(x.zF.flatMap ab).length<=40*yn yz.cb x.zF:=ae fun p Y=>zbH h Y
 have e:=EZ x.cond;have f:x.cb=x.name.length+x.wH.length+x.flag.length+x.cond.cb+x.qp.length+x.yF.length+yn yz.cb x.zF:=rfl;unfold bC sg xpI;simp only[z6,yX,yo,List.sum_nil,sK,zx,qj]at a b;simp only[zm,sK];omega
theorem Mc:∀{l:List Xp},(∀x∈l,Ve x)->(l.flatMap bC).length<=30000*(yn Xp.cb l+l.length)
 |[],_=>by simp
 |x::l,h=>by
  have b:=Mb (h x (by simp));have c:=Mc (l:=l) fun y a=>h y (by simp[a])
  rw[List.flatMap_cons,zm];have d:yn Xp.cb (x::l)=x.cb+yn Xp.cb l:=by simp[yn]
  simp only[zx];omega
theorem Md{b:Bk}(h:yg b=0)(e:b.cb<=zA):(uL b).length<=40000000000000:=by
 obtain⟨f,g,i⟩:=VQ h;have j:(b.zf.flatMap QC).length<=40*yn w9.cb b.zf:=ae fun x a=>Tn x (f x a)
 have k:(b.holds.flatMap Yg).length<=40*yn vi.cb b.holds:=ae fun x a=>To x (g x a)
 have l:=Mc i;have m:b.zU.length<=100:=by
  unfold yg at h;split at h
  ·exact absurd h (by simp)
  ·rename_i c;omega
 have d:zA=268435456:=rfl;unfold Bk.cb at e;unfold uL;rw[zm,zm];omega
theorem Je(a:za)(l:List za):Lib.join (a::l) [32]=a++l.flatMap fun w=>32::w:=by
 induction l generalizing a with
 |nil=>simp[Lib.join]
 |cons c l b=>
  have e:Lib.join (a::c::l) [32]=a++(32::Lib.join (c::l) [32]):=by simp[Lib.join,List.intercalate]
  rw[e,b c];simp
def mq(x:Xp)(a:za):za:=sK++[32]++x.name++[32]++x.wH++[32]++x.flag++[32]++x.qp++[10,32,32,105,102,32]++a++[10,32,32,97,114,109,115]
def c8(p:yz):za:=[32,32,97,116,32]++jt p.at_++(p.qJ.flatMap fun s=>32::bB s)++[10]
theorem zbI(p:yz):c8 p=ab p:=by unfold c8 ab Iy Vf;rw[Je];simp[List.flatMap_map]
theorem zfl(x:Xp):mq x (Zc x.cond).1++(x.yF.flatMap fun r=>32::aa r)++[10]++x.zF.flatMap c8=bC x:=by
 have h:x.zF.flatMap c8=x.zF.flatMap ab:=by congr 1;funext p;exact zbI p
 rw[h];unfold mq bC sg xpI ch Vf;rw[Je,Je,Je];simp[List.flatMap_map]
theorem zbJ(x:w9):ia++[32]++x.name++[32]++x.qp++[32]++jt x.rest++[10]=QC x:=by unfold QC Vf;rw[Je];simp
end Go.Q
namespace Go.Q
open Go.RowKit Go.AM Go.PrLaw
noncomputable def FQr:zb->Option O:=qd (α:=za) (fun s=>[str s]) (fun s=>s.length<=zA) (fun s=>str (Z2 s))
theorem pF(s:za)(Y:Hp)(Z:Nat)(h:s.length<=zA):hP FQr [str s] Y Z=some (str (Z2 s),Y,Z):=
 QL s _ _ rfl (fun a b e=>by simpa using e) h (.inl rfl)
noncomputable abbrev Crq:Ctx:=zV prog [(147,hP FRp)]
theorem zfm:AM.kB False Crq Hl:=zW mixed ⟨gu,trivial⟩
theorem eY:yY False prog 104 (hP FQr):=
 vM zfm func104 false [] fun s hs=>by
  unfold zA at hs;have f:=DU 92 92 92 s;have b:=DU 34 92 34 (KI 92 [92,92] s);have c:=fun Y Z=>LR s 92 [92,92] Y Z (by omega) (by simp) (by simp)
  have a:=fun Y Z=>LR (KI 92 [92,92] s) 34 [92,34] Y Z (by omega) (by simp) (by simp)
  rw[zaT]at a b;have d:1+(bw s).length<=maxLen:=by unfold maxLen;omega
  have e:(bw s).length+1+1<=maxLen:=by unfold maxLen;omega
  exact⟨by simp[f104],_,zn rfl (by simp[c,a,d,e,Z2,f104]),z8 _⟩
noncomputable def FNt:zb->Option O:=qd (α:=Int) (fun n=>[int n]) (fun n=>-1000000000000000<n/\n<1000000000000000) (fun n=>str (Jp n))
theorem Ts(n:Int)(Y:Hp)(Z:Nat)(h:-1000000000000000<n/\n<1000000000000000):hP FNt [int n] Y Z=some (str (Jp n),Y,Z):=
 QL n _ _ rfl (fun a b e=>by simpa using e) h (.inl rfl)
noncomputable abbrev Crnt:Ctx:=zV prog [(12,hP FIt),(225,hP FRt),(216,hP (Yx trP fun _ b=>dY b))]
theorem zbK:AM.kB False Crnt Hl:=zW mixed ⟨JI.lax,Be,Xo.lax,trivial⟩
theorem Ob(n:Int)(hs:-1000000000000000<n/\n<1000000000000000):zv Crnt f182 [int n]=some (str (Jp n)):=by
 refine zn rfl ?_;obtain⟨u,K⟩:=wZ n.natAbs;have L:u<1000000000000000:=by omega
 have c:Jp n=(if n<0 then[45]else[])++(Lib.decDigits (u/1000)++if u % 1000=0 then[]else 46::Zg (u % 1000)):=by rw[<-K];rfl
 have y:Lib.trimRightB ((Lib.decDigits (1000+u % 1000)).drop 1) 48=Zg (u % 1000):=rfl;have k:((Lib.decDigits (1000+u % 1000)).drop 1).length<=1000:=by rw[ZK (by omega)];simp
 have m:((u:Int)).tdiv 1000=(u:Int)/1000:=Int.tdiv_eq_ediv_of_nonneg (by omega);have o:((u:Int)).tmod 1000=(u:Int) % 1000:=Int.tmod_eq_emod_of_nonneg (by omega);have g:=fun Y Z=>kl ((u:Int)/1000) Y Z (by omega) (by omega)
 have h:=fun Y Z=>kl ((u:Int) % 1000) Y Z (by omega) (by omega)
 rw[show((u:Int)/1000).toNat=u/1000 by omega]at g;rw[show((u:Int) % 1000).toNat=u % 1000 by omega]at h;have p:=wq (u:Int);have q:=wq ((u:Int)/1000);have s:=wq ((u:Int) % 1000);obtain⟨D,z⟩:=wZ (Lib.decDigits (u % 1000));have M:D.length<=3:=by rw[<-z];exact fL 2 _ (by omega)
 have t:=wq (3-(D.length:Int));have i:=fun Y Z=>za3 48 (3-(D.length:Int)) Y Z (by omega) (by omega)
 rw[show(3-(D.length:Int)).toNat=3-D.length by omega]at i;obtain⟨Z,B⟩:=wZ (Lib.repeatL [48] (3-D.length));have e:Z++D=(Lib.decDigits (1000+u % 1000)).drop 1:=by rw[<-B,<-z];exact zaU (by omega)
 have j:=fun Y Z=>D0 ((Lib.decDigits (1000+u % 1000)).drop 1) Y Z k
 rw[y,<-e]at j;rw[B]at i;rw[z]at h;have v:Z.length+D.length<=maxLen:=by have:=k;rw[<-e]at this;simp at this;unfold maxLen;omega
 obtain⟨E,C⟩:=wZ (Lib.decDigits (u/1000));have N:E.length<=12:=by rw[<-C];exact fL 11 _ (by omega)
 rw[C]at g c;obtain⟨Q,F⟩:=wZ (Zg (u % 1000));have P:Q.length<=3:=by rw[<-F];exact cG (by omega)
 have b:=HP (r:=u % 1000) (by omega);rw[F]at j c b;have w:E.length<=maxLen:=by unfold maxLen;omega
 have x:1+E.length<=maxLen:=by unfold maxLen;omega
 have G:E.length+1<=maxLen:=by unfold maxLen;omega
 have H:E.length+1+1<=maxLen:=by unfold maxLen;omega
 have I:E.length+1+Q.length<=maxLen:=by unfold maxLen;omega
 have J:E.length+1+1+Q.length<=maxLen:=by unfold maxLen;omega
 rw[c];clear c;rcases Int.lt_or_le n 0 with hn|hn
 ·obtain rfl:n=-(u:Int):=by omega
  have l:0<u:=by omega
  rw[zd hn];by_cases d:u % 1000=0
  ·rw[zd d];have a:=b.2 d;subst a;simp[l,m,o,g,h,j,i,p,q,s,t,v,w,x,f182]
  ·rw[ze d];have a:(Q==[])=false:=by
    cases A:(Q==[])
    ·rfl
    ·exact absurd (b.1 (by simpa using A)) d
   simp[l,m,o,g,h,j,i,p,q,s,t,v,w,x,G,H,I,J,a,f182]
 ·obtain rfl:n=(u:Int):=by omega
  have f:¬(u:Int)<0:=by omega
  rw[ze f];by_cases d:u % 1000=0
  ·rw[zd d];have a:=b.2 d;subst a;simp[f,m,o,g,h,j,i,p,q,s,t,v,w,x,f182]
  ·rw[ze d];have a:(Q==[])=false:=by
    cases A:(Q==[])
    ·rfl
    ·exact absurd (b.1 (by simpa using A)) d
   simp[f,m,o,g,h,j,i,p,q,s,t,v,w,x,G,H,I,J,a,f182]
theorem Iz:yY False prog 182 (hP FNt):=
 vM zbK func182 false [] fun n a=>⟨by simp[f182],_,Ob n a,z8 _⟩
noncomputable def FVw (n:Nat):zb->Option O:=qd (α:=qu) (fun v=>[.agg v.V]) (fun v=>Xn v/\v.vb<=zA/\v.vb<=n) (fun v=>str v.show)
theorem pG(n:Nat)(v:qu)(Y:Hp)(Z:Nat)(h:Xn v/\v.vb<=zA/\v.vb<=n):hP (FVw n) [.agg v.V] Y Z=some (str v.show,Y,Z):=
 QL v _ _ (by simp only[zC,Zt]) (fun a b e=>by simp only[zj,zG,O.agg.injEq]at e;exact YW e) h (.inl rfl)
theorem Tt{f:FuncId}(a:∃fn,prog.funcs[f]?=some fn/\(fn.name== "runtime.NumGoroutine")=false/\fn.body.isNone=false):yY False prog f (hP (FVw 0)):=by
 refine⟨a,fun args Y Z r Y' Z' h=>?_⟩
 try unfold hP at h
 unfold zh at h;split at h
 ·split at h
  ·rename_i b;obtain⟨v,_,c,_⟩:=zO b;have:=Kk v;omega
  ·cases h
 ·cases h
theorem Q2(l:List za)(k:Nat)(h:k<l.length):zy (l.take (k+1))=zy (l.take k)++[[str l[k]]]:=by rw[zQ h];unfold zy;rw[JH];rfl
theorem Oc(l:List qu)(h:∀x∈l,Xn x):(Lib.join (l.map qu.show) [44]).length<=30*Vg l:=by
 have j:=Jq [44] (l.map qu.show);refine zI j ?_;clear j
 induction l with
 |nil=>simp
 |cons v l c=>
  have a:=KJ v (h v (by simp));have b:=c fun x d=>h x (by simp[d])
  simp only[z6,yo,Vg,zx,qj]at b⊢;omega
theorem Od(l:List (za×qu))(h:∀f∈l,Xn f.2):(Lib.join (l.map ZP) [44]).length<=30*lT l:=by
 have j:=Jq [44] (l.map ZP);refine zI j ?_;clear j
 induction l with
 |nil=>simp
 |cons f l d=>
  have a:=KJ f.2 (h f (by simp));have b:=d fun x e=>h x (by simp[e])
  have q:=W9 f.1;obtain⟨c,v⟩:=f;simp only[z6,yo,lT,ZP,zm,zx,qj]at a b q⊢;omega
noncomputable abbrev Crw (n:Nat):Ctx:=zV prog [(148,hP (FVw n)),(182,hP FNt),(104,hP FQr),(11,hJn)]
theorem E0(n:Nat)(v:qu)(h:Xn v/\v.vb<=zA/\v.vb<=n+1):zv (Crw n) f148 [.agg v.V]=some (str v.show):=by
 obtain⟨e,M,N⟩:=h;have Q:=Wg v;have R:=jw v.items;have S:=kP v.fields;have L:=KJ v e;unfold zA at M;have T:=e.kind;have r:=fun h Y Z=>Ts v.n Y Z h
 have E:=fun Y Z=>pF v.s Y Z (by unfold zA;omega)
 refine zn rfl ?_;rcases(by omega:v.kind=0\/v.kind=1\/v.kind=2\/v.kind=3\/v.kind=4\/v.kind=5)with hk|hk|hk|hk|hk|hk
 ·have b:v.show=[110,117,108,108]:=by rw[xK,zd hk]
  simp[hk,b,f148]
 ·by_cases C:v.n=1
  ·have b:v.show=[116,114,117,101]:=by rw[xK,ze (by omega),zd hk,zd C]
   simp[hk,C,b,f148]
  ·have b:v.show=[102,97,108,115,101]:=by rw[xK,ze (by omega),zd hk,ze C]
   have F:(v.n==1)=false:=qQ.2 C;simp[hk,F,b,f148]
 ·have b:v.show=Jp v.n:=by rw[xK,ze (by omega),ze (by omega),zd hk]
  have r:=r (e.num hk);simp[hk,r,b,f148]
 ·have b:v.show=Z2 v.s:=by rw[xK,ze (by omega),ze (by omega),ze (by omega),zd hk]
  simp[hk,E,b,f148]
 ·have b:v.show=91::(Lib.join (v.items.map qu.show) [44]++[93]):=by rw[xK,ze (by omega),ze (by omega),ze (by omega),ze (by omega),zd hk]
  have G:=Oc v.items e.items;simp[hk];refine zL (fun k σ Y Z=>σ 30=.sl 5 (v.items.map qu.V)/\σ 31=int v.items.length/\σ 32=int k/\qN Y Z 9 1 (σ 3) (zy ((v.items.map qu.show).take k))) v.items.length ⟨by simp,by simp,by simp,.inl ⟨by simp,rfl⟩⟩ ?_;rintro k σ Y Z H ⟨j,l,m,q⟩;by_cases f:k<v.items.length
  ·have I:=qe k;have d:=zi f;have D:=kY d;have g:=e.items _ d;have p:=Q2 (v.items.map qu.show) k (by simpa using f);rw[Yp]at p;obtain⟨x,z⟩:=wZ (v.items[k]);rw[z]at D g p;obtain⟨ys,o⟩:=wZ (zy ((v.items.map qu.show).take k));have J:ys.length<=268435456:=by rw[<-o];simp;omega
   rw[o]at q p;have i:=fun Y Z=>pG n x Y Z ⟨g,by unfold zA;omega,by omega⟩
   have u:=q.more (some ⟨145,5,false,[x.V]⟩);have w:=qN.yx (P:=prog) (t:=38) (c:=[str x.show]) u Jn mI oa ob rfl (by omega) (by unfold maxLen;omega) (by omega);simp[j,l,m,f,z,i,w,I,zt,zJ,zr];exact⟨by omega,by rw[p];simpa using qN.after⟩
  ·obtain rfl:k=v.items.length:=by omega
   rw[zZ (by simp)]at q;have y:=fun Z=>oL [44] q (by simp;omega) (by omega) Z
   have A:1+(Lib.join (v.items.map qu.show) [44]).length<=maxLen:=by unfold maxLen;omega
   have B:(Lib.join (v.items.map qu.show) [44]).length+1+1<=maxLen:=by unfold maxLen;omega
   simp[j,l,m,y,A,B,b,f148]
 ·have b:v.show=123::(Lib.join (v.fields.map ZP) [44]++[125]):=by rw[xK,ze (by omega),ze (by omega),ze (by omega),ze (by omega),ze (by omega)]
  have G:=Od v.fields e.fields;simp[hk];refine zL (fun k σ Y Z=>σ 47=.sl 6 (v.fields.map kI)/\σ 48=int v.fields.length/\σ 49=int k/\qN Y Z 9 1 (σ 3) (zy ((v.fields.map ZP).take k))) v.fields.length ⟨by simp,by simp,by simp,.inl ⟨by simp,rfl⟩⟩ ?_;rintro k σ Y Z H ⟨j,l,m,q⟩;by_cases f:k<v.fields.length
  ·have I:=qe k;have d:=zi f;have D:=ZL d;have g:=e.fields _ d;have p:=Q2 (v.fields.map ZP) k (by simpa using f);rw[Yp]at p;obtain⟨⟨a,x⟩,z⟩:∃x,v.fields[k]=x:=⟨_,rfl⟩;rw[z]at D g p;simp only[ZP]at D g p;obtain⟨ys,o⟩:=wZ (zy ((v.fields.map ZP).take k));have J:ys.length<=268435456:=by rw[<-o];simp;omega
   have U:=KJ x g;have W:=W9 a;rw[o]at q p;have i:=fun Y Z=>pG n x Y Z ⟨g,by unfold zA;omega,by omega⟩
   have K:=fun Y Z=>pF a Y Z (by unfold zA;omega)
   have A:(Z2 a).length+1<=maxLen:=by unfold maxLen;omega
   have B:(Z2 a).length+1+x.show.length<=maxLen:=by unfold maxLen;omega
   have u:=q.more (some ⟨184,6,false,[str a::x.V]⟩);have w:=qN.yx (P:=prog) (t:=38) (c:=[str (Z2 a++58::x.show)]) u Jn mI oa ob rfl (by omega) (by unfold maxLen;omega) (by omega);simp[j,l,m,f,z,i,K,A,B,w,I,zt,zJ,zr];exact⟨by omega,by rw[p];simpa using qN.after⟩
  ·obtain rfl:k=v.fields.length:=by omega
   rw[zZ (by simp)]at q;have y:=fun Z=>oL [44] q (by simp;omega) (by omega) Z
   have A:1+(Lib.join (v.fields.map ZP) [44]).length<=maxLen:=by unfold maxLen;omega
   have B:(Lib.join (v.fields.map ZP) [44]).length+1+1<=maxLen:=by unfold maxLen;omega
   simp[j,l,m,y,A,B,b,f148]
theorem BN:∀n,yY False prog 148 (hP (FVw n)):=by
 intro n
 induction n with
 |zero=>exact Tt ⟨_,func148,by kernel_rfl,by kernel_rfl⟩
 |succ n a=>have b:AM.kB False (Crw n) (fun g=>[148,104].contains g):=qC mixed ⟨a,fun _=>zu _ _,Iz,by simp,eY,fun _=>zu _ _,VG,by simp,trivial⟩;exact vM b func148 false [] fun v c=>⟨zI (zl 1) (by decide),_,E0 n v c,z8 _⟩
noncomputable def FVt:zb->Option O:=qd (α:=List qu) (fun l=>[.sl 5 (l.map qu.V)]) (fun l=>(∀x∈l,Xn x)/\Vg l<=zA) (fun l=>str (KZ l))
theorem Tu(l:List qu)(Y:Hp)(Z:Nat)(h:∀x∈l,Xn x)(a:Vg l<=zA):hP FVt [.sl 5 (l.map qu.V)] Y Z=some (str (KZ l),Y,Z):=
 QL l _ _ (by simp) (fun x y e=>by
  simp only[zj,zG]at e;injection e with _ e
  exact D7 e) ⟨h,a⟩ (.inl rfl)
noncomputable abbrev Crvt:Ctx:=zV prog [(148,hP (FVw zA)),(11,hJn)]
theorem zbL:AM.kB False Crvt Hl:=zW mixed ⟨BN zA,VG,trivial⟩
theorem IA(l:List qu)(f:∀x∈l,Xn x)(z:Vg l<=zA):zv Crvt f105 [.sl 5 (l.map qu.V)]=some (str (KZ l)):=by
 have A:=jw l;have r:=gU l f;unfold zA at z;refine zn rfl ?_;by_cases s:l=[]
 ·subst s;simp[KZ,f105]
 have g:((l.length:Int)==0)=false:=qQ.2 fun e=>s (wx (by omega))
 have h:KZ l=Lib.join (l.map qu.show) [32,124,32]:=by rw[KZ,ze s]
 rw[h]at r;simp[g];refine zL (fun k σ Y Z=>σ 9=.sl 5 (l.map qu.V)/\σ 10=int l.length/\σ 11=int k/\qN Y Z 9 1 (σ 3) (zy ((l.map qu.show).take k))) l.length ⟨by simp,by simp,by simp,.inl ⟨by simp,rfl⟩⟩ ?_;rintro k σ Y Z B ⟨i,j,m,p⟩;by_cases b:k<l.length
 ·have C:=qe k;have a:=zi b;have D:=kY a;have n:=f _ a;have q:=Q2 (l.map qu.show) k (by simpa using b);rw[Yp]at q;obtain⟨x,y⟩:=wZ (l[k]);rw[y]at D n q;obtain⟨ys,o⟩:=wZ (zy ((l.map qu.show).take k));have E:ys.length<=268435456:=by rw[<-o];simp;omega
  rw[o]at p q;have d:=fun Y Z=>pG zA x Y Z ⟨n,by unfold zA;omega,by unfold zA;omega⟩
  have u:=p.more (some ⟨145,5,false,[x.V]⟩);have v:=qN.yx (P:=prog) (t:=38) (c:=[str x.show]) u Jn mI oa ob rfl (by omega) (by unfold maxLen;omega) (by omega);simp[i,j,m,b,y,d,v,C,zt,zJ,zr];exact⟨by omega,by rw[q];simpa using qN.after⟩
 ·obtain rfl:k=l.length:=by omega
  rw[zZ (by simp)]at p;have w:=fun Z=>oL [32,124,32] p (by simp;omega) (by omega) Z
  simp[i,j,m,w,h,f105]
theorem E1:yY False prog 105 (hP FVt):=
 vM zbL func105 false [] fun l a=>⟨by simp[f105],_,IA l a.1 a.2,z8 _⟩
noncomputable def FOw:zb->Option O:=qd (α:=Int) (fun n=>[int n]) (fun n=>0<=n/\n<=12) (fun n=>str (nK n))
theorem Tv(n:Int)(Y:Hp)(Z:Nat)(h:0<=n/\n<=12):hP FOw [int n] Y Z=some (str (nK n),Y,Z):=
 QL n _ _ rfl (fun a b e=>by simpa using e) h (.inl rfl)
theorem C5:zg prog 103 (hP FOw):=
 vM je func103 false [] fun n ⟨a,b⟩=>by
  refine⟨by simp[f103],_,zn rfl ?_,z8 _⟩;rcases(by omega:n=0\/n=1\/n=2\/n=3\/n=4\/n=5\/n=6\/n=7\/n=8\/n=9\/n=10\/n=11\/n=12)with rfl|rfl|rfl|rfl|rfl|rfl|rfl|rfl|rfl|rfl|rfl|rfl|rfl <;>
   simp[zt,zJ,zr,maxLen,nK,tq,f103]
end Go.Q
namespace Go.Q
theorem BO:∀a b:za,Bp a b=jE a b
 |[],[]=>by simp[Bp,jE,Lib.compareBytes,Op.bytesLess]
 |[],_::_=>by simp[Bp,jE,Lib.compareBytes,Op.bytesLess]
 |_::_,[]=>by simp[Bp,jE,Lib.compareBytes,Op.bytesLess]
 |a::x,b::y=>by
  have d:=BO x y;unfold Bp jE at d⊢;rcases BI a b with h|rfl|h
  ·simp[Lib.compareBytes,Op.bytesLess,h]
  ·simpa[Lib.compareBytes,Op.bytesLess,cY]using d
  ·have c:¬a=b:=fun e=>cY b (e ▸ h)
   simp[Lib.compareBytes,Op.bytesLess,h,pw h,c]
theorem bd{a b:Int}(h:w8 a b=0):a=b:=by
 unfold w8 at h;split at h
 ·cases h
 ·split at h
  ·cases h
  ·omega
theorem pH{α:Type}(c:α->α->Int){a b:List α}{m:Nat}(f:m<=a.length)(g:m<=b.length)(h:m=a.length\/m=b.length):y0 c (a.drop m) (b.drop m)=w8 a.length b.length:=by
 unfold w8;by_cases e:m<a.length
 ·have d:m=b.length:=by omega
  rw[zc e,jF (l:=b) (by omega),ze (by omega),zd (by omega)];rfl
 ·rw[jF (l:=a) (by omega)];by_cases d:m<b.length
  ·rw[zc d,zd (by omega)];rfl
  ·rw[jF (l:=b) (by omega),ze (by omega),ze (by omega)];rfl
theorem BP(a b:Nat):∃m:Nat,(if b<a then(b:Int)else a)=m/\m<=a/\m<=b/\(m=a\/m=b):=by
 by_cases h:b<a
 ·exact⟨b,by rw[zd h],by omega,zl _,.inr rfl⟩
 ·exact⟨a,by rw[ze h],zl _,by omega,.inl rfl⟩
theorem ib(f g:za×qu):vE f g=if jE f.1 g.1=0 then yt f.2 g.2 else jE f.1 g.1:=by
 unfold vE;simp only[Xq];split
 ·split
  ·rename_i h;rw[h]
  ·rfl
 ·rfl
noncomputable abbrev Crcm (n:Nat):Ctx:=zV prog [(179,hP (Nb n)),(161,hP (nI w8)),(219,hP (PF Bp))]
theorem sL(n:Nat)(a b:qu)(h:a.vb<=zA/\a.vb<=n+1/\b.vb<=zA):zv (Crcm n) f179 [.agg a.V,.agg b.V]=some (int (yt a b)):=by
 obtain⟨M,p,o⟩:=h;have W:=Wg a;have X:=Wg b;have la:=jw a.items;have lb:=jw b.items;have fa:=kP a.fields;have fb:=kP b.fields;unfold zA at M o;refine zn rfl ?_;have c:=aU a b;by_cases A:a.kind=b.kind
 case neg=>
  rw[ze A]at c;have F:(w8 a.kind b.kind != 0)=true:=by rw[bne_iff_ne];exact fun e=>A (bd e)
  simp[F,c,f179]
 rw[zd A]at c;by_cases G:a.kind=1
 ·rw[zd (.inl G)]at c;have q:b.kind=1:=by omega
  simp[G,q,c,f179]
 by_cases H:a.kind=2
 ·rw[zd (.inr H)]at c;have q:b.kind=2:=by omega
  simp[H,q,c,f179]
 rw[ze (by omega)]at c;by_cases C:a.kind=3
 ·rw[zd C]at c;have q:b.kind=3:=by omega
  have hs:=BO a.s b.s;simp[C,q,c,hs,f179]
 rw[ze C]at c;by_cases D:a.kind=4
 ·rw[zd D]at c;have q:b.kind=4:=by omega
  obtain⟨m,I,v,w,x⟩:=BP a.items.length b.items.length;rw[c];simp[D,q,I];refine zL (fun k σ Y Z=>σ 2=.ref 0 0 0/\σ 3=.ref 1 0 0/\σ 43=int m/\σ 44=int k/\Y 0=some ⟨145,5,false,[a.V]⟩/\Y 1=some ⟨145,5,false,[b.V]⟩/\y0 yt a.items b.items=y0 yt (a.items.drop k) (b.items.drop k)) m
   ⟨by simp,by simp,by simp,by simp,by simp,by simp,by simp⟩ ?_
  rintro k σ Y Z A ⟨p,o,i,j,t,u,d⟩;by_cases l:k<m
  ·have f:k<a.items.length:=by omega
   have g:k<b.items.length:=by omega
   have N:=kY (zi f);have P:=kY (zi g);have B:=fun Y Z=>KO n a.items[k] b.items[k] Y Z ⟨by unfold zA;omega,by omega,by unfold zA;omega⟩
   have J:=qe k;rw[zc f,zc g]at d;simp only[y0]at d;by_cases r:yt a.items[k] b.items[k]=0
   ·rw[zd r]at d;simp[p,o,i,j,t,u,l,f,g,B,r,J];exact⟨l,d⟩
   ·rw[ze r]at d;have y:=vX r;simp[p,o,i,j,t,u,l,f,g,B,y,d,f179]
  ·obtain rfl:k=m:=by omega
   rw[pH yt v w x]at d;simp[p,o,i,j,t,u,d,f179]
 rw[ze D]at c;by_cases E:a.kind=5
 ·rw[zd E]at c;have q:b.kind=5:=by omega
  obtain⟨m,I,v,w,x⟩:=BP a.fields.length b.fields.length;rw[c];simp[E,q,I];refine zL (fun k σ Y Z=>σ 2=.ref 0 0 0/\σ 3=.ref 1 0 0/\σ 77=int m/\σ 78=int k/\Y 0=some ⟨145,5,false,[a.V]⟩/\Y 1=some ⟨145,5,false,[b.V]⟩/\y0 vE a.fields b.fields=y0 vE (a.fields.drop k) (b.fields.drop k)) m
   ⟨by simp,by simp,by simp,by simp,by simp,by simp,by simp⟩ ?_
  rintro k σ Y Z A ⟨p,o,i,j,t,u,d⟩;by_cases l:k<m
  ·have f:k<a.fields.length:=by omega
   have g:k<b.fields.length:=by omega
   have N:=ZL (zi f);have P:=ZL (zi g);have B:=fun Y Z=>KO n a.fields[k].2 b.fields[k].2 Y Z ⟨by unfold zA;omega,by omega,by unfold zA;omega⟩
   have hs:=BO a.fields[k].1 b.fields[k].1;have J:=qe k;rw[zc f,zc g]at d;simp only[y0]at d;rw[ib]at d;by_cases z:jE a.fields[k].1 b.fields[k].1=0
   ·rw[zd z]at d;by_cases r:yt a.fields[k].2 b.fields[k].2=0
    ·rw[zd r]at d;simp[p,o,i,j,t,u,l,f,g,B,hs,z,r,J];exact⟨l,d⟩
    ·rw[ze r]at d;have y:=vX r;simp[p,o,i,j,t,u,l,f,g,B,hs,z,y,d,f179]
   ·rw[ze z,ze z]at d;have K:=jN z;have L:=vX z;simp[p,o,i,j,t,u,l,f,g,B,hs,K,L,d,f179]
  ·obtain rfl:k=m:=by omega
   rw[pH vE v w x]at d;simp[p,o,i,j,t,u,d,f179]
 rw[ze E]at c;have Q:=jN G;have R:=jN H;have S:=jN C;have T:=jN D;have U:=jN E;have F:w8 a.kind b.kind=0:=by rw[A];simp
 simp[F,Q,R,S,T,U,c,f179]
theorem pI:∀n,zg prog 179 (hP (Nb n)):=by
 intro n
 induction n with
 |zero=>
  exact aV ⟨_,func179,by kernel_rfl,by kernel_rfl⟩ fun args r h=>by obtain⟨a,b,_,f,_⟩:=mN h;have:=Kk a;omega
 |succ n c=>
  have d:Gd (Crcm n):=zW mixed ⟨c,Ww,oV,trivial⟩;exact yy (fn:=f179) d (qX func179) false [] _ fun args r h=>by obtain⟨a,b,rfl,e,rfl⟩:=mN h;exact⟨zI (zl 2) (by decide),_,sL n a b e,z8 _⟩
def Jz(s:Int×Bool):Bool:=s.2||decide (200<s.1)
def uP(s r:Int×Bool):Int×Bool:=if Jz s then s else(s.1+r.1,s.2||r.2)
mutual
def qO.rp:qO->Int->Int×Bool
 | .mk _ _ _ _ _ _ xs,l=>C6 xs l (1,decide (20<l))
def C6:List qO->Int->Int×Bool->Int×Bool
 |[],_,s=>s
 |c::cs,l,s=>C6 cs l (uP s (c.rp (l+1)))
end
theorem Tw(c:qO)(l:Int):c.rp l=C6 c.args l (1,decide (20<l)):=by cases c;rfl
theorem eZ{l:Int}{s:Int×Bool}(h:Jz s=true):∀xs:List qO,C6 xs l s=s
 |[]=>rfl
 |c::cs=>by have:uP s (c.rp (l+1))=s:=zd h;simp only[C6];rw[this];exact eZ h cs
theorem Tx{xs:List qO}{l:Int}{s:Int×Bool}{k:Nat}(h:k<xs.length):C6 (xs.drop k) l s=C6 (xs.drop (k+1)) l (uP s (xs[k].rp (l+1))):=by rw[zc h,C6]
structure RPC (xs:List qO) (l:Int) (s r:Int×Bool):Prop where
 lo:s.1<=r.1
 hi:r.1<=s.1+y7 xs
 deep:r.2=true->s.2=true\/20<l+(jr xs:Int)
 all:Jz r=false->r.1=s.1+y7 xs/\(xs≠[]->l+(jr xs:Int)<=20)
theorem E2(c:qO):∀l,0<=(c.rp l).1/\(c.rp l).1<=c.parts/\((c.rp l).2=true->20<l+(c.levels:Int)-1)/\(Jz (c.rp l)=false->(c.rp l).1=c.parts/\l+(c.levels:Int)-1<=20):=by
 induction c using qO.ind with
 |h k a o v p n ys C=>
  intro l;have m:∀(xs:List qO) (s:Int×Bool),0<=s.1->(∀x∈xs,x∈ys)->RPC xs l s (C6 xs l s):=by
   intro xs
   induction xs with
   |nil=>intro s _ _;exact⟨by simp[C6],by simp[C6,y7],fun h=>.inl (by simpa[C6]using h),fun _=>⟨by simp[C6,y7],fun h=>absurd rfl h⟩⟩
   |cons x xs q=>
    intro s I B;by_cases g:Jz s=true
    ·rw[eZ g];exact⟨by omega,by omega,fun h=>.inl h,fun h=>by rw[g]at h;cases h⟩
    ·have e:C6 (x::xs) l s=C6 xs l (s.1+(x.rp (l+1)).1,s.2||(x.rp (l+1)).2):=by simp only[C6,uP,g];rfl
     rw[e];obtain⟨J,K,D,E⟩:=C x (B x (by simp)) (l+1);have i:=q (s.1+(x.rp (l+1)).1,s.2||(x.rp (l+1)).2) (by simp only;omega) (fun y F=>B y (by simp[F]));have b:y7 (x::xs)=x.parts+y7 xs:=by simp[y7]
     have d:jr (x::xs)=max x.levels (jr xs):=by simp[jr]
     have r:=i.lo;have t:=i.hi;simp only at r t;refine⟨by omega,by rw[b];omega,fun h=>?_,fun h=>?_⟩
     ·rw[d];rcases i.deep h with h|h
      ·simp only[qx]at h;rcases h with h|h
       ·exact .inl h
       ·right;have:=D h;omega
      ·right;omega
     ·obtain⟨u,w⟩:=i.all h;have z:Jz (x.rp (l+1))=false:=by
       simp only[Jz,wP,kd]at h g⊢;refine⟨?_,by omega⟩;cases hd:(x.rp (l+1)).2 with
       |false=>rfl
       |true=>
        exfalso;have A:Jz (s.1+(x.rp (l+1)).1,s.2||(x.rp (l+1)).2)=true:=by simp[Jz,hd]
        rw[eZ A]at h;simp[hd]at h
      obtain⟨L,M⟩:=E z;simp only at u;refine⟨by rw[b];omega,fun _=>?_⟩;rw[d];by_cases f:xs=[]
      ·subst f;simp only[jr];omega
      ·have:=w f;omega
  have j:=m ys (1,decide (20<l)) (by simp) fun x z=>z
  rw[Tw,Ja,cL];simp only[qO.args];have G:=j.lo;have H:=j.hi;simp only at G H;refine⟨by omega,by omega,fun h=>?_,fun h=>?_⟩
  ·rcases j.deep h with h|h
   ·simp at h;omega
   ·omega
  ·obtain⟨u,w⟩:=j.all h;simp only at u;refine⟨by omega,?_⟩;by_cases f:ys=[]
   ·rw[f]at h⊢;simp[C6,Jz]at h;simp only[jr];omega
   ·have:=w f;omega
theorem Oe(c:qO):Jz (c.rp 1)=(decide ((200:Int)<c.parts)||decide ((20:Int)<c.levels)):=by
 obtain⟨e,f,b,d⟩:=E2 c 1;rw[qA];constructor
 ·intro h;simp only[Jz,qx,zS]at h⊢;rcases h with h|h
  ·right;have:=b h;omega
  ·left;omega
 ·intro h;refine Xm fun a=>?_
  have a:Jz (c.rp 1)=false:=by simpa using a
  obtain⟨g,i⟩:=d a;simp only[Jz,wP,kd]at a;simp only[qx,zS]at h;omega
theorem uQ(a b:Int):w8 a b<0↔0<w8 b a:=by
 unfold w8;by_cases c:a<b
 ·rw[zd c,ze (by omega),zd c];omega
 ·by_cases d:b<a
  ·rw[ze c,zd d,zd d];omega
  ·rw[ze c,ze d,ze d,ze c]
theorem ic(a b:za):jE a b<0↔0<jE b a:=by
 have d:=VN a b;have f:=VN b a;have i:=Za a b;have g:=Za b a;constructor
 ·intro h;have j:=d.1 h;have n:¬jE b a<0:=fun c=>by have:=Qr j (f.1 c);rw[X6]at this;cases this
  have o:¬jE b a=0:=fun e=>by have:=g.1 e;have:=i.2 this.symm;omega
  omega
 ·intro h;refine Xm fun c=>?_
  have k:¬a=b:=fun e=>by have:=g.2 e.symm;omega
  have l:Xh a b=false:=by
   unfold Xh;rw[wP];refine⟨?_,by simpa using k⟩;cases m:Op.bytesLess a b with
   |false=>rfl
   |true=>exact absurd (d.2 m) c
  have:=f.2 (Zy l);omega
theorem ie{α:Type}{c:α->α->Int}:∀{a b:List α},(∀x∈a,∀y∈b,c x y<0↔0<c y x)->(∀x∈a,∀y∈b,c x y=0↔c y x=0)->(y0 c a b<0↔0<y0 c b a)/\(y0 c a b=0↔y0 c b a=0)
 |[],[],_,_=>by simp[y0]
 |[],_::_,_,_=>by simp[y0]
 |_::_,[],_,_=>by simp[y0]
 |x::a,y::b,h,i=>by
  have j:=ie (a:=a) (b:=b) (fun u d v f=>h u (by simp[d]) v (by simp[f])) (fun u d v f=>i u (by simp[d]) v (by simp[f]));have k:=h x (by simp) y (by simp);have g:=i x (by simp) y (by simp);simp only[y0];by_cases e:c x y=0
  ·rw[zd e,zd (g.1 e)];exact j
  ·rw[ze e,ze fun l=>e (g.2 l)];exact⟨k,g⟩
theorem ig{α:Type}{c:α->α->Int}{x y:α}(a:c x y<0↔0<c y x)(b:c y x<0↔0<c x y):c x y=0↔c y x=0:=by omega
theorem ly:∀(n:Nat) (a b:qu),a.vb+b.vb<=n->(yt a b<0↔0<yt b a)
 | 0,a,b,h=>by have:=Kk a;omega
 |n+1,a,b,h=>by
  have i:=ly n;have q:=Wg a;have r:=Wg b;rw[aU a b,aU b a];by_cases g:a.kind=b.kind
  case neg=>rw[ze g,ze fun e=>g e.symm];exact uQ _ _
  rw[zd g,zd g.symm,<-g];split
  ·exact uQ _ _
  split
  ·exact ic _ _
  split
  ·have f:∀x∈a.items,∀y∈b.items,(yt x y<0↔0<yt y x)/\(yt y x<0↔0<yt x y):=fun x c y d=>by have:=kY c;have:=kY d;exact⟨i x y (by omega),i y x (by omega)⟩
   exact(ie (fun x c y d=>(f x c y d).1) fun x c y d=>ig (f x c y d).1 (f x c y d).2).1
  split
  ·have f:∀x∈a.fields,∀y∈b.fields,(vE x y<0↔0<vE y x)/\(vE y x<0↔0<vE x y):=fun x c y d=>by
    have:=ZL c;have:=ZL d;have m:=i x.2 y.2 (by omega);have o:=i y.2 x.2 (by omega);have j:=ic x.1 y.1;have k:=ic y.1 x.1;have l:=ig j k;rw[ib,ib];by_cases e:jE x.1 y.1=0
    ·rw[zd e,zd (l.1 e)];exact⟨m,o⟩
    ·rw[ze e,ze fun p=>e (l.2 p)];exact⟨j,k⟩
   exact(ie (fun x c y d=>(f x c y d).1) fun x c y d=>ig (f x c y d).1 (f x c y d).2).1
  ·simp
theorem E3(a b:qu):yt b a<=0↔0<=yt a b:=by have:=ly _ a b (zl _);omega
def pJ(c:qO):Bool:=!((!(c.kind==4)&&(!c.attr.isEmpty||c.op != 0))||(c.kind != 5&&!c.name.isEmpty))&&!((!((c.kind==4)&&Wi c.op)&&decide (0<c.jh.length))||(!((c.kind==4)&&ZQ c.op)&&!c.pat.isEmpty)) &&
 (if c.kind=3 then(c.args.length:Int)==1 else if c.kind=4\/c.kind=5 then((c.args.length:Int)==0&&(!xz c.op||(c.jh.length:Int)==1))else true)
theorem Of(c:qO)(h:jG c.kind 1 5=true):pJ c=!Zw c:=by
 have j:c.kind=1\/c.kind=2\/c.kind=3\/c.kind=4\/c.kind=5:=by simp[jG]at h;omega
 have s:(decide (0<c.args.length))=!((c.args.length:Int)==0):=by
  cases c.args with
  |nil=>rfl
  |cons x l=>simp;omega
 have b:((c.jh.length:Int) != 1)=!((c.jh.length:Int)==1):=rfl;have d:((c.args.length:Int) != 1)=!((c.args.length:Int)==1):=rfl;have f:(c.op != 0)=!(c.op==0):=rfl;have t:c.op=0->xz c.op=false:=fun e=>by rw[e];rfl
 unfold pJ Zw w1F w2F w3F w4F w5F w6F w7F;rw[s,b,d,f];generalize c.attr.isEmpty=m;generalize c.name.isEmpty=n;generalize decide (0<c.jh.length)=o;generalize c.pat.isEmpty=p;generalize Wi c.op=q;generalize ZQ c.op=r;generalize ((c.jh.length:Int)==1)=u;generalize ((c.args.length:Int)==0)=a;generalize ((c.args.length:Int)==1)=v;by_cases g:c.op=0
 ·rw[t g,g];rcases j with k|k|k|k|k<;>rw[k]<;>cases m<;>cases n<;>cases o<;>cases p<;>cases a<;>simp[jG]<;>cases q<;>cases r<;>rfl
 ·have i:=jN g;rw[i];generalize xz c.op=w;rcases j with k|k|k|k|k<;>rw[k]<;>cases m<;>cases n<;>cases o<;>cases p<;>cases a<;>simp[jG]<;>cases q<;>cases r<;>cases w<;>cases u<;>rfl
def Og(n:Int):Bool:=decide (48<=n)&&decide (n<=57)
theorem Ty(c:UInt8):Og c.toNat=VE c:=by rw[qA];simp[Og,VE,pr];omega
theorem af:zg prog 323 (hP (nF Og)):=
 yy (fn:=f323) je (qX func323) false [] _ fun args r h=>by obtain⟨a,rfl,rfl⟩:=AX h;exact⟨by simp[f323],_,zn rfl (by simp[f323,Og]),z8 _⟩
noncomputable abbrev Crd:Ctx:=zV prog [(323,hP (nF Og))]
theorem zfn:AM.Good Crd (fun g=>[323].contains g):=qC mixed ⟨af,fun _=>zu _ _,trivial⟩
theorem mr(l:za)(h:l.length<=zA):zv Crd f341 [str l]=some (wb (Zi l)):=by
 refine zn rfl ?_;unfold zA at h;simp;refine zL (fun k σ Y Z=>σ 0=str l/\σ 5=int l.length/\σ 6=int k/\vN l=vN (l.drop k)) l.length ⟨by simp,by simp,by simp,by simp⟩ ?_;rintro k σ Y Z j ⟨e,f,g,b⟩;by_cases a:k<l.length
 ·have i:=qe k;rw[gr a]at b;have c:=Ty l[k];cases d:VE l[k]
  ·have b:vN l=false:=by rw[b,d];rfl
   rw[d]at c;simp[e,f,g,a,b,c,Zi,f341]
  ·rw[d]at c;simp[e,f,g,a,c,i];exact⟨a,by rw[b,d];rfl⟩
 ·obtain rfl:k=l.length:=by omega
  have b:vN l=true:=by rw[b,zp];rfl
  simp[e,f,g,b,Zi,f341]
theorem ij:zg prog 341 (hP (FS Zi)):=
 vM zfn func341 false [] fun l Y=>⟨by simp[f341],_,mr l Y,z8 _⟩
def J5(l:za):Bool:=l.isEmpty||(l.headD 0==48&&!(l==[48]))
theorem Oh(l:za):(!J5 l&&vN l)=yZ l:=by
 cases l with
 |nil=>rfl
 |cons c l=>
  cases l with
  |nil=>
   by_cases h:c=48
   ·subst h;rfl
   ·simp[J5,yZ,h]
  |cons d l=>simp[J5,yZ]
theorem BQ(l:za)(t:l.length<=zA):zv C0 f322 [str l]=some (wb (yZ l)):=by
 refine zn rfl ?_;unfold zA at t;rw[<-Oh];cases j:J5 l
 case true=>
  cases l with
  |nil=>simp[J5,f322]
  |cons c l=>
   simp only[J5,List.isEmpty_cons,List.headD_cons,yN,zE,jY,Q6,qQ]at j;obtain⟨rfl,j⟩:=j;have o:l.isEmpty=false:=by cases l with
    |nil=>exact absurd rfl j
    |cons d l=>rfl
   simp[o,f322]
 case false=>
  have a:l≠[]:=fun e=>by subst e;simp[J5]at j
  have u:0<l.length:=jV.2 a;have m:=jN a;have s:((l[0].toNat:Int)==48&&!(l==[48]))=false:=by
   cases l with
   |nil=>exact absurd rfl a
   |cons c l=>
    have v:((c.toNat:Int)==48)=(c==48):=by rw[qA];simp[<-ve];omega
    simp only[fJ,v];simpa[J5]using j
  have p:((l[0].toNat:Int)==48&&l != [48])=false:=s;simp[m,a,u,s,p];refine zL (fun k σ Y Z=>σ 0=str l/\σ 16=int l.length/\σ 17=int k/\vN l=vN (l.drop k)) l.length ⟨by simp,by simp,by simp,by simp⟩ ?_;rintro k σ Y Z x ⟨q,g,h,f⟩;by_cases b:k<l.length
  ·have w:=qe k;rw[gr b]at f;have r:=Vz 48 57 l[k];simp only[xF]at r;cases n:VE l[k]
   ·have f:vN l=false:=by rw[f,n];rfl
    have i:pr 48 57 l[k]=false:=n;simp[q,g,h,b,f,r,i,f322]
   ·have i:pr 48 57 l[k]=true:=n;simp[q,g,h,b,r,i,w];exact⟨b,by rw[f,n];rfl⟩
  ·obtain rfl:k=l.length:=by omega
   have f:vN l=true:=by rw[f,zp];rfl
   simp[q,g,h,f,f322]
theorem cj:zg prog 322 (hP (FS yZ)):=
 vM je func322 false [] fun l Y=>⟨by simp[f322],_,BQ l Y,z8 _⟩
def bD(c:UInt8):Bool:=pr 97 122 c||pr 65 90 c||c==45
theorem uR(c:UInt8):KK c=(bD c||VE c):=by simp only[KK,bD,VE];cases pr 97 122 c<;>cases pr 65 90 c<;>cases pr 48 57 c<;>simp
theorem zbM(c:UInt8)(h:bD c=true):VE c=false:=by
 cases hd:VE c with
 |false=>rfl
 |true=>
  simp only[bD,VE,pr,qx,zE,zS,jY]at h hd;rcases h with(h|h)|rfl
  ·omega
  ·omega
  ·simp at hd
theorem Oi(l:za)(h:l.all KK=true):(jG l.length 1 20&&(!(l.all fun c=>!bD c)||yZ l))=!yG l:=by
 have e:(l.all fun c=>!bD c)=vN l:=by
  induction l with
  |nil=>rfl
  |cons c l d=>
   simp only[wi,zE]at h;have a:=h.1;rw[uR]at a;rw[wi,d h.2];show _=(VE c&&vN l);cases b:bD c
   ·rw[b,yN]at a;rw[a];rfl
   ·rw[zbM c b];rfl
 rw[e];unfold yG gq;rw[h];cases l with
 |nil=>rfl
 |cons c l=>rw[qA];simp[jG];omega
theorem IB(l:za)(h:l.all KK=false):yG l=true:=by unfold yG gq;rw[h];simp
noncomputable abbrev Crip:Ctx:=zV prog [(323,hP (nF Og)),(248,hP (F3 jG)),(322,hP (FS yZ))]
theorem zbN:AM.Good Crip (fun g=>[323,248,322].contains g):=qC mixed ⟨af,fun _=>zu _ _,ZZ,fun _=>zu _ _,cj,fun _=>zu _ _,trivial⟩
@[simp]theorem zgL:ki Crip 322:=yL (by rfl) (zu _ _)
theorem E4(l:za)(q:l.length<=zA):zv Crip f295 [str l]=some (wb (!yG l)):=by
 refine zn rfl ?_;have f:=fun Y Z=>vw yZ l Y Z q
 unfold zA at q;simp;refine zL (fun k σ Y Z=>σ 0=str l/\σ 3=wb ((l.take k).all fun c=>!bD c)/\σ 8=int l.length/\σ 9=int k/\l.all KK=(l.drop k).all KK) l.length ⟨by simp,by simp,by simp,by simp,by simp⟩ ?_;rintro k σ Y Z t ⟨i,d,j,m,b⟩;by_cases a:k<l.length
 ·have r:=qe k;rw[ue a,uR]at b;have e:(decide ((97:Int)<=l[k].toNat)&&decide ((l[k].toNat:Int)<=122)||decide ((65:Int)<=l[k].toNat)&&decide ((l[k].toNat:Int)<=90)||((l[k].toNat:Int)==45))=bD l[k]:=by
   have s:((l[k].toNat:Int)==45)=(l[k]==45):=by rw[qA];simp[<-ve];omega
   rw[s,qA];simp[bD,pr,<-ve];omega
  have hd:=Ty l[k];have g:((l.take (k+1)).all fun c=>!bD c)=(((l.take k).all fun c=>!bD c)&&!bD l[k]):=by rw[zQ a,List.all_append];simp
  obtain⟨T,p⟩:=wZ ((l.take k).all fun c=>!bD c);rw[p]at d g;cases h:bD l[k]
  ·cases n:VE l[k]
   ·rw[h,n]at b;have b:l.all KK=false:=b;have o:=IB l b;rw[h]at e;rw[n]at hd;simp[i,d,j,m,a,e,hd,o,-List.all_eq_true,-List.all_eq_false,f295]
   ·rw[h,n]at b;rw[h]at e g;rw[n]at hd;simp[i,d,j,m,a,e,hd,r,-List.all_eq_true,-List.all_eq_false];exact⟨a,by rw[g];simp,b⟩
  ·rw[h]at b e g;simp[i,d,j,m,a,e,r,-List.all_eq_true,-List.all_eq_false];exact⟨a,by rw[g];simp,b⟩
 ·obtain rfl:k=l.length:=by omega
  have b:l.all KK=true:=by rw[b,zp];rfl
  have o:=Oi l b;rw[qf]at d;obtain⟨T,p⟩:=wZ (l.all fun c=>!bD c);rw[p]at d o;simp[i,d,j,m,f,o,-List.all_eq_true,-List.all_eq_false,f295]
theorem BR:zg prog 295 (hP (FS fun l=>!yG l)):=
 vM zbN func295 false [] fun l Y=>⟨by simp[f295],_,E4 l Y,z8 _⟩
theorem BS(l:za):zv C0 f253 [str l]=some (wb (yO l)):=by
 refine zn rfl ?_;have e:yO l=(l==[42]||l==[120]||l==[88]):=by unfold yO;cases l==[42]<;>cases l==[120]<;>cases l==[88]<;>rfl
 rw[e];cases a:(l==[42])
 ·cases b:(l==[120])
  ·simp[a,b,f253]
  ·simp[a,b,f253]
 ·simp[a,f253]
theorem sM:zg prog 253 (hP (FS yO)):=
 vM je func253 false [] fun l Y=>⟨by simp[f253],_,BS l,z8 _⟩
noncomputable def FNm:zb->Option O:=qd (α:=za) (fun l=>[str l,int 6]) (fun l=>l.length<=zA) JY
theorem Tz(l:za)(Y:Hp)(Z:Nat)(h:l.length<=zA):hP FNm [str l,int 6] Y Z=some (.w5 [int ((Zm l).getD 0),wb (Zm l).isSome],Y,Z):=
 QL l _ _ rfl (fun a b e=>by simp only[zj,zG]at e;exact wC e) h (.inl rfl)
noncomputable abbrev Crnm:Ctx:=zV prog [(322,hP (FS yZ)),(271,hP FAt)]
theorem zbO:AM.Good Crnm (fun g=>[322].contains g):=qC mixed ⟨cj,fun _=>zu _ _,oI,by simp,trivial⟩
theorem BT(l:za)(f:l.length<=zA):zv Crnm f294 [str l,int 6]=some (JY l):=by
 refine zn rfl ?_;have b:=fun Y Z=>vw yZ l Y Z f
 cases a:yZ l
 ·simp[b,a,JY,Zm,wK,f294]
 ·by_cases e:l.length<=6
  ·have c:¬((6:Int)<l.length):=by omega
   have g:=fun Y Z=>uf l Y Z (by omega) a
   simp[b,a,e,c,g,JY,Zm,wK,f294]
  ·have c:(6:Int)<l.length:=by omega
   have d:6<l.length:=by omega
   simp[b,a,e,d,c,JY,Zm,wK,f294]
theorem sN:zg prog 294 (hP FNm):=
 vM zbO func294 false [] fun l Y=>⟨by simp[f294],_,BT l Y,z8 _⟩
noncomputable abbrev Crcp:Ctx:=zV prog [(341,hP (FS Zi)),(289,hP (Yx tlP fun _ b=>dY b)),(161,hP (nI w8)),(219,hP (PF Bp)),(198,hP PG)]
theorem zbP:Gd Crcp:=zW mixed ⟨ij,Jo,Ww,oV,XX,trivial⟩
theorem ik(a b:za)(g:a.length<=zA)(h:b.length<=zA):zv Crcp f336 [str a,str b]=some (int (yc a b)):=by
 refine zn rfl ?_;have c:=fun Y Z=>vw Zi a Y Z g
 have d:=fun Y Z=>vw Zi b Y Z h
 have j:=fun Y Z=>mM a Y Z g
 have tb:=fun Y Z=>mM b Y Z h
 have i:=BO;cases e:Zi a<;>cases f:Zi b
 ·simp[c,d,e,f,yc,i,f336]
 ·simp[c,d,e,f,yc,f336]
 ·simp[c,d,e,f,yc,f336]
 ·have k:∀(Y:Hp) (Z id:Nat),Y id=some ⟨3,1,true,[[int (w8 (Lib.trimLeftB a 48).length (Lib.trimLeftB b 48).length)],[int (jE (Lib.trimLeftB a 48) (Lib.trimLeftB b 48))]]⟩->hP PG [.own id 0 2] Y Z=some (int (Xq [w8 (Lib.trimLeftB a 48).length (Lib.trimLeftB b 48).length,jE (Lib.trimLeftB a 48) (Lib.trimLeftB b 48)]),Y,Z):=fun Y Z id l=>ep [_,_] Y Z id _ (by show 2<=zA;decide) l
  simp[c,d,j,tb,e,f,k,i,zt,zJ,zr,yc,f336]
theorem e8:zg prog 336 (hP (Yx (fun a b=>int (yc a b)) fun _ _=>True)):=
 yy (fn:=f336) zbP (qX func336) false [] _ fun args r h=>by obtain⟨a,b,rfl,c,d,_,rfl⟩:=xl h;exact⟨by simp[f336],_,ik a b c d,z8 _⟩
noncomputable abbrev Crcv:Ctx:=zV prog [(161,hP (nI w8)),(198,hP PG),(336,hP (Yx (fun a b=>int (yc a b)) fun _ _=>True))]
theorem zbQ:AM.Good Crcv (fun g=>[161,198,336].contains g):=qC mixed ⟨Ww,fun _=>zu _ _,XX,fun _=>zu _ _,e8,fun _=>zu _ _,trivial⟩
theorem Xu(v w:yK)(U:v.small)(W:w.small):zv Crcv f324 [.agg v.V,.agg w.V]=some (int (Wb v w)):=by
 obtain⟨a,b,c,p⟩:=v;obtain⟨t,u,x,f⟩:=w;obtain⟨Y1,Y2⟩:=U;obtain⟨y,z⟩:=W;simp only at Y1 Y2 y z;refine zn rfl ?_;obtain⟨o,S⟩:=wZ (Xq [w8 a t,w8 b u,w8 c x]);have j:∀(Y:Hp) (Z id:Nat),Y id=some ⟨3,1,true,[[int (w8 a t)],[int (w8 b u)],[int (w8 c x)]]⟩->hP PG [.own id 0 3] Y Z=some (int o,Y,Z):=fun Y Z id X=>S ▸ ep [_,_,_] Y Z id _ (by show 3<=zA;decide) X
 have d:Wb ⟨a,b,c,p⟩ ⟨t,u,x,f⟩=if o=0 then(if p.length=0 then(if f.length=0 then 0 else 1)else if f.length=0 then -1 else y0 yc p f)else o:=by rw[<-S];rfl
 by_cases F:o=0
 case neg=>have G:=vX F;simp[yK.V,j,zt,zJ,zr,F,G,d,f324]
 subst F;have g:(zy p).length=p.length:=by simp[zy]
 have e:(zy f).length=f.length:=by simp[zy]
 by_cases A:p.length=0
 ·have s:w8 f.length 0=if f.length=0 then 0 else 1:=by unfold w8;split<;>(try split)<;>(try split)<;>first|omega|rfl
  simp[yK.V,j,zt,zJ,zr,A,d,g,e,s,f324]
 by_cases H:f.length=0
 ·have n:((p.length:Int)==0)=false:=by simpa using A
  have s:w8 0 p.length=-1:=by unfold w8;rw[zd (by omega)]
  simp[yK.V,j,zt,zJ,zr,A,n,H,d,g,e,s,f324]
 have n:((p.length:Int)==0)=false:=by simpa using A
 have I:((f.length:Int)==0)=false:=by simpa using H
 obtain⟨m,hm,J,K,B⟩:=BP p.length f.length;unfold zA at Y1 y;have d:Wb ⟨a,b,c,p⟩ ⟨t,u,x,f⟩=y0 yc p f:=by rw[d];simp[A,H]
 rw[d];simp[yK.V,j,zt,zJ,zr,n,I,g,e,hm];refine zL (fun k σ Y Z=>σ 2=.ref 0 0 0/\σ 3=.ref 1 0 0/\Y 0=some ⟨204,4,false,[[int a,int b,int c,.sl 1 (zy p)]]⟩/\Y 1=some ⟨204,4,false,[[int t,int u,int x,.sl 1 (zy f)]]⟩/\σ 51=int m/\σ 52=int k/\y0 yc p f=y0 yc (p.drop k) (f.drop k)) m
  ⟨by simp,by simp,by simp,by simp,by simp,by simp,by simp⟩ ?_
 rintro k σ Y Z hk ⟨L,M,N,P,q,r,l⟩;by_cases C:k<m
 ·have h:k<p.length:=by omega
  have i:k<f.length:=by omega
  have Q:=qe k;have s:=fun Y Z=>um p[k] f[k] Y Z (Y2 _ (zi h)) (z _ (zi i))
  have T:=KL h;have D:=KL i;rw[zc h,zc i]at l;simp only[y0]at l;by_cases E:yc p[k] f[k]=0
  ·rw[zd E]at l;simp[L,M,q,r,N,P,C,h,i,g,e,T,D,s,E,Q];exact⟨by omega,l⟩
  ·rw[ze E]at l;have R:=vX E;simp[L,M,q,r,N,P,C,h,i,g,e,T,D,s,R,l,f324]
 ·obtain rfl:k=m:=by omega
  rw[pH yc J K B]at l;simp[L,M,q,r,N,P,g,e,l,f324]
theorem VS:zg prog 324 (qP [.g vO,.g vO] (Sm fun v w=>int (Wb v w))):=
 yf (fn:=f324) zbQ (qX func324) _ _ fun args r h=>by obtain⟨⟨v,w⟩,rfl,⟨a,b⟩,rfl⟩:=zO h;exact⟨by simp[f324],_,Xu v w a b,wL.refl _⟩
noncomputable abbrev Crcu:Ctx:=zV prog [(324,qP [.g vO,.g vO] (Sm fun v w=>int (Wb v w)))]
theorem zbR:Gd Crcu:=zW mixed ⟨VS,trivial⟩
theorem e9(x y:Cut)(l:x.v.small)(m:y.v.small):zv Crcu f299 [.agg x.V,.agg y.V]=some (int (wV x y)):=by
 obtain⟨⟨a,b,c,p⟩,f⟩:=x;obtain⟨⟨h,i,j,k⟩,f'⟩:=y;refine zn rfl ?_;have d:=fun Y Z=>LX ⟨a,b,c,p⟩ ⟨h,i,j,k⟩ Y Z l m
 simp only[yK.V]at d;by_cases e:Wb ⟨a,b,c,p⟩ ⟨h,i,j,k⟩=0
 ·cases f<;>cases f'<;>simp[Cut.V,d,e,wV,f299]
 ·have g:=jN e;simp[Cut.V,d,e,g,wV,f299]
theorem Qt:zg prog 299 (qP [.g kn,.g kn] (Ee fun v w=>int (wV v w))):=
 yf (fn:=f299) zbR (qX func299) _ _ fun args r h=>by obtain⟨⟨v,w⟩,rfl,⟨a,b⟩,rfl⟩:=zO h;exact⟨by simp[f299],_,e9 v w a b,wL.refl _⟩
theorem Oj{l:List wQ}{c:Cut}{k:Nat}(h:k<l.length):yP (l.drop k) c=(xj l[k] c||yP (l.drop (k+1)) c):=by rw[zc h];rfl
noncomputable abbrev Crco:Ctx:=zV prog [(299,qP [.g kn,.g kn] (Ee fun v w=>int (wV v w)))]
theorem zbS:AM.Good Crco (fun g=>[299].contains g):=qC mixed ⟨Qt,fun _=>jD _ _,trivial⟩
theorem BU(l:List wQ)(c:Cut)(D:kz l)(B:c.v.small):zv Crco f259 [.sl 11 (qn l),.agg c.V]=some (wb (yP l c)):=by
 obtain⟨y,z⟩:=D;refine zn rfl ?_;unfold zA at y;have d:(qn l).length=l.length:=by simp[qn]
 simp[d,Cut.V];refine zL (fun k σ Y Z=>σ 3=.ref 0 0 0/\1<=Z/\Y 0=some ⟨206,5,false,[c.V]⟩/\σ 7=.sl 11 (qn l)/\σ 8=int l.length/\σ 9=int k/\yP l c=yP (l.drop k) c) l.length
  ⟨by simp,by simp,by simp[Cut.V],by simp,by simp,by simp,by simp⟩ ?_
 rintro k σ Y Z F ⟨j,E,m,n,o,p,g⟩;by_cases b:k<l.length
 ·have C:=qe k;obtain⟨s,hs⟩:=wZ (l[k]);have q:s.small:=z s (by rw[<-hs];exact zi b);have e:∀h:k<(qn l).length,(qn l)[k]=s.V:=fun h=>by simp[qn,hs]
  have r:=fun Y Z=>KT s.lo c Y Z q.1 B
  have t:=fun Y Z=>KT c s.hi Y Z B q.2
  have w:¬0=Z:=by omega
  have n1:¬Z=0:=by omega
  rw[Oj b,hs]at g;have f:xj s c=(decide (wV s.lo c<=0)&&(s.vW||decide (wV c s.hi<0))):=rfl;simp only[wQ.V,Cut.V,wB,w7]at r t e m;cases x:xj s c
  ·rw[x,yN]at g;rw[x]at f;by_cases A:wV s.lo c<=0
   ·rw[kp A,kv]at f;have a:=f.symm;rw[wP]at a;simp[j,n,o,p,b,d,e,r,t,m,w,n1,A,a.1,a.2,C,-decide_eq_false_iff_not];exact⟨by omega,rfl,g⟩
   ·simp[j,n,o,p,b,d,e,r,t,m,w,n1,A,C];exact⟨by omega,rfl,g⟩
  ·rw[x,V3]at g;rw[x]at f;have a:=f.symm;simp only[zE,zS]at a;have u:=a.2;cases i:s.vW
   ·rw[i,yN,zS]at u;simp[j,n,o,p,b,d,e,r,t,m,w,n1,a.1,i,u,g,f259]
   ·simp[j,n,o,p,b,d,e,r,t,m,w,n1,a.1,i,g,f259]
 ·obtain rfl:k=l.length:=by omega
  have g:yP l c=false:=by rw[g,zp];rfl
  simp[j,n,o,p,g,f259]
theorem sO:zg prog 259 (qP [.s 11 jW,.g kn] (FRC fun l c=>wb (yP l c))):=
 yf (fn:=f259) zbS (qX func259) _ _ fun args r h=>by obtain⟨⟨l,c⟩,rfl,⟨a,b⟩,rfl⟩:=zO h;exact⟨by simp[f259],_,BU l c a b,wL.refl _⟩
def Wk(w:Int)(a b:Bool):Bool:=if w=0 then a||b else if w=1 then a&&b else a&&!b
def FTk:zb->Option O
 |[.v (.int .i64 w),.v (.bool a),.v (.bool b)]=>some (wb (Wk w a b))
 |_=>none
@[simp]theorem ag(w:Int)(a b:Bool)(Y:Hp)(Z:Nat):hP FTk [.v (.int .i64 w),.v (.bool a),.v (.bool b)] Y Z=some (wb (Wk w a b),Y,Z):=yI rfl rfl (.inl rfl)
theorem E5:zg prog 258 (hP FTk):=
 yy (fn:=f258) je (qX func258) false [] _ fun args r h=>by
  have:∃w a b,args=[int w,wb a,wb b]/\r=wb (Wk w a b):=by
   unfold FTk at h;split at h
   ·injection h with h;exact⟨_,_,_,rfl,h.symm⟩
   ·cases h
  obtain⟨w,a,b,rfl,rfl⟩:=this;refine⟨by simp[f258],_,zn rfl ?_,z8 _⟩;by_cases c:w=0
  ·subst c;simp[Wk,f258]
  ·have d:=jN c;by_cases e:w=1
   ·subst e;simp[Wk,f258]
   ·have f:=jN e;simp[c,d,e,f,Wk,f258]
def jT(st:Part×Bool)(i:Nat)(t:za):Option (Part×Bool):=
 if yO t=true then some (st.1,true)else if st.2=false/\(Zm t).isSome=true then some (st.1.put i ((Zm t).getD 0),false)else none
def jz:Part×Bool->Nat->List za->Option (Part×Bool)
 |st,_,[]=>some st
 |st,i,t::l=>match jT st i t with
  |some q=>jz q (i+1) l
  |none=>none
def rdR(s:za):Option Part:=if 3<(qy (Lib.cut s [45]).1 [46]).length then none else
 match jz (wO,false) 0 (qy (Lib.cut s [45]).1 [46])with
 |none=>none
 |some st=>if(xV s).any yG=true then none else if((Lib.cut s [45]).2.2=false\/st.1.has=3)/\(xV s).length<=10 then some {st.1 with pre:=xV s}else none
def QD(s:za):Option Part:=match rdR s with
 |some p=>if p.has=0 then none else some p
 |none=>none
theorem K1{t:za}(h:yO t=true):Zm t=none:=by simp only[yO,qx,jY]at h;rcases h with(rfl|rfl)|rfl<;>rfl
theorem BV(p:Part)(i:Nat)(n:Int):(p.put i n).has=p.has+1/\(p.put i n).pre=p.pre:=by unfold Part.put;split<;>exact⟨rfl,rfl⟩
theorem il:∀(l:List za) (p:Part) (i:Nat),p.has<i->i≠0->(jz (p,true) i l).map (·.1)=yC p i l/\∀st,jz (p,true) i l=some st->st.1=p
 |[],p,i,_,_=>⟨rfl,fun st h=>by simp only[jz]at h;injection h with h;rw[<-h]⟩
 |t::l,p,i,h,hi=>by
  have b:¬p.has=i:=by omega
  obtain⟨e,f⟩:=il l p (i+1) (by omega) (by omega);by_cases a:yO t=true
  ·have c:jT (p,true) i t=some (p,true):=by simp[jT,a]
   have d:yb p i t=some p:=by simp[yb,a,hi,K1 a]
   simp only[jz,yC,c,d];exact⟨e,f⟩
  ·have c:jT (p,true) i t=none:=by simp[jT,a]
   have d:yb p i t=none:=by simp[yb,a,b]
   simp only[jz,yC,c,d];exact⟨rfl,fun st h=>by cases h⟩
theorem E6:∀(l:List za) (p:Part) (i:Nat),p.has=i->i≠0->(jz (p,false) i l).map (·.1)=yC p i l
 |[],p,i,_,_=>rfl
 |t::l,p,i,h,hi=>by
  by_cases a:yO t=true
  ·have b:jT (p,false) i t=some (p,true):=by simp[jT,a]
   have c:yb p i t=some p:=by simp[yb,a,hi,K1 a]
   simp only[jz,yC,b,c];exact(il l p (i+1) (by omega) (by omega)).1
  ·cases d:Zm t with
   |none=>
    have b:jT (p,false) i t=none:=by simp[jT,a,d]
    have c:yb p i t=none:=by simp[yb,a,d]
    simp only[jz,yC,b,c];rfl
   |some n=>
    have b:jT (p,false) i t=some (p.put i n,false):=by simp[jT,a,d]
    have c:yb p i t=some (p.put i n):=by simp[yb,d,h]
    simp only[jz,yC,b,c];exact E6 l (p.put i n) (i+1) (by rw[(BV p i n).1];omega) (by omega)
theorem Ol(t:za)(l:List za):(∃st,jz (wO,false) 0 (t::l)=some st/\((st.1.has=0/\yC wO 0 (t::l)=none)\/(1<=st.1.has/\yC wO 0 (t::l)=some st.1)))\/(jz (wO,false) 0 (t::l)=none/\yC wO 0 (t::l)=none):=by
 by_cases b:yO t=true
 ·have c:jT (wO,false) 0 t=some (wO,true):=by simp[jT,b]
  have a:yb wO 0 t=none:=by simp[yb,K1 b]
  simp only[jz,yC,c,a];cases d:jz (wO,true) 1 l with
  |none=>exact .inr ⟨by simp,trivial⟩
  |some st=>have:=(il l wO 1 (by show(0:Int)<1;omega) (by omega)).2 st d;exact .inl ⟨st,by simp,.inl ⟨by rw[this];rfl,trivial⟩⟩
 ·cases e:Zm t with
  |none=>
   have c:jT (wO,false) 0 t=none:=by simp[jT,b,e]
   have a:yb wO 0 t=none:=by simp[yb,b,e]
   simp only[jz,yC,c,a];exact .inr ⟨trivial,trivial⟩
  |some n=>
   have c:jT (wO,false) 0 t=some (wO.put 0 n,false):=by simp[jT,b,e]
   have a:yb wO 0 t=some (wO.put 0 n):=by simp[yb,e,wO]
   have g:(wO.put 0 n).has=1:=by rw[(BV wO 0 n).1];rfl
   have hs:=E6 l (wO.put 0 n) 1 g (by omega);simp only[jz,yC,c,a];cases d:jz (wO.put 0 n,false) 1 l with
   |none=>rw[d]at hs;exact .inr ⟨by simp,by simpa using hs.symm⟩
   |some st=>
    rw[d]at hs;simp only[zH]at hs;refine .inl ⟨st,by simp,.inr ⟨?_,by simpa using hs.symm⟩⟩;have f:yC wO 0 (t::l)=some st.1:=by simp only[yC,a];simpa using hs.symm
    have:=(mR (t::l) wO st.1 0 f (by simp[wO])).2.2.2.2.2.1;exact this (by simp)
theorem zfo{s:za}(h:Lib.contains s [45]=false):Lib.cut s [45]=(s,[],false):=by unfold Lib.contains at h;rw[kd]at h;unfold Lib.cut;rw[ze h]
theorem zbT{s:za}(h:Lib.contains s [45]=true):(Lib.cut s [45]).2.2=true:=by unfold Lib.contains at h;rw[zS]at h;unfold Lib.cut;rw[zd h]
theorem zbU(a b c:Int)(l:List za)(f:0<=a/\a<=999999)(g:0<=b/\b<=999999)(i:0<=c/\c<=999999):JK ⟨a,b,c,l⟩=0↔l.any yG=false/\l.length<=10:=by
 have e:jG a 0 999999=true/\jG b 0 999999=true/\jG c 0 999999=true:=by simp[jG];omega
 unfold JK;rw[zd e];simp only;by_cases d:10<l.length
 ·rw[zd d];constructor
  ·intro h;cases h
  ·rintro⟨_,h⟩;omega
 ·rw[ze d];cases j:l.any yG
  ·simp;omega
  ·simp
theorem mU(s:za):QD s=if(zX s).2=true then some (zX s).1 else none:=by
 cases K:Lib.contains s [45]
 ·have o:=zfo K;have p:xV s=[]:=by unfold xV;rw[o];rfl
  unfold QD rdR zX;simp only[K,zP,wF,o,p];by_cases x:3<(qy s [46]).length
  ·rw[zd x,zd x];rfl
  rw[ze x,ze x];obtain⟨t,l,C⟩:∃t l,qy s [46]=t::l:=by
   cases h:qy s [46]with
   |nil=>exact absurd h (uz _ _)
   |cons t l=>exact⟨t,l,rfl⟩
  rw[C];rcases Ol t l with⟨st,D,⟨B,w⟩|⟨B,w⟩⟩|⟨D,w⟩
  ·rw[D,w];simp[B]
  ·have Y:st.1.pre=[]:=(mR (t::l) wO st.1 0 w (by simp[wO])).2.2.2.2.2.2;have P:({st.1 with pre:=[]}:Part)=st.1:=by obtain⟨⟨a,b,c,d,e⟩,f⟩:=st;simp only at Y;subst Y;rfl
   have Q:¬st.1.has=0:=by omega
   rw[D,w];simp[Q,P]
  ·rw[D,w];rfl
 ·have o:=zbT K;unfold QD rdR zX;rw[zd K,o];simp only[Bool.true_eq_false,false_or];obtain⟨l,C⟩:=wZ (qy (Lib.cut s [45]).1 [46]);obtain⟨pre,p⟩:=wZ (xV s);rw[C,p];have j:∀(m:List za) (st v:Part×Bool) (i:Nat),jz st i m=some v->v.1.has<=st.1.has+m.length:=by
   intro m
   induction m with
   |nil=>intro st v i h;simp only[jz]at h;injection h with h;rw[<-h];simp
   |cons t m R=>
    intro st v i h;simp only[jz]at h;cases hs:jT st i t with
    |none=>rw[hs]at h;cases h
    |some q=>
     rw[hs]at h;have D:=R q v (i+1) h;have B:q.1.has<=st.1.has+1:=by
      unfold jT at hs;split at hs
      ·injection hs with hs;rw[<-hs];simp only;omega
      ·split at hs
       ·injection hs with hs;rw[<-hs];simp only;rw[(BV _ _ _).1];omega
       ·cases hs
     simp only[zx];omega
  by_cases x:l.length=3
  ·obtain⟨u,r,k,rfl⟩:∃a b c,l=[a,b,c]:=zdu x;unfold Bf;rw[C,p];simp only;have y:¬3<[u,r,k].length:=by simp
   rw[ze y];cases E:Zm u with
   |none=>
    have F:∀st,jz (wO,false) 0 [u,r,k]=some st->st.1.has<=2:=by
     intro st h;simp only[jz]at h;cases hs:jT (wO,false) 0 u with
     |none=>rw[hs]at h;cases h
     |some q=>
      rw[hs]at h;have M:q.1.has=0:=by
       unfold jT at hs;split at hs
       ·injection hs with hs;rw[<-hs];rfl
       ·rw[E]at hs;simp at hs
      have:=j [r,k] q st 1 (by simpa[jz]using h);simp only[zx,qj]at this;omega
    cases g:jz (wO,false) 0 [u,r,k]with
    |none=>rfl
    |some st=>
     have B:=F st g;have n:¬(st.1.has=3/\pre.length<=10):=by omega
     simp only[ze n];cases pre.any yG<;>rfl
   |some a=>
    have S:yO u=false:=by
     cases h:yO u with
     |false=>rfl
     |true=>rw[K1 h]at E;cases E
    have L:jT (wO,false) 0 u=some (wO.put 0 a,false):=by simp[jT,S,E]
    cases G:Zm r with
    |none=>
     have F:∀st,jz (wO,false) 0 [u,r,k]=some st->st.1.has<=2:=by
      intro st h;simp only[jz,L]at h;cases hs:jT (wO.put 0 a,false) (0+1) r with
      |none=>rw[hs]at h;cases h
      |some q=>
       rw[hs]at h;have M:q.1.has=1:=by
        unfold jT at hs;split at hs
        ·injection hs with hs;rw[<-hs];rfl
        ·rw[G]at hs;simp at hs
       have:=j [k] q st 2 (by simpa[jz]using h);simp only[zx,qj]at this;omega
     cases g:jz (wO,false) 0 [u,r,k]with
     |none=>rfl
     |some st=>
      have B:=F st g;have n:¬(st.1.has=3/\pre.length<=10):=by omega
      simp only[ze n];cases pre.any yG<;>rfl
    |some b=>
     have T:yO r=false:=by
      cases h:yO r with
      |false=>rfl
      |true=>rw[K1 h]at G;cases G
     have N:jT (wO.put 0 a,false) (0+1) r=some ((wO.put 0 a).put 1 b,false):=by simp[jT,T,G]
     cases H:Zm k with
     |none=>
      have F:∀st,jz (wO,false) 0 [u,r,k]=some st->st.1.has<=2:=by
       intro st h;simp only[jz,L,N]at h;cases hs:jT ((wO.put 0 a).put 1 b,false) (0+1+1) k with
       |none=>rw[hs]at h;cases h
       |some q=>
        rw[hs]at h;have M:q.1.has=2:=by
         unfold jT at hs;split at hs
         ·injection hs with hs;rw[<-hs];rfl
         ·rw[H]at hs;simp at hs
        simp only at h;injection h with h
        rw[<-h];omega
      cases g:jz (wO,false) 0 [u,r,k]with
      |none=>rfl
      |some st=>
       have B:=F st g;have n:¬(st.1.has=3/\pre.length<=10):=by omega
       simp only[ze n];cases pre.any yG<;>rfl
     |some c=>
      have U:yO k=false:=by
       cases h:yO k with
       |false=>rfl
       |true=>rw[K1 h]at H;cases H
      have W:jT ((wO.put 0 a).put 1 b,false) (0+1+1) k=some (((wO.put 0 a).put 1 b).put 2 c,false):=by simp[jT,U,H]
      have g:jz (wO,false) 0 [u,r,k]=some (((wO.put 0 a).put 1 b).put 2 c,false):=by simp only[jz,L,N,W]
      rw[g];have I:=zbU a b c pre (VM E) (VM G) (VM H);by_cases J:JK ⟨a,b,c,pre⟩=0
      ·obtain⟨z,A⟩:=I.1 J;simp[J,z,A,wO,Part.put]
      ·have y:¬(pre.any yG=false/\pre.length<=10):=fun h=>J (I.2 h)
       cases z:pre.any yG
       ·have A:¬pre.length<=10:=fun h=>y ⟨z,h⟩
        simp[J,A]
       ·simp[J]
  ·have hd:Bf s=none:=by
    unfold Bf;rw[C];split
    ·exact absurd rfl x
    ·rfl
   rw[hd];simp only[zP,wF];by_cases w:3<l.length
   ·rw[zd w]
   rw[ze w];cases g:jz (wO,false) 0 l with
   |none=>rfl
   |some st=>
    have X:=j l (wO,false) st 0 g;have h6:st.1.has<=2:=by have:(wO:Part).has=0:=rfl;simp only[this]at X;omega
    have n:¬(st.1.has=3/\pre.length<=10):=by omega
    simp only[ze n];cases pre.any yG<;>rfl
end Go.Q
namespace Go.AM
def c9(sh:Sh)(r y z:O)(x:O)(Y:Hp)(_:Nat):Prop:=∃a,(AM.freeze Y x).map (·.1)=some (.w5 [a,y,z])/\sh.fix a=r
theorem sP{C:Ctx}{fn:Func}{code:Code}{args:zb}{sh:Sh}{r y z:O}(b:fn.body=some code)
  (h:ZX C code ⟨vn args,fun _=>none,0⟩ (Vq C.P fn (c9 sh r y z))):∃a,zv C fn args=some a/\wL a (.w5 [r,y,z]):=by
 obtain⟨x,Y',Z',c,a,d,e⟩:=qF b h;exact⟨.w5 [a,y,z],by unfold zv;simp only[c];exact d,e ▸ (xr.cons (Vy sh a) (.cons (wL.refl y) (.cons (wL.refl z) .nil))).w5⟩
end Go.AM
namespace Go.Q
def Xv(s:za):yK×Int×Bool:=if 3<(qy (Lib.cut s [45]).1 [46]).length then(dG,0,false)else
 match jz (wO,false) 0 (qy (Lib.cut s [45]).1 [46])with
 |none=>(dG,0,false)
 |some st=>if(xV s).any yG=true then(⟨st.1.n0,st.1.n1,st.1.n2,xV s⟩,0,false)else(⟨st.1.n0,st.1.n1,st.1.n2,xV s⟩,st.1.has,(!(Lib.cut s [45]).2.2||st.1.has==3)&&decide ((xV s).length<=10))
def IC(s:za):O:=.w5 [.agg (Xv s).1.V,int (Xv s).2.1,wb (Xv s).2.2]
theorem ID{st:Part×Bool}{k:Nat}{l:List za}(h:k<l.length):jz st k (l.drop k)=match jT st k l[k]with
  |some q=>jz q (k+1) (l.drop (k+1))
  |none=>none:=by
 rw[zc h];rfl
noncomputable abbrev Crrv:Ctx:=zV prog [(268,hP (Yx sq fun _ _=>True)),(201,jm [] FSp),(294,hP FNm),(295,hP (FS fun l=>!yG l))]
theorem zbV:Gd Crrv:=zW mixed ⟨om,Ya,sN,BR,trivial⟩
theorem fc(t:za)(ht:t.length+1<=zA):∃r0,zv Crrv f254 [str t]=some r0/\wL r0 (IC t):=by
 refine sP (sh:=.g vO) (r:=.agg (Xv t).1.V) (y:=int (Xv t).2.1) (z:=wb (Xv t).2.2) rfl ?_;have hcl:=Sb t [45];have u:=fun Y Z=>oj t [45] Y Z (by omega) (by decide)
 have E:=fun Y Z=>Qn (Lib.cut t [45]).1 [46] Y Z (by omega) (by decide) (by decide)
 have v:=fun Y Z=>Qn (Lib.cut t [45]).2.1 [46] Y Z (by omega) (by decide) (by decide)
 have G:∀p∈qy (Lib.cut t [45]).1 [46],p.length<=zA:=fun p Y=>by have:=xM Y;omega
 have H:∀p∈qy (Lib.cut t [45]).2.1 [46],p.length<=zA:=fun p Y=>by have:=xM Y;omega
 have I:(qy (Lib.cut t [45]).2.1 [46]).length<=zA:=by have:=Zu (s:=(Lib.cut t [45]).2.1) (sep:=[46]) (by simp);omega
 have m:xV t=if(Lib.cut t [45]).2.2=true then qy (Lib.cut t [45]).2.1 [46]else[]:=rfl
 have a:Xv t=if 3<(qy (Lib.cut t [45]).1 [46]).length then(dG,0,false)else
   match jz (wO,false) 0 (qy (Lib.cut t [45]).1 [46])with
   |none=>(dG,0,false)
   |some st=>if(xV t).any yG=true then(⟨st.1.n0,st.1.n1,st.1.n2,xV t⟩,0,false)else(⟨st.1.n0,st.1.n1,st.1.n2,xV t⟩,st.1.has,(!(Lib.cut t [45]).2.2||st.1.has==3)&&decide ((xV t).length<=10)):=rfl
 obtain⟨l,hl⟩:=wZ (qy (Lib.cut t [45]).1 [46]);obtain⟨n,w⟩:=wZ (qy (Lib.cut t [45]).2.1 [46]);obtain⟨c1,c2,c3,hc⟩:∃c1 c2 c3,Lib.cut t [45]=(c1,c2,c3):=⟨_,_,_,rfl⟩;rw[hc]at u E v hl w m a G H I;simp only at u E v hl w m a G H I;rw[hl]at a G;rw[w]at m H I;simp only[hl,VD]at E;simp only[w,VD]at v;unfold zA at I;by_cases h3:3<l.length
 ·have Q:(3:Int)<l.length:=by omega
  rw[zd h3]at a;simp[u,E,h3,Q,IC,a,c9,dG,yK.V,f254]
 have Q:¬(3:Int)<l.length:=by omega
 rw[ze h3]at a;simp[u,E,h3,Q];refine zL (fun k σ Y Z=>∃(p:Part) (op:Bool),p.pre=[]/\σ 2=.ref 0 0 0/\σ 3=int p.has/\σ 4=wb false/\σ 6=str c2/\σ 7=wb c3/\σ 8=.ref 1 0 0/\σ 9=wb op/\σ 29=.own 2 0 l.length/\σ 30=int l.length/\σ 31=int k/\p.has<=k/\0<=p.has/\Z=3 /\
   Y 0=some ⟨204,4,false,[[int 0,int 0,int 0,.nil]]⟩/\Y 1=some ⟨194,3,false,[[int p.n0,int p.n1,int p.n2]]⟩/\Y 2=some ⟨9,1,true,zy l⟩/\jz (wO,false) 0 l=jz (p,op) k (l.drop k)) l.length
  ⟨wO,false,rfl,by simp,by simp[wO],by simp,by simp,by simp,by simp,by simp,by simp,by simp,by simp,by simp[wO],by simp[wO],by simp,by simp,by simp[wO],(by simp;rfl),by simp⟩ ?_
 rintro k σ Y Z hk ⟨p,op,R,x,o,A,J,B,K,L,c,d,e,hh,hh0,hnx,C,F,M,q⟩;subst hnx;by_cases b:k<l.length
 ·have hn:=fun Y Z=>Tz l[k] Y Z (G _ (zi b))
  have X:=qe k;have N:=wq (p.has+1);have i:(l[k]==[120]||l[k]==[88]||l[k]==[42])=yO l[k]:=rfl;have f:=KL b;have D:(zy l).length=l.length:=by simp[zy]
  rw[ID b]at q;cases ho:yO l[k]
  ·rw[ho]at i;cases hv:(Zm l[k]).isSome
   ·have hs:jT (p,op) k l[k]=none:=by simp[jT,ho,hv]
    rw[hs]at q;rw[q]at a;simp only at a;simp[x,o,A,J,B,K,L,c,d,e,C,F,M,b,D,f,hn,i,hv,IC,a,c9,dG,yK.V,f254]
   ·cases op
    ·have hs:jT (p,false) k l[k]=some (p.put k ((Zm l[k]).getD 0),false):=by simp[jT,ho,hv]
     rw[hs]at q;simp only at q;obtain⟨n0,n1,n2,has,pre⟩:=p;simp only at R hh hh0 N F o;subst R;have hk3:k=0\/k=1\/k=2:=by omega
     rcases hk3 with rfl|rfl|rfl
     ·have j:(0:Int)<(l.length:Int):=by omega
      simp[x,o,A,J,B,K,L,c,d,e,C,F,M,b,j,D,f,hn,i,hv,X,N];refine⟨by omega,_,?_,?_,?_,?_,?_,(by simpa using q)⟩<;>simp[Part.put]<;>omega
     ·have j:(1:Int)<(l.length:Int):=by omega
      simp[x,o,A,J,B,K,L,c,d,e,C,F,M,b,j,D,f,hn,i,hv,X,N];refine⟨by omega,_,?_,?_,?_,?_,?_,(by simpa using q)⟩<;>simp[Part.put]<;>omega
     ·have j:(2:Int)<(l.length:Int):=by omega
      simp[x,o,A,J,B,K,L,c,d,e,C,F,M,b,j,D,f,hn,i,hv,X,N];refine⟨by omega,_,?_,?_,?_,?_,?_,(by simpa using q)⟩<;>simp[Part.put]<;>omega
    ·have hs:jT (p,true) k l[k]=none:=by simp[jT,ho]
     rw[hs]at q;rw[q]at a;simp only at a;simp[x,o,A,J,B,K,L,c,d,e,C,F,M,b,D,f,hn,i,IC,a,c9,dG,yK.V,f254]
  ·have hs:jT (p,op) k l[k]=some (p,true):=by simp[jT,ho]
   rw[hs]at q;rw[ho]at i;simp[x,o,A,J,B,K,L,c,d,e,C,F,M,b,D,f,i,X];exact⟨by omega,p,R,rfl,by omega,hh0,⟨rfl,rfl,rfl⟩,q⟩
 ·obtain rfl:k=l.length:=by omega
  rw[zp]at q;simp only[jz]at q;rw[q]at a;simp only at a;have hbe:((p.has:Int)==3)=(p.has==3):=rfl;cases c3
  ·rw[ze (by simp)]at m;rw[m]at a;simp at a;simp[x,o,A,J,B,K,L,c,d,e,C,F,M,qv,qS,IC,a,c9,yK.V,zy,f254]
  ·rw[zd rfl]at m;rw[m]at a;have P:(zy n).length=n.length:=by simp[zy]
   simp[x,o,A,J,B,K,L,c,d,e,C,F,M,v,qv,qS];refine zL (fun k σ Y Z=>σ 2=.ref 0 0 0/\σ 3=int p.has/\σ 4=wb false/\σ 7=wb true/\σ 75=.own 3 0 n.length/\σ 76=int n.length/\σ 77=int k/\Y 0=some ⟨204,4,false,[[int p.n0,int p.n1,int p.n2,.own 3 0 n.length]]⟩/\Y 3=some ⟨9,1,true,zy n⟩/\n.any yG=(n.drop k).any yG) n.length
    ⟨by simp[x],by simp[o],by simp[A],by simp[B],by simp,by simp,by simp,by simp,(by simp;rfl),by simp⟩ ?_
   clear x o A J B K L c d e C F M hk b hh σ Y;rintro k σ Y Z hk ⟨x,o,A,B,S,T,U,C,b3,W⟩;by_cases b:k<n.length
   ·have X:=qe k;have f:=KL b;have hip:=fun Y Z=>vw (fun l=>!yG l) n[k] Y Z (H _ (zi b))
    rw[zc b,wX]at W;cases hb:yG n[k]
    ·rw[hb,yN]at W;simp[x,o,A,B,S,T,U,C,b3,b,P,f,hip,hb,X];exact⟨by omega,W⟩
    ·rw[hb,V3]at W;rw[W,zd rfl]at a;simp[x,o,A,B,S,T,U,C,b3,b,P,f,hip,hb,IC,a,c9,yK.V,f254]
   ·obtain rfl:k=n.length:=by omega
    rw[zp,List.any_nil]at W;rw[W,ze (by simp)]at a;have hd:decide (n.length<=10)=decide ((n.length:Int)<=10):=by congr 1;exact propext ⟨fun h=>by omega,fun h=>by omega⟩
    rw[hd]at a;simp[x,o,A,B,S,T,U,C,b3,IC,a,c9,yK.V,f254]
theorem JA:zg prog 254 (hP (bz IC)):=
 W6 (fn:=f254) zbV (qX func254) false [] _ fun args r h w S vs a=>by obtain⟨l,rfl,Y,rfl⟩:=zO h;obtain⟨b,c,d⟩:=fc l Y;exact⟨_,b,a,by simp[f254],c,d⟩
theorem Me(s:za):QD s=if(Xv s).2.2=true/\(Xv s).2.1≠0 then some ⟨(Xv s).1.a,(Xv s).1.b,(Xv s).1.c,(Xv s).2.1,(Xv s).1.pre⟩else none:=by
 unfold QD rdR Xv;by_cases e:3<(qy (Lib.cut s [45]).1 [46]).length
 ·rw[zd e,zd e];simp
 rw[ze e,ze e];cases jz (wO,false) 0 (qy (Lib.cut s [45]).1 [46])with
 |none=>simp
 |some st=>
  simp only;cases h:(xV s).any yG
  ·simp only[zP,wF];by_cases f:((Lib.cut s [45]).2.2=false\/st.1.has=3)/\(xV s).length<=10
   ·rw[zd f];have d:((!(Lib.cut s [45]).2.2||st.1.has==3)&&decide ((xV s).length<=10))=true:=by simp only[zE,qx,Q6,jY,zS];exact f
    simp only[d,Gr];by_cases g:st.1.has=0
    ·simp[g]
    ·simp[g]
   ·rw[ze f];have d:¬((!(Lib.cut s [45]).2.2||st.1.has==3)&&decide ((xV s).length<=10))=true:=by simp only[zE,qx,Q6,jY,zS];exact f
    simp only[d,false_and,wF];simp
  ·simp
theorem E7:zv C0 f252 []=some (.agg wv.V):=by refine zn rfl ?_;simp[wv,Cut.V,zy,str,qv,qS,zt,zJ,zr,wK,f252]
theorem fe:zg prog 252 (qP [] (Jt (.agg wv.V))):=
 yf (fn:=f252) je (qX func252) _ _ fun args r h=>by obtain⟨_,rfl,_,rfl⟩:=zO h;exact⟨by simp[f252],_,E7,wL.refl _⟩
def yK.part(v:yK)(m:Int):Part:=⟨v.a,v.b,v.c,m,v.pre⟩
def yK.ok(v:yK):Prop:=(0<=v.a/\v.a<=999999)/\(0<=v.b/\v.b<=999999)/\(0<=v.c/\v.c<=999999)/\v8 v.pre
noncomputable def AB (f:yK->Int->O) (pre:Int->Prop):zb->Option O:=qd (α:=yK×Int) (fun a=>[.agg a.1.V,int a.2]) (fun a=>a.1.ok/\pre a.2) (fun a=>f a.1 a.2)
theorem zfp:∀a b:yK×Int,[O.agg a.1.V,int a.2]=[O.agg b.1.V,int b.2]->a=b:=by rintro⟨f,g⟩ ⟨h,i⟩ e;simp only[zj,zG]at e;obtain⟨c,d⟩:=e;injection c with c;rw[KM c,qR d]
theorem ah(f:yK->Int->O)(pre:Int->Prop)(v:yK)(i:Int)(u:O)(Y:Hp)(Z:Nat)(h:v.ok)(hi:pre i)(b:(Sh.g vO).fix u=.agg v.V)(c:qt Y u=some (u,Y))(d:u.noOwn=true):qP [.g vO] (AB f pre) [u,int i] Y Z=some (f v i,Y,Z):=
 xv (show zC Y [u,int i]=some ([u,int i],Y) by simp only[zC,c];rfl) (by show AB f pre [(Sh.g vO).fix u,int i]=_;rw[b];exact qD (V:=fun a:yK×Int=>[O.agg a.1.V,int a.2]) (a:=(v,i)) zfp ⟨h,hi⟩) (.inr (by rw[wi,d];rfl))
theorem K2(v:yK):(Sh.g vO).fix (.agg v.V)=.agg v.V:=by simp[yK.V]
theorem aj(v:yK)(Y:Hp):qt Y (.agg v.V)=some (.agg v.V,Y):=by simp[yK.V]
theorem ak(v:yK):O.noOwn (.agg v.V)=true:=by simp[yK.V]
def ZA(v:yK)(i:Int):O:=vQ (v.part 3) i.toNat
noncomputable abbrev Crra:Ctx:=Zj prog [] 7 [(6,4),(28,4),(30,4),(32,4),(38,4)] [4,6,28,30,32,38] []
theorem zbW:Gd Crra:=uq mixed trivial trivial
theorem BW(v:yK)(i:Int)(f:v.ok)(hi:0<=i/\i<3):∃d,zv Crra f296 [.agg v.V,int i]=some d/\wL d (ZA v i):=by
 obtain⟨a,b,c,e⟩:=v;obtain⟨⟨h,j⟩,⟨k,l⟩,⟨m,n⟩,_⟩:=f;simp only at h j k l m n;refine ji (sh:=.g kn) rfl ?_;have o:=wq (a+1);have p:=wq (b+1);have q:=wq (c+1);rcases(by omega:i=0\/i=1\/i=2)with rfl|rfl|rfl
 ·simp[yK.V,qv,qS,o];rw[zR];simp;rw[zR];simp;rw[zR];simp;rw[kN (yB (Jc (by simp;exact⟨rfl,rfl,rfl⟩) (by simp;exact⟨rfl,rfl,rfl⟩) (by omega) (by simp;rfl) rfl) (yB (ky (by simp;rfl)) (yB (ky (by simp;rfl)) (yB (ky (by simp;rfl)) (yB (ky (by simp;rfl)) (Jb _))))))
   (xW (by simp;exact⟨rfl,rfl,rfl⟩) (by simp) (by simp;rfl) rfl (xW (by simp;exact⟨rfl,rfl,rfl⟩) (by simp) (by simp;rfl) rfl (vq (by simp;rfl) (vq (by simp;rfl) (vq (by simp;rfl) (vq (by simp;rfl) (KQ _)))))))]
  simp[qv,qS,zt,zJ,zr,qB,ZA,yK.part,vQ,jL,xm,Cut.V,zy,str,f296];exact⟨_,⟨rfl,rfl⟩,rfl⟩
 ·simp[yK.V,qv,qS,p];rw[zR];simp;rw[zR];simp;rw[kN (yB (Jc (by simp;exact⟨rfl,rfl,rfl⟩) (by simp;exact⟨rfl,rfl,rfl⟩) (by omega) (by simp;rfl) rfl) (yB (ky (by simp;rfl)) (yB (ky (by simp;rfl)) (yB (ky (by simp;rfl)) (yB (ky (by simp;rfl)) (Jb _))))))
   (xW (by simp;exact⟨rfl,rfl,rfl⟩) (by simp) (by simp;rfl) rfl (xW (by simp;exact⟨rfl,rfl,rfl⟩) (by simp) (by simp;rfl) rfl (vq (by simp;rfl) (vq (by simp;rfl) (vq (by simp;rfl) (vq (by simp;rfl) (KQ _)))))))]
  simp[qv,qS,zt,zJ,zr,qB,ZA,yK.part,vQ,jL,xm,Cut.V,zy,str,f296];exact⟨_,⟨rfl,rfl⟩,rfl⟩
 ·simp[yK.V,qv,qS,q];rw[zR];simp;rw[kN (yB (Jc (by simp;exact⟨rfl,rfl,rfl⟩) (by simp;exact⟨rfl,rfl,rfl⟩) (by omega) (by simp;rfl) rfl) (yB (ky (by simp;rfl)) (yB (ky (by simp;rfl)) (yB (ky (by simp;rfl)) (yB (ky (by simp;rfl)) (Jb _))))))
   (xW (by simp;exact⟨rfl,rfl,rfl⟩) (by simp) (by simp;rfl) rfl (xW (by simp;exact⟨rfl,rfl,rfl⟩) (by simp) (by simp;rfl) rfl (vq (by simp;rfl) (vq (by simp;rfl) (vq (by simp;rfl) (vq (by simp;rfl) (KQ _)))))))]
  simp[qv,qS,zt,zJ,zr,qB,ZA,yK.part,vQ,jL,xm,Cut.V,zy,str,f296];exact⟨_,⟨rfl,rfl⟩,rfl⟩
theorem ck:zg prog 296 (qP [.g vO] (AB ZA fun i=>0<=i/\i<3)):=
 yf (fn:=f296) zbW (qX func296) _ _ fun args r h=>by obtain⟨⟨p,i⟩,rfl,⟨a,b⟩,rfl⟩:=zO h;obtain⟨c,d,e⟩:=BW p i a b;exact⟨by simp[f296],c,d,e⟩
def WS(v:yK)(m:Int):O:=JZ (v.part m)
noncomputable abbrev Crup:Ctx:=zV prog [(296,qP [.g vO] (AB ZA fun i=>0<=i/\i<3))]
theorem zbX:Gd Crup:=zW mixed ⟨ck,trivial⟩
theorem lz(v:yK)(m n:Int)(i:Nat):jL (v.part m) i=jL (v.part n) i/\xm (v.part m) i=xm (v.part n) i:=by
 match i with
 | 0=>exact⟨rfl,rfl⟩
 | 1=>exact⟨rfl,rfl⟩
 |_+2=>exact⟨rfl,rfl⟩
theorem E8(v:yK)(m:Int)(e:v.ok)(k:1<=m/\m<=3):zv Crup f292 [.agg v.V,int m]=some (WS v m):=by
 refine zn rfl ?_;have b:=fun Y Z=>ah ZA (fun i=>0<=i/\i<3) v (m-1) (.agg v.V) Y Z e
 obtain⟨f,g⟩:=lz v m 3 (m-1).toNat;have h:=wq (m-1);by_cases d:m=3
 ·subst d;simp[yK.V,qv,qS,WS,JZ,xe,QV,yK.part,Cut.V,wK,f292]
 ·have b:=fun Y Z=>b Y Z (by omega) (K2 v) (aj v Y) (ak v)
  have c:=jN d;have a:m<3:=by omega
  simp only[ZA,vQ,yK.V,Cut.V,<-f,<-g]at b;have j:(v.part m).has=m:=rfl;simp[yK.V,c,h,b,WS,JZ,xe,QV,j,a,Cut.V,wK,f292]
theorem ff:zg prog 292 (qP [.g vO] (AB WS fun m=>1<=m/\m<=3)):=
 yf (fn:=f292) zbX (qX func292) _ _ fun args r h=>by obtain⟨⟨p,i⟩,rfl,⟨a,b⟩,rfl⟩:=zO h;exact⟨by simp[f292],_,E8 p i a b,wL.refl _⟩
noncomputable abbrev Crct:Ctx:=zV prog []
theorem zbY:Gd Crct:=qC mixed trivial
def Zk(v:yK)(m:Int):O:=int (kf (v.part m))
theorem E9(v:yK)(m:Int)(k:1<=m/\m<=3):zv Crct f297 [.agg v.V,int m]=some (Zk v m):=by
 obtain⟨a,b,c,e⟩:=v;refine zn rfl ?_;rcases(by omega:m=1\/m=2\/m=3)with rfl|rfl|rfl
 ·simp[yK.V,zt,zJ,zr,jO];rw[zR];by_cases f:a=0
  ·have d:(a != 0)=false:=by simpa using f
   simp[d];rw[zR];simp[Zk,kf,yK.part,f297]
  ·have d:=vX f;simp[d,Zk,kf,yK.part,f297]
 ·simp[yK.V,zt,zJ,zr,jO];rw[zR];by_cases f:a=0
  ·have d:(a != 0)=false:=by simpa using f
   simp[d];rw[zR];by_cases h:b=0
   ·have g:(b != 0)=false:=by simpa using h
    simp[g];rw[zR];simp[Zk,kf,yK.part,f,f297]
   ·have g:=vX h;simp[g,Zk,kf,yK.part,f,f297]
  ·have d:=vX f;simp[d,Zk,kf,yK.part,f,f297]
 ·simp[yK.V,zt,zJ,zr,jO];rw[zR];by_cases f:a=0
  ·have d:(a != 0)=false:=by simpa using f
   simp[d];rw[zR];by_cases h:b=0
   ·have g:(b != 0)=false:=by simpa using h
    simp[g];rw[zR];by_cases j:c=0
    ·have i:(c != 0)=false:=by simpa using j
     simp[i];rw[zR];simp[Zk,kf,yK.part,f,h,f297]
    ·have i:=vX j;simp[i,Zk,kf,yK.part,f,h,f297]
   ·have g:=vX h;simp[g,Zk,kf,yK.part,f,h,f297]
  ·have d:=vX f;simp[d,Zk,kf,yK.part,f,f297]
theorem BX:zg prog 297 (qP [.g vO] (AB Zk fun m=>1<=m/\m<=3)):=
 yf (fn:=f297) zbY (qX func297) _ _ fun args r h=>by obtain⟨⟨p,i⟩,rfl,⟨b,a⟩,rfl⟩:=zO h;exact⟨by simp[f297],_,E9 p i a,wL.refl _⟩
noncomputable abbrev Crut:Ctx:=zV prog [(299,qP [.g kn,.g kn] (Ee fun v w=>int (wV v w)))]
theorem zbZ:Gd Crut:=zW mixed ⟨Qt,trivial⟩
theorem IE(x y:Cut)(c:x.v.small)(d:y.v.small):∃b,zv Crut f293 [.agg x.V,.agg y.V]=some b/\wL b (VI x y):=by
 refine QO (sh:=.s 11 jW) rfl ?_;have a:=fun Y Z=>Bs x y (.agg x.V) (.agg y.V) Y Z (by simp[Cut.V]) (by simp[Cut.V]) (by simp[Cut.V]) c d
 simp only[Cut.V]at a;by_cases h:0<=wV x y
 ·simp[Cut.V,a,h,XP,VI,gD,qn,f293]
 ·simp[Cut.V,a,h,qv,qS,zt,zJ,zr,XP,VI,gD,qn,cS,wQ.V,f293]
theorem lA:zg prog 293 (qP [.g kn,.g kn] (Ee VI)):=
 yf (fn:=f293) zbZ (qX func293) _ _ fun args r h=>by obtain⟨⟨v,w⟩,rfl,⟨a,b⟩,rfl⟩:=zO h;obtain⟨c,d,e⟩:=IE v w a b;exact⟨by simp[f293],c,d,e⟩
noncomputable abbrev Crop:Ctx:=zV prog [(265,hP (Yx M7 fun _ _=>True))]
theorem zb0:Gd Crop:=zW mixed ⟨l0,trivial⟩
def IF(s:za):O:=str (wW wM s).1
theorem pK(s:za)(h:s.length<=zA):zv Crop f290 [str s]=some (IF s):=by
 refine zn rfl ?_;have l:∀Y Z,zt prog Y Z 38 7 [(0,str [62,61]),(1,str [60,61]),(2,str [62]),(3,str [60]),(4,str [61]),(5,str [126]),(6,str [94])]=some (.own Z 0 7,qq Y Z (some ⟨9,1,true,zy wM⟩),Z+1):=fun Y Z=>by simp[zt,zJ,zr,wM,str]
 simp[str]at l;simp[l];refine zL (fun k σ Y Z=>σ 0=str s/\σ 5=.own 0 0 7/\σ 6=int 7/\σ 7=int k/\Y 0=some ⟨9,1,true,zy wM⟩/\wW wM s=wW (wM.drop k) s) 7 ⟨by simp,by simp,by simp,by simp,by simp,by simp⟩ ?_;rintro k σ Y Z p ⟨f,g,i,b,m,a⟩;by_cases c:k<7
 ·have e:k<wM.length:=c;have j:wM[k].length<=zA:=by
   have:∀q∈wM,q.length<=zA:=by decide
   exact this _ (zi e)
  have n:=fun Y Z=>mJ s wM[k] Y Z h j
  have o:=qe k;have d:(k:Int)<7:=by omega
  rw[zc e]at a;simp only[wW]at a;by_cases Y:(wM[k]).isPrefixOf s=true
  ·rw[zd Y]at a;simp[f,g,i,b,m,d,c,e,n,Y,o,IF,a,wK,f290]
  ·rw[ze Y]at a;have Y':(wM[k]).isPrefixOf s=false:=MG.2 Y;simp[f,g,i,b,m,d,c,e,n,Y',o];exact⟨by omega,a⟩
 ·obtain rfl:k=7:=by omega
  rw[show wM.drop 7=[]from rfl]at a;simp only[wW]at a;simp[f,g,i,b,IF,a,wK,f290]
theorem mu:zg prog 290 (hP (PE IF)):=
 vM zb0 func290 false [] fun l Y=>⟨by simp[f290],_,pK l Y,z8 _⟩
def sb(c:UInt8):za->List za
 |[]=>[[]]
 |b::l=>if b=c then[]::sb c l else match sb c l with
  |[]=>[[b]]
  |p::a=>(b::p)::a
theorem TA(c:UInt8):∀l,∃p a,sb c l=p::a
 |[]=>⟨[],[],rfl⟩
 |b::l=>by
  unfold sb;split
  ·exact⟨_,_,rfl⟩
  ·split
   ·exact⟨_,_,rfl⟩
   ·exact⟨_,_,rfl⟩
theorem al{s sep:za}(h:Lib.index s sep=-1):qy s sep=[s]:=by unfold qy Lib.split;rw[U5 h];rfl
theorem da{s sep:za}{i:Nat}(a:sep≠[])(h:Lib.index s sep=i):qy s sep=s.take i::qy (s.drop (i+sep.length)) sep:=by unfold qy Lib.split;rw[zfK a h,Q5 1,cI h]
theorem db(c:UInt8):∀s:za,qy s [c]=sb c s
 |[]=>al rfl
 |b::l=>by
  have a:=db c l;by_cases h:b=c
  ·subst h;have hi:Lib.index (b::l) [b]=((0:Nat):Int):=by simp[Lib.index]
   rw[da (by simp) hi];simp[sb,a]
  ·have f:¬c=b:=fun e=>h e.symm
   rcases Lib.index_spec l [c]with⟨d,_⟩|⟨i,d,_⟩
   ·have hi:Lib.index (b::l) [c]=-1:=by simp[Lib.index,f,d]
    rw[al hi];rw[al d]at a;simp[sb,h,<-a]
   ·have hi:Lib.index (b::l) [c]=((i+1:Nat):Int):=by
     have:¬((i:Int)=-1):=by omega
     simp[Lib.index,f,d,this]
    rw[da (by simp) hi];rw[da (by simp) d]at a;simp only[sb,ze h,<-a];simp
def jj(s:za):List za:=wR (sb 32 s)
theorem im(s:za):wR (qy s [32])=jj s:=by rw[db];rfl
theorem BZ:jj []=[]:=rfl
theorem ao(x:za)(l:List za):wR (x::l)=if x=[]then wR l else x::wR l:=by cases x<;>simp[wR,r9]
theorem TC(s:za):jj (32::s)=jj s:=by simp[jj,sb,ao]
theorem bf:∀s:za,jj (Lib.trimLeftB s 32)=jj s
 |[]=>rfl
 |b::l=>by
  unfold Lib.trimLeftB;by_cases h:b=32
  ·subst h;rw[Gt (by simp),TC];exact bf l
  ·rw[Qd (by simpa using h)]
theorem Fa(c:UInt8):∀s:za,sb c (s++[c])=sb c s++[[]]
 |[]=>by simp[sb]
 |b::l=>by
  have a:=Fa c l;obtain⟨p,d,e⟩:=TA c l;by_cases h:b=c
  ·simp[sb,h,a]
  ·simp[sb,h,a,e]
theorem TD(s:za):jj (s++[32])=jj s:=by unfold jj;rw[Fa];simp[wR,r9]
theorem Om(s:za):jj (Lib.trimRightB s 32)=jj s:=by
 have a:∀m:za,jj ((m.dropWhile (·==32)).reverse)=jj m.reverse:=by
  intro m
  induction m with
  |nil=>rfl
  |cons b m c=>
   by_cases h:b=32
   ·subst h;rw[Gt (by simp),c,List.reverse_cons,TD]
   ·rw[Qd (by simpa using h)]
 have:=a s.reverse;rwa [List.reverse_reverse]at this
theorem TE(s:za):jj (Lib.trimB s 32)=jj s:=by unfold Lib.trimB;rw[bf,Om]
def hd(s:za):za:=s.takeWhile (· != 32)
def tl(s:za):za:=s.dropWhile (· != 32)
theorem lB(s:za):hd s++tl s=s:=List.takeWhile_append_dropWhile
theorem B0:∀(u:za),(∀c∈u,c≠32)->∀r,(sb 32 (u++32::r)=u::sb 32 r)/\sb 32 u=[u]
 |[],_,r=>⟨by simp[sb],rfl⟩
 |b::u,h,r=>by
  obtain⟨d,e⟩:=B0 u (fun c f=>h c (by simp[f])) r;have a:¬b=32:=h b (by simp);constructor
  ·rw[wB,sb,ze a,d]
  ·rw[sb,ze a,e]
theorem TF(s:za):∀c∈hd s,c≠32:=fun c a=>by have:=List.all_takeWhile (p:=fun c:UInt8=>c != 32) (l:=s);rw[ql]at this;simpa using this c a
theorem B5(s:za):tl s=[]\/∃r,tl s=32::r:=by
 unfold tl
 induction s with
 |nil=>exact .inl rfl
 |cons b s a=>
  by_cases h:b=32
  ·subst h;rw[Qd (by simp)];exact .inr ⟨s,rfl⟩
  ·rw[Gt (by simpa using h)];exact a
theorem Fb{s:za}(h:hd s≠[]):jj s=hd s::jj (tl s):=by
 have e:=lB s;rcases B5 s with a|⟨r,a⟩
 ·rw[a,ku]at e;rw[a,BZ]
  conv=>lhs;rw[<-e]
  unfold jj;rw[(B0 (hd s) (TF s) []).2,ao,ze h];rfl
 ·rw[a]at e⊢;rw[TC]
  conv=>lhs;rw[<-e]
  unfold jj;rw[(B0 (hd s) (TF s) r).1,ao,ze h]
def Mf(s:za):Prop:=s=[]\/hd s≠[]
theorem J6:∀s:za,Mf (Lib.trimLeftB s 32)
 |[]=>.inl rfl
 |b::l=>by
  unfold Lib.trimLeftB;by_cases h:b=32
  ·subst h;rw[Gt (by simp)];exact J6 l
  ·rw[Qd (by simpa using h)];exact .inr (by simp[hd,h])
theorem TG{s:za}(h:Mf s):Lib.trimLeftB s 32=s:=by
 cases s with
 |nil=>rfl
 |cons b l=>
  rcases h with h|h
  ·cases h
  ·unfold Lib.trimLeftB;by_cases a:b=32
   ·subst a;exact absurd (by simp[hd]) h
   ·rw[Qd (by simpa using a)]
theorem bg(s:za):(Lib.trimLeftB s 32).length<=s.length:=(List.dropWhile_sublist _).length_le
theorem zfq{g:za}(d:∀c∈g,c≠32)(s:za):g.isPrefixOf s=g.isPrefixOf (hd s):=by
 induction g generalizing s with
 |nil=>simp
 |cons a g h=>
  cases s with
  |nil=>rfl
  |cons b s=>
   have i:=d a (by simp);by_cases f:b=32
   ·subst f;have e:hd (32::s)=[]:=by simp[hd]
    rw[e];simp[List.isPrefixOf,i]
   ·have e:hd (b::s)=b::hd s:=by simp[hd,f]
    rw[e];simp only[List.isPrefixOf];rw[h (fun c j=>d c (by simp[j])) s]
theorem TH:∀(gs:List za) (_:∀g∈gs,∀c∈g,c≠32) (s:za),wW gs s=((wW gs (hd s)).1,(wW gs (hd s)).2++tl s)
 |[],_,s=>by simp[wW,lB]
 |g::gs,h,s=>by
  have Y:=zfq (h g (by simp)) s;simp only[wW];rw[Y];split
  ·rename_i a;have b:=(Gq.1 a).length_le;have e:=lB s
   conv=>lhs;rw[<-e]
   rw[List.drop_append_of_le_length b]
  ·exact TH gs (fun g d=>h g (by simp[d])) s
theorem zfr:∀g∈wM,∀c∈g,c≠32:=by decide
theorem Q3:∀(gs:List za) (s:za),(wW gs s).2=s.drop (wW gs s).1.length
 |[],s=>rfl
 |g::gs,s=>by
  simp only[wW];split
  ·rfl
  ·exact Q3 gs s
theorem IG(gs:List za)(s:za):(wW gs s).2 <:+ s:=by rw[Q3];exact List.drop_suffix _ _
abbrev cn:=za×za
def kA:List za->Option (List cn)
 |[]=>some []
 |[w]=>if(wW wM w).2=[]then none else some [wW wM w]
 |w::x::a=>if(wW wM w).2=[]then(kA a).map (((wW wM w).1,x)::·)else(kA (x::a)).map (wW wM w::·)
theorem Jf(w:za)(a:List za)(h:(wW wM w).2≠[]):kA (w::a)=(kA a).map (wW wM w::·):=by
 cases a with
 |nil=>simp[kA,h]
 |cons x a=>simp[kA,h]
def B6(s:za):cn×za:=((((wW wM s).1,hd (Lib.trimLeftB (wW wM s).2 32)):cn),tl (Lib.trimLeftB (wW wM s).2 32))
theorem TI{s:za}(h:hd s≠[]):kA (jj s)=if(B6 s).1.2=[]then none else(kA (jj (B6 s).2)).map ((B6 s).1::·):=by
 have f:=TH wM zfr s;obtain⟨o,r,a⟩:∃o r,wW wM (hd s)=(o,r):=⟨_,_,rfl⟩;rw[a]at f;simp only at f;have d:∀c∈r,c≠32:=fun c g=>by have:=IG wM (hd s);rw[a]at this;exact TF s c (this.mem g)
 rw[Fb h];by_cases i:r=[]
 ·subst i;rw[w7]at f;unfold B6;rw[f];simp only;obtain⟨u,j⟩:=wZ (Lib.trimLeftB (tl s) 32);have l:jj (tl s)=jj u:=by rw[<-j,bf]
  have ht:Mf u:=by rw[<-j];exact J6 _
  rw[j,l];rcases ht with rfl|ht
  ·rw[BZ,zd (show hd []=[]from rfl)];simp[kA,a]
  ·rw[Fb ht,ze ht];simp[kA,a]
 ·have m:Lib.trimLeftB (r++tl s) 32=r++tl s:=by
   cases r with
   |nil=>exact absurd rfl i
   |cons b r=>have n:=d b (by simp);exact TG (.inr (by simp[hd,n]))
  have p:hd (r++tl s)=r:=by unfold hd;rw[List.takeWhile_append_of_pos (fun c g=>by simpa using d c g)];rcases B5 s with e|⟨q,e⟩<;>rw[e]<;>simp
  have t:tl (r++tl s)=tl s:=by
   unfold tl;rw[List.dropWhile_append_of_pos (fun c g=>by simpa using d c g)];rcases B5 s with e|⟨q,e⟩
   ·have k:List.dropWhile (fun x=>x != 32) s=[]:=e;rw[k];rfl
   ·have k:List.dropWhile (fun x=>x != 32) s=32::q:=e;rw[k];rfl
  unfold B6;rw[f];simp only;rw[m,p,t,ze i,Jf _ _ (by rw[a];exact i),a]
theorem TJ{s:za}(h:(B6 s).1.2≠[]):(B6 s).2.length<s.length:=by unfold B6 at h⊢;simp only at h⊢;have a:=lB (Lib.trimLeftB (wW wM s).2 32);have b:=zo List.length a;rw[zm]at b;have c:=bg (wW wM s).2;have d:=VL wM s;have e:=jV.2 h;omega
theorem TO.ltle{α:Type}{c:α->α->Int}(h:TO c){x y z:α}(d:c x y<0)(a:c y z<=0):c x z<0:=by
 rcases bN a with a|a
 ·exact h.trans d a
 ·have e:=h.tr x y z (by omega) (by omega);rcases bN e with b|b
  ·exact b
  ·have f:=(h.eq y z).1 a;have g:=(h.eq x z).1 b;have:=h.tr y z x (by omega) (by omega);have:=(h.flip x y).1 d;omega
theorem TO.lelt{α:Type}{c:α->α->Int}(h:TO c){x y z:α}(b:c x y<=0)(d:c y z<0):c x z<0:=by
 have e:=h.tr x y z b (by omega);rcases bN e with a|a
 ·exact a
 ·have f:=(h.eq x z).1 a;have:=h.tr z x y (by omega) b;have:=(h.flip y z).1 d;omega
theorem TO.irr{α:Type}{c:α->α->Int}(h:TO c)(x:α):¬c x x<0:=by rw[h.refl];omega
theorem TO.zd2{α:Type}{c:α->α->Int}(h:TO c){x y:α}(a:¬c x y<0):c y x<=0:=(h.le y x).2 (by omega)
theorem TO.MO{α:Type}{c:α->α->Int}(h:TO c){x y:α}(a:¬c x y<=0):c y x<0:=(h.flip y x).2 (by omega)
theorem orL2{a b:Int}(h:Xq [a,b]=0):a=0/\b=0:=by
 simp only[Xq]at h;split at h
 ·rename_i e;split at h
  ·rename_i c;exact⟨e,c⟩
  ·rename_i c;exact absurd h c
 ·rename_i e;exact absurd h e
theorem orL3{a b c:Int}(h:Xq [a,b,c]=0):a=0/\b=0/\c=0:=by
 simp only[Xq]at h;split at h
 ·rename_i e;split at h
  ·rename_i d;split at h
   ·rename_i f;exact⟨e,d,f⟩
   ·rename_i f;exact absurd h f
  ·rename_i d;exact absurd h d
 ·rename_i e;exact absurd h e
theorem IH{p q:za}(Y:yZ p=true)(j:yZ q=true)(h:Lib.trimLeftB p 48=Lib.trimLeftB q 48):p=q:=by
 have a:∀p:za,yZ p=true->(p=[48]/\Lib.trimLeftB p 48=[])\/(Lib.trimLeftB p 48=p/\p≠[]):=by
  intro p Y;cases p with
  |nil=>simp[yZ]at Y
  |cons c l=>
   by_cases i:c=48
   ·subst i;cases l with
    |nil=>exact .inl ⟨rfl,rfl⟩
    |cons d l=>simp[yZ]at Y
   ·refine .inr ⟨?_,by simp⟩;unfold Lib.trimLeftB;rw[Qd (by simpa using i)]
 rcases a p Y with⟨b,f⟩|⟨b,f⟩<;>rcases a q j with⟨e,g⟩|⟨e,g⟩
 ·rw[b,e]
 ·rw[f,e]at h;exact absurd h.symm g
 ·rw[b,g]at h;exact absurd h f
 ·rw[b,e]at h;exact h
theorem uS{p:za}(h:yG p=false):p≠[]/\(vN p=true->yZ p=true):=by simp only[yG,wP]at h;obtain⟨⟨_,b⟩,a⟩:=h;refine⟨fun e=>by subst e;simp[gq]at b,fun hd=>?_⟩;rw[hd]at a;simpa using a
theorem On{p q:za}(Y:yG p=false)(d:yG q=false)(h:yc p q=0):p=q:=by
 obtain⟨j,e⟩:=uS Y;obtain⟨k,f⟩:=uS d;have g:Zi p=vN p:=by cases p<;>simp_all[Zi]
 have c:Zi q=vN q:=by cases q<;>simp_all[Zi]
 unfold yc at h;rw[g,c]at h;cases a:vN p<;>cases b:vN q<;>simp only[a,b,qV,zP,wF]at h
 ·exact(Za p q).1 h
 ·cases h
 ·cases h
 ·obtain⟨_,i⟩:=orL2 h;exact IH (e a) (f b) ((Za _ _).1 i)
theorem Mg{α:Type}{c:α->α->Int}:∀{a b:List α},(∀x∈a,∀y∈b,c x y=0->x=y)->y0 c a b=0->a=b
 |[],[],_,_=>rfl
 |[],_::_,_,h=>by simp[y0]at h
 |_::_,[],_,h=>by simp[y0]at h
 |x::a,y::b,d,h=>by
  simp only[y0]at h;split at h
  ·rename_i e;rw[d x (by simp) y (by simp) e,Mg (fun u f v g=>d u (by simp[f]) v (by simp[g])) h]
  ·rename_i e;exact absurd h e
theorem mV{a b:Cut}(j:a.xR)(k:b.xR)(h:wV a b=0):a=b:=by
 obtain⟨⟨z,A,B,l⟩,m⟩:=a;obtain⟨⟨C,D,E,n⟩,o⟩:=b;unfold wV at h;split at h
 ·rename_i c;have p:m=o:=by
   split at h
   ·rename_i e;exact e
   ·split at h<;>cases h
  unfold Wb at c;split at c
  ·rename_i d;obtain⟨q,r,s⟩:=orL3 d;have f:=bd q;have g:=bd r;have i:=bd s;have t:l=n:=by
    simp only at c;split at c
    ·rename_i u;split at c
     ·rename_i l2;rw[qo.1 u,qo.1 l2]
     ·cases c
    ·split at c
     ·cases c
     ·exact Mg (fun x v y w=>On (j.2 x v) (k.2 y w)) c
   simp only at f g i;rw[f,g,i,t,p]
  ·rename_i d;exact absurd c d
 ·rename_i c;exact absurd h c
mutual
def Mh(a:Cut->Bool):List Cut->List wQ
 |[]=>[]
 |c::l=>if a c=true then dP a c l else Mh a l
def dP(a:Cut->Bool)(s:Cut):List Cut->List wQ
 |[]=>[yu s]
 |c::l=>if a c=true then dP a s l else cS s c::Mh a l
end
theorem B7(out:List wQ)(s c:Cut):QW (out++[yu s]) c=out++[cS s c]:=by unfold QW;rw[List.getLast?_append];simp[yu,cS]
theorem pL(a:Cut->Bool):∀(l:List Cut) (out:List wQ),(Xi a l (false,out)).2=out++Mh a l/\∀s,(Xi a l (true,out++[yu s])).2=out++dP a s l
 |[],out=>⟨by simp[Xi,Mh],fun s=>by simp[Xi,dP]⟩
 |c::l,out=>by
  have b:∀st,Xi a (c::l) st=Xi a l (ca a st c):=fun _=>rfl
  constructor
  ·rw[b];cases h:a c
   ·have:ca a (false,out) c=(false,out):=by simp[ca,h]
    rw[this,(pL a l out).1,Mh,h,ze (by simp)]
   ·have:ca a (false,out) c=(true,out++[yu c]):=by simp[ca,h]
    rw[this,(pL a l out).2 c,Mh,h,zd rfl]
  ·intro s;rw[b];cases h:a c
   ·have:ca a (true,out++[yu s]) c=(false,out++[cS s c]):=by simp[ca,h,B7]
    rw[this,(pL a l (out++[cS s c])).1,dP,h,ze (by simp),qG];rfl
   ·have:ca a (true,out++[yu s]) c=(true,out++[yu s]):=by simp[ca,h]
    rw[this,(pL a l out).2 s,dP,h,zd rfl]
noncomputable def pM (a b:List wQ):List Cut:=eC (QX (wu a++wu b))
theorem Fc(f:Bool->Bool->Bool)(a b:List wQ):vr f a b=Mh (fun c=>f (yP a c) (yP b c)) (pM a b):=by unfold vr;rw[o9,(pL _ _ []).1];rfl
theorem K3(a b:List wQ)(c:Cut):c∈pM a b↔c∈wu a\/c∈wu b:=by unfold pM;rw[gM,(Zv _).mem_iff,qi]
theorem bh{l:List wQ}(h:kb l):∀c∈wu l,c.xR:=Jv h
theorem VT{a b:List wQ}(c:kb a)(d:kb b):(pM a b).Pairwise fun x y=>wV x y<0:=by
 refine eD _ (fun x e y f h=>?_) (sA _);have g:∀z∈QX (wu a++wu b),z.xR:=fun z i=>by
  rcases qi.1 ((Zv _).mem_iff.1 i)with h|h
  ·exact bh c z h
  ·exact bh d z h
 exact mV (g x e) (g y f) h
def bE:Option Cut->List wQ->Prop
 |_,[]=>True
 |lo,s::l=>(∀q,lo=some q->wV q s.lo<0)/\if s.vW=true then l=[]/\s.hi=We else wV s.lo s.hi<0/\bE (some s.hi) l
theorem Oo{lo:Option Cut}{l:List wQ}(h:bE lo l):bE none l:=by
 cases l with
 |nil=>trivial
 |cons s l=>exact⟨fun q e=>(by cases e),h.2⟩
theorem II(f:Cut->Bool):∀(l:List Cut),l.Pairwise (fun x y=>wV x y<0)->(∀lo:Option Cut,(∀q,lo=some q->∀x∈l,wV q x<0)->bE lo (Mh f l))/\∀(lo:Option Cut) (s:Cut),(∀q,lo=some q->wV q s<0)->(∀x∈l,wV s x<0)->bE lo (dP f s l)
 |[],_=>⟨fun _ _=>trivial,fun lo s h _=>⟨h,by simp[yu]⟩⟩
 |c::l,hs=>by
  obtain⟨g,k⟩:=yj.1 hs;obtain⟨i,j⟩:=II f l k;constructor
  ·intro lo a;rw[Mh];split
   ·exact j lo c (fun q b=>a q b c (by simp)) g
   ·exact i lo fun q b x d=>a q b x (by simp[d])
  ·intro lo s a e;rw[dP];split
   ·exact j lo s a fun x d=>e x (by simp[d])
   ·refine⟨a,?_⟩;simp only[cS,zP,wF];exact⟨e c (by simp),i (some c) fun q b x d=>by injection b with b;rw[<-b];exact g x d⟩
noncomputable def WE (a:Cut->Bool):Bool->List Cut->Cut->Bool
 |d,[],_=>d
 |d,x::l,c=>if wV x c<=0 then WE a (a x) l c else d
theorem Yh:∀{l:List wQ} {lo c:Cut},bE (some lo) l->wV c lo<=0->yP l c=false
 |[],_,_,_,_=>rfl
 |s::l,lo,c,h,e=>by
  have f:wV lo s.lo<0:=h.1 lo rfl;have b:wV c s.lo<0:=wN.lelt e f;have g:xj s c=false:=by have:=(wN.flip c s.lo).1 b;simp[xj,show¬wV s.lo c<=0 by omega]
  have d:yP l c=false:=by
   have a:=h.2;split at a
   ·rw[a.1];rfl
   ·exact Yh a.2 (ZO (wN.trans b a.1))
  unfold yP at d⊢;rw[wX,g,d];rfl
theorem TK(b:Cut->Bool)(c:Cut):∀(l:List Cut),l.Pairwise (fun x y=>wV x y<0)->yP (Mh b l) c=WE b false l c/\∀s,(∀x∈l,wV s x<0)->yP (dP b s l) c=if wV s c<=0 then WE b true l c else false
 |[],_=>⟨rfl,fun s _=>by simp[dP,yP,xj,yu,WE]⟩
 |x::l,hs=>by
  obtain⟨k,r⟩:=yj.1 hs;obtain⟨t,u⟩:=TK b c l r;have h:=II b l r;constructor
  ·rw[Mh,WE];cases v:b x
   ·rw[ze (by simp),t];split
    ·rfl
    ·rename_i w;cases l with
     |nil=>rfl
     |cons y l=>have d:=wN.trans (wN.MO w) (k y (by simp));have:=(wN.flip c y).1 d;simp only[WE];rw[ze (by omega)]
   ·rw[zd rfl,u x k]
  ·intro s i;have m:=i x (by simp);rw[dP,WE];cases v:b x
   ·rw[ze (by simp)];have n:=(h.1 (some x) fun q o y p=>by injection o with o;rw[<-o];exact k y p);have e:yP (cS s x::Mh b l) c=(xj (cS s x) c||yP (Mh b l) c):=rfl;rw[e];by_cases a:wV x c<=0
    ·have f:wV s c<=0:=ZO (wN.ltle m a);have z:xj (cS s x) c=false:=by have:=(wN.le x c).1 a;simp[xj,cS,show¬wV c x<0 by omega]
     rw[z,zd f,zd a,yN,t]
    ·have j:=wN.MO a;have A:yP (Mh b l) c=false:=Yh n (ZO j);rw[A,Bool.or_false,ze a];simp only[xj,cS,j,yN,ziN,zkz];by_cases f:wV s c<=0<;>simp[f]
   ·rw[zd rfl,u s fun y p=>i y (by simp[p])];by_cases a:wV x c<=0
    ·rw[zd a]
    ·rw[ze a];have g:WE b true l c=true:=by
      cases l with
      |nil=>rfl
      |cons y l=>have d:=wN.trans (wN.MO a) (k y (by simp));have:=(wN.flip c y).1 d;simp only[WE];rw[ze (by omega)]
     rw[g]
theorem Fe{a:List wQ}{x c:Cut}(b:wV x c<=0)(h:∀y∈wu a,wV y c<=0->wV y x<=0):yP a c=yP a x:=by
 induction a with
 |nil=>rfl
 |cons s a j=>
  have e:∀c,yP (s::a) c=(xj s c||yP a c):=fun _=>rfl
  rw[e,e,j fun y k=>h y (by rw[wu];exact List.mem_append_right _ k)];congr 1;have d:s.lo∈wu (s::a):=by rw[wu];apply List.mem_append_left;split<;>simp
  have i:wV s.lo c<=0↔wV s.lo x<=0:=⟨h _ d,fun g=>wN.tr _ _ _ g b⟩;unfold xj;cases l:s.vW
  ·have f:s.hi∈wu (s::a):=by rw[wu,l];simp
   have m:wV c s.hi<0↔wV x s.hi<0:=by
    constructor
    ·exact fun g=>wN.lelt b g
    ·intro g;refine Xm fun n=>?_
     have o:=h _ f (wN.zd2 n);exact wN.irr x (wN.ltle g o)
   simp only[i,m]
  ·simp only[i,V3]
theorem uT{a:List wQ}{c:Cut}(h:∀y∈wu a,¬wV y c<=0):yP a c=false:=by
 induction a with
 |nil=>rfl
 |cons s a d=>
  have e:yP (s::a) c=(xj s c||yP a c):=rfl;have b:s.lo∈wu (s::a):=by rw[wu];apply List.mem_append_left;split<;>simp
  rw[e,d fun y f=>h y (by rw[wu];exact List.mem_append_right _ f)];simp[xj,h _ b]
theorem lC(f:Cut->Bool)(c:Cut):∀(l:List Cut) (d:Bool),l.Pairwise (fun x y=>wV x y<0)->(WE f d l c=d/\∀y∈l,¬wV y c<=0)\/∃x∈l,wV x c<=0/\WE f d l c=f x/\∀y∈l,wV y c<=0->wV y x<=0
 |[],d,_=>.inl ⟨rfl,fun y a=>by cases a⟩
 |x::l,d,hs=>by
  obtain⟨j,m⟩:=yj.1 hs;by_cases g:wV x c<=0
  ·right;simp only[WE,zd g];rcases lC f c l (f x) m with⟨e,h⟩|⟨z,k,i,e,h⟩
   ·refine⟨x,by simp,g,e,fun y a b=>?_⟩;rcases zw.1 a with rfl|a
    ·rw[wN.refl];exact ziM _
    ·exact absurd b (h y a)
   ·refine⟨z,by simp[k],i,e,fun y a b=>?_⟩;rcases zw.1 a with rfl|a
    ·exact ZO (j z k)
    ·exact h y a b
  ·left;simp only[WE,ze g];refine⟨trivial,fun y a b=>?_⟩;rcases zw.1 a with rfl|a
   ·exact g b
   ·exact g (ZO (wN.ltle (j y a) b))
theorem pN{f:Bool->Bool->Bool}(i:f false false=false){a b:List wQ}(j:kb a)(k:kb b)(c:Cut):yP (vr f a b) c=f (yP a c) (yP b c):=by
 have hs:=VT j k;rw[Fc,(TK _ c _ hs).1];rcases lC (fun c=>f (yP a c) (yP b c)) c (pM a b) false hs with⟨e,g⟩|⟨x,l,h,e,g⟩
 ·rw[e,uT fun y d=>g y ((K3 a b y).2 (.inl d)),uT fun y d=>g y ((K3 a b y).2 (.inr d)),i]
 ·rw[e,Fe h fun y d=>g y ((K3 a b y).2 (.inl d)),Fe h fun y d=>g y ((K3 a b y).2 (.inr d))]
theorem fg{f:Bool->Bool->Bool}{a b:List wQ}(c:kb a)(d:kb b):bE none (vr f a b):=by rw[Fc];exact(II _ _ (VT c d)).1 none fun q e=>by cases e
theorem B8:∀{l m:List wQ} {lo w:Option Cut},bE lo l->bE w m->kb l->kb m->(∀c,c.xR->yP l c=yP m c)->l=m
 |[],[],_,_,_,_,_,_,_=>rfl
 |[],t::m,_,w,_,u,_,F,h=>by
  have:=h t.lo (F t (by simp)).1;have r:yP (t::m) t.lo=true:=by
   have A:xj t t.lo=true:=by
    have k:=u.2;unfold xj;rw[wN.refl];split at k
    ·rename_i e;simp[e]
    ·simp[k.1]
   unfold yP;rw[wX,A];rfl
  rw[r]at this;cases this
 |s::l,[],lo,_,n,_,G,_,h=>by
  have:=h s.lo (G s (by simp)).1;have r:yP (s::l) s.lo=true:=by
   have A:xj s s.lo=true:=by
    have k:=n.2;unfold xj;rw[wN.refl];split at k
    ·rename_i e;simp[e]
    ·simp[k.1]
   unfold yP;rw[wX,A];rfl
  rw[r]at this;cases this
 |s::l,t::m,lo,w,n,u,G,F,h=>by
  have v:∀{s:wQ} {l:List wQ} {lo:Option Cut},bE lo (s::l)->xj s s.lo=true:=fun{s l lo} n=>by
   have k:=n.2;unfold xj;rw[wN.refl];split at k
   ·rename_i e;simp[e]
   ·simp[k.1]
  have d:∀{s:wQ} {l:List wQ} {lo:Option Cut} {c:Cut},bE lo (s::l)->(s.vW=false->wV c s.hi<=0)->yP (s::l) c=xj s c:=fun{s l lo c} n r=>by
   have k:=n.2;have e:yP (s::l) c=(xj s c||yP l c):=rfl;rw[e];cases B:s.vW
   ·rw[B,ze (by simp)]at k;rw[Yh k.2 (r B),Bool.or_false]
   ·rw[B,zd rfl]at k;rw[k.1];simp[yP]
  have o:∀{s:wQ} {l:List wQ} {lo:Option Cut} {c:Cut},bE lo (s::l)->wV c s.lo<0->yP (s::l) c=false:=fun{s l lo c} n r=>by
   have k:=n.2;rw[d n fun B=>?_]
   ·have:=(wN.flip c s.lo).1 r;simp[xj,show¬wV s.lo c<=0 by omega]
   ·rw[B,ze (by simp)]at k;exact ZO (wN.trans r k.1)
  have gs:=G s (by simp);have C:=F t (by simp);have H:yP (s::l) s.lo=true:=by unfold yP;rw[wX,v n];rfl
  have I:yP (t::m) t.lo=true:=by unfold yP;rw[wX,v u];rfl
  have j:s.lo=t.lo:=by
   refine mV gs.1 C.1 ?_;have n1:¬wV s.lo t.lo<0:=fun i=>by have:=h s.lo gs.1;rw[H,o u i]at this;cases this
   have L:¬wV t.lo s.lo<0:=fun i=>by have:=h t.lo C.1;rw[I,o n i]at this;cases this
   have:=(wN.flip s.lo t.lo);have:=(wN.flip t.lo s.lo);omega
  have f:=n.2;have g:=u.2;cases p:s.vW<;>cases q:t.vW
  ·rw[p,ze (by simp)]at f;rw[q,ze (by simp)]at g;have D:yP (s::l) s.hi=false:=by rw[d n fun _=>by rw[wN.refl];exact ziM _];simp[xj,p,wN.refl]
   have M:yP (t::m) t.hi=false:=by rw[d u fun _=>by rw[wN.refl];exact ziM _];simp[xj,q,wN.refl]
   have E:s.hi=t.hi:=by
    refine mV gs.2 C.2 ?_;have n1:¬wV s.hi t.hi<0:=fun i=>by
     have:=h s.hi gs.2;rw[D,d u fun _=>ZO i]at this;have y:wV t.lo s.hi<=0:=by rw[<-j];exact ZO f.1
     simp[xj,i,y]at this
    have L:¬wV t.hi s.hi<0:=fun i=>by
     have:=h t.hi C.2;rw[M,d n fun _=>ZO i]at this;have y:wV s.lo t.hi<=0:=by rw[j];exact ZO g.1
     simp[xj,i,y]at this
    have:=(wN.flip s.hi t.hi);have:=(wN.flip t.hi s.hi);omega
   have J:s=t:=by obtain⟨a,b,c⟩:=s;obtain⟨N,P,Q⟩:=t;simp only at j E p q;rw[j,E,p,q]
   subst J;rw[B8 f.2 g.2 (fun x K=>G x (by simp[K])) (fun x K=>F x (by simp[K])) fun c r=>?_];by_cases z:wV c s.hi<=0
   ·rw[Yh f.2 z,Yh g.2 z]
   ·have:=h c r;have A:xj s c=false:=by have:=wN.MO z;simp[xj,p,show¬wV c s.hi<0 by omega]
    unfold yP at this⊢;rw[wX,wX,A]at this;exact this
  ·rw[p,ze (by simp)]at f;have:=h s.hi gs.2;have D:yP (s::l) s.hi=false:=by rw[d n fun _=>by rw[wN.refl];exact ziM _];simp[xj,p,wN.refl]
   have y:wV t.lo s.hi<=0:=by rw[<-j];exact ZO f.1
   rw[D,d u fun e=>by rw[q]at e;cases e]at this;simp[xj,q,y]at this
  ·rw[q,ze (by simp)]at g;have:=h t.hi C.2;have D:yP (t::m) t.hi=false:=by rw[d u fun _=>by rw[wN.refl];exact ziM _];simp[xj,q,wN.refl]
   have y:wV s.lo t.hi<=0:=by rw[j];exact ZO g.1
   rw[D,d n fun e=>by rw[p]at e;cases e]at this;simp[xj,p,y]at this
  ·rw[p,zd rfl]at f;rw[q,zd rfl]at g;obtain⟨a,b,c⟩:=s;obtain⟨N,P,Q⟩:=t;simp only at j p q f g;rw[f.1,g.1,j,p,q,f.2,g.2]
theorem TL{c:Cut}(Y:0<=c.v.a/\0<=c.v.b/\0<=c.v.c):wV wv c<=0:=by
 obtain⟨⟨a,b,d,p⟩,f⟩:=c;obtain⟨k,l,m⟩:=Y;simp only at k l m;have g:∀x:Int,0<=x->w8 0 x=0/\x=0\/w8 0 x<0:=by
  intro x u;unfold w8;split
  ·right;omega
  ·split
   ·omega
   ·left;omega
 have j:yc [48] (p.headD [48])<=0:=by
  have o:Zi [48]=true:=by decide
  unfold yc;rw[o];have r:Lib.trimLeftB [48] 48=[]:=by decide
  simp only[qV,r];split
  ·obtain⟨q,s⟩:=wZ (Lib.trimLeftB (p.headD [48]) 48);rw[s];cases q with
   |nil=>decide
   |cons x q=>
    have:w8 (([]:za).length) ((x::q).length)<0:=by
     rcases g ((x::q).length) (by omega)with⟨_,h⟩|h
     ·simp at h;omega
     ·exact h
    simp only[Xq];rw[ze (by omega)];omega
  ·omega
 have t:Wb ⟨0,0,0,[[48]]⟩ ⟨a,b,d,p⟩<=0:=by
  unfold Wb;simp only;rcases g a k with⟨e1,_⟩|e1
  ·rcases g b l with⟨e2,_⟩|e2
   ·rcases g d m with⟨e3,_⟩|e3
    ·have i:Xq [w8 0 a,w8 0 b,w8 0 d]=0:=by simp[Xq,e1,e2,e3]
     rw[zd i,ze (by simp)];split
     ·omega
     ·cases p with
      |nil=>rename_i h;exact absurd rfl h
      |cons q p=>
       simp only[y0];split
       ·cases p<;>simp[y0]
       ·simpa using j
    ·have i:Xq [w8 0 a,w8 0 b,w8 0 d]=w8 0 d:=by simp only[Xq,e1,e2,qV];rw[ze (by omega)]
     rw[i,ze (by omega)];omega
   ·have i:Xq [w8 0 a,w8 0 b,w8 0 d]=w8 0 b:=by simp only[Xq,e1,qV];rw[ze (by omega)]
    rw[i,ze (by omega)];omega
  ·have i:Xq [w8 0 a,w8 0 b,w8 0 d]=w8 0 a:=by simp only[Xq];rw[ze (by omega)]
   rw[i,ze (by omega)];omega
 have e:wV wv ⟨⟨a,b,d,p⟩,f⟩=if Wb ⟨0,0,0,[[48]]⟩ ⟨a,b,d,p⟩=0 then(if false=f then 0 else if f=true then -1 else 1)else Wb ⟨0,0,0,[[48]]⟩ ⟨a,b,d,p⟩:=rfl
 rw[e];by_cases n:Wb ⟨0,0,0,[[48]]⟩ ⟨a,b,d,p⟩=0
 ·rw[zd n];cases f<;>simp
 ·rw[ze n];exact t
def dd(c:Cut):Prop:=0<=c.v.a/\0<=c.v.b/\0<=c.v.c
def Ff(l:List wQ):Prop:=∀s∈l,dd s.lo/\dd s.hi
theorem aq:kb [yu wv]:=(WA xH).2
theorem Fg{m:List wQ}{lo:Option Cut}(e:bE lo m)(a:kb m)(Y:Ff m):vr and m [yu wv]=m:=by
 refine B8 (fg a aq) (Oo e) (xN _ a aq) a fun c _=>?_
 rw[pN rfl a aq];cases b:yP m c
 ·rfl
 ·have:wV wv c<=0:=by unfold yP at b;rw[Yo]at b;obtain⟨s,hs,d⟩:=b;simp only[xj,zE,zS]at d;exact wN.tr _ _ _ (TL (Y s hs).1) d.1
  simp[yP,xj,yu,this]
theorem Oq{f:Bool->Bool->Bool}(h:f false false=false)(g:∀x y,f x y=f y x){a b:List wQ}(d:kb a)(e:kb b):vr f a b=vr f b a:=by
 refine B8 (fg d e) (fg e d) (xN _ d e) (xN _ e d) fun c _=>?_
 rw[pN h d e,pN h e d,g]
theorem zb1(a b:Cut):bE none (gD a b):=by
 unfold gD;split
 ·trivial
 ·exact⟨fun q e=>(by cases e),by simp only[cS,zP,wF];exact⟨by omega,trivial⟩⟩
theorem TM(a:Cut):bE none [yu a]:=⟨fun q e=>(by cases e),by simp[yu]⟩
theorem Ot(f:Bool->Bool->Bool){a b:List wQ}(c:Ff a)(d:Ff b):Ff (vr f a b):=uv (Q:=dd) (by simp[dd,We]) f c d
end Go.Q
