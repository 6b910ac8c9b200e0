/- Lemmas. -/
import Derived.Test.YtjnfibncnabkmaaGreatDoorG13
set_option maxRecDepth 8000
set_option maxHeartbeats 4000000
open Go Proofs Proofs.YtjnfibncnabkmaaGreatDoor Proofs.Tryz RowKit AM SpanLaw Q Zz
open Go.IntKind renaming i64→i6
namespace Go.Q
section
variable(s:za)
def pW:Nat->List Val->Qst->List Val×Qst
 | 0,l,st=>(l,st)
 |k+1,l,st=>if(jD s st [124]).1=true then pW k (l++[(JC s (jD s st [124]).2).1]) (JC s (jD s st [124]).2).2 else(l,(jD s st [124]).2)
noncomputable def DS (st:Qst):List Val×Qst:=
 if(jD s st [110,101,118,101,114]).1=true then([],(jD s st [110,101,118,101,114]).2)else
 (QD (pW s (s.length+1) [(JC s (jD s st [110,101,118,101,114]).2).1] (JC s (jD s st [110,101,118,101,114]).2).2).1,(pW s (s.length+1) [(JC s (jD s st [110,101,118,101,114]).2).1] (JC s (jD s st [110,101,118,101,114]).2).2).2)
def JX:List Nat:=[2,4,3,6,5,7,8,9,10,11,12]
def A4:List Nat->Qst->Option Nat×Qst
 |[],st=>(none,st)
 |o::l,st=>if(jD s st (Q6 o)).1=true then(some o,(jD s st (Q6 o)).2)else A4 l (jD s st (Q6 o)).2
def Tm(st:Qst):Qst:=if(decide (st.b=none)&&!(([34]:za).isPrefixOf (s.drop st.p)))=true then st.fail st.p 10 else st
noncomputable def tvQ (a:za) (o:Nat) (st:Qst):Cnd×Qst:=
 if o=2\/o=12 then(.mk 4 a o (DS s st).1 [] [] [],(DS s st).2)
 else if jY o=true then(.mk 4 a o [(JC s st).1] [] [] [],(JC s st).2)
 else(.mk 4 a o [] (JC s (Tm s (yX s st))).1.s [] [],(JC s (Tm s (yX s st))).2)
noncomputable def Mv (st:Qst):Cnd×Qst:=match A4 s JX (VM s (xz s st [46])).2 with
 |(none,a)=>(.mk 4 (VM s (xz s st [46])).1 0 [] [] [] [],a.fail a.p 10)
 |(some o,a)=>tvQ s (VM s (xz s st [46])).1 o a
end
theorem RO{s:za}:∀(k:Nat) (l:List Val) (st:Qst),st.p<=s.length->kh l<=st.p+1->st.p<=(pW s k l st).2.p/\(pW s k l st).2.p<=s.length/\(pW s k l st).2.d=st.d/\kh (pW s k l st).1<=(pW s k l st).2.p+1
 | 0,l,st,h,c=>⟨zk _,h,rfl,c⟩
 |k+1,l,st,h,c=>by
  have a:=jd (s:=s) [124] h;rw[pW];split
  ·rename_i f;have g:=a.2.2.2.2 f;have e:=XN (s:=s) a.2.1;simp only[zd,ze]at g;have b:=RO k (l++[(JC s (jD s st [124]).2).1]) (JC s (jD s st [124]).2).2 e.2.1 (by rw[WA];omega);refine⟨by omega,b.2.1,?_,b.2.2.2⟩;rw[b.2.2.1,e.2.2.1,a.2.2.2.1]
  ·exact⟨a.1,a.2.1,a.2.2.2.1,by simp only;omega⟩
theorem sP(c:Val):∀l:List Val,kh (kj c l)<=kh l+c.vb
 |[]=>by simp[kj,kh]
 |a::l=>by
  have:=sP c l;simp only[kj];split
  ·simp only[kh];omega
  ·split<;>simp only[kh]<;>omega
theorem sQ:∀(l o:List Val),kh (l.foldl (fun o c=>kj c o) o)<=kh o+kh l
 |[],o=>by simp[kh]
 |c::l,o=>by rw[ju];have a:=sQ l (kj c o);have b:=sP c o;simp only[kh];omega
theorem Mw(l:List Val):kh (QD l)<=kh l:=by have:=sQ l [];simpa[kh,QD]using this
theorem zd7{s:za}{st:Qst}(h:st.p<=s.length):st.p<=(DS s st).2.p/\(DS s st).2.p<=s.length/\(DS s st).2.d=st.d/\kh (DS s st).1<=(DS s st).2.p+1:=by
 have a:=jd (s:=s) [110,101,118,101,114] h;unfold DS;split
 ·exact⟨a.1,a.2.1,a.2.2.2.1,by simp[kh]⟩
 ·have b:=XN (s:=s) a.2.1;have c:=RO (s:=s) (s.length+1) [(JC s (jD s st [110,101,118,101,114]).2).1] (JC s (jD s st [110,101,118,101,114]).2).2 b.2.1 (by simp only[kh];omega);have e:=Mw (pW s (s.length+1) [(JC s (jD s st [110,101,118,101,114]).2).1] (JC s (jD s st [110,101,118,101,114]).2).2).1;refine⟨by simp only;omega,c.2.1,?_,?_⟩
  ·simp only;rw[c.2.2.1,b.2.2.1,a.2.2.2.1]
  ·simp only;omega
theorem GB{s:za}:∀(l:List Nat) (st:Qst),st.p<=s.length->st.p<=(A4 s l st).2.p/\(A4 s l st).2.p<=s.length/\(A4 s l st).2.d=st.d
 |[],st,h=>⟨zk _,h,rfl⟩
 |o::l,st,h=>by
  have a:=jd (s:=s) (Q6 o) h;rw[A4];split
  ·exact⟨a.1,a.2.1,a.2.2.2.1⟩
  ·have b:=GB l (jD s st (Q6 o)).2 a.2.1;exact⟨by omega,b.2.1,by rw[b.2.2,a.2.2.2.1]⟩
theorem RQ{s:za}{st:Qst}(h:st.p<=s.length):(Tm s st).p=st.p/\(Tm s st).d=st.d:=by
 unfold Tm;split
 ·exact Zh _ _ _
 ·exact⟨rfl,rfl⟩
theorem zd8{s:za}{st:Qst}(a:za)(o:Nat)(h:st.p<=s.length):st.p<=(tvQ s a o st).2.p/\(tvQ s a o st).2.p<=s.length/\(tvQ s a o st).2.d=st.d:=by
 have b:=zd7 (s:=s) h;have c:=XN (s:=s) h;have e:=Q7 (s:=s) h;have f:=RQ (s:=s) e.2.1;have g:=XN (s:=s) (st:=Tm s (yX s st)) (by rw[f.1];exact e.2.1);unfold tvQ;split
 ·exact⟨b.1,b.2.1,b.2.2.1⟩
 ·split
  ·exact⟨c.1,c.2.1,c.2.2.1⟩
  ·simp only;refine⟨by omega,g.2.1,?_⟩;rw[g.2.2.1,f.2,e.2.2.2]
theorem zd9{s:za}{st:Qst}(h:st.p<=s.length):st.p<=(Mv s st).2.p/\(Mv s st).2.p<=s.length/\(Mv s st).2.d=st.d:=by
 have b:=JS (s:=s) [46] h;have c:=ou (s:=s) b.2.1;have a:=GB (s:=s) JX (VM s (xz s st [46])).2 c.2.1;unfold Mv;split
 ·rename_i e f;rw[f]at a;simp only at a⊢;rw[(Zh _ _ _).1,(Zh _ _ _).2];exact⟨by omega,a.2.1,by rw[a.2.2,c.2.2.1,b.2.2.1]⟩
 ·rename_i o e f;rw[f]at a;simp only at a;have g:=zd8 (s:=s) (VM s (xz s st [46])).1 o a.2.1;exact⟨by omega,g.2.1,by rw[g.2.2,a.2.2,c.2.2.1,b.2.2.1]⟩
noncomputable abbrev Cvsq:Ctx:=qj prog [(25,Ar),(53,vaQS),(71,zn true [] Fvso)]
theorem za1:AM.jH False Cvsq g0F:=qQ mixed ⟨KD.lax,sH,MW.lax,trivial⟩
noncomputable abbrev vsQS:AM.Spec:=mQ aU (fun _ _ _=>True) (fun s st _=>(DS s st).2) (fun s st _=>.sl 5 ((DS s st).1.map Val.V))
theorem RR{s:za}{st:Qst}{Y:Hp}{id Z:Nat}(a:Y id=some (yq s st))(hs:s.length<=20000)(b:st.p<=s.length):vsQS [.ref id 0 0] Y Z=some (.sl 5 ((DS s st).1.map Val.V),qf Y id (some (yq s (DS s st).2)),Z):=Wk y5 (fun _=>rfl) () a hs b trivial
def VqI(s:za)(r:List Val×Qst)(n:Nat)(st:St):Prop:=st.M 0=.ref 0 0 0/\0<st.Z/\∃l a j,qN st.Y st.Z 43 5 (st.M 3) (l.map Val.V)/\st.Y 0=some (yq s a)/\a.p<=s.length/\s.length-a.p+1=n/\n<=j/\l≠[]/\kh l<=a.p+1/\pW s j l a=r
def VqE(s:za)(r:List Val×Qst)(st:St):Prop:=st.M 0=.ref 0 0 0/\0<st.Z/\∃l a,qN st.Y st.Z 43 5 (st.M 3) (l.map Val.V)/\st.Y 0=some (yq s a)/\l≠[]/\kh l<=s.length+1/\(l,a)=r
theorem Mx:wO False prog 51 vsQS:=
 ya (C:=Cvsq) func51 (by kernel_rfl) rfl TQ _ fun cs az cs' r h=>by
  obtain⟨s,st,⟨⟩,rfl,rfl,hs,Y,_,rfl,rfl⟩:=ZR h;refine⟨by simp[aU,f51],?_⟩;clear h;have w:=za1;have N:qg=268435456:=rfl;have i:=jd (s:=s) [110,101,118,101,114] Y;have t:Ar [.ref 0 0 0,str [110,101,118,101,114]] (zZ TQ (zS s st)) 1=some (yh (jD s st [110,101,118,101,114]).1,qf (zZ TQ (zS s st)) 0 (some (yq s (jD s st [110,101,118,101,114]).2)),1):=xT [110,101,118,101,114] rfl hs Y (by decide);obtain⟨A,d,B⟩:∃A d,jD s st [110,101,118,101,114]=(A,d):=⟨_,_,rfl⟩;unfold DS;rw[B]at t i;simp only[B];simp only at t i;refine Wp.cut w (fun M Y Z=>M 0=.ref 0 0 0/\M 2=.nil/\Y=zZ TQ (zS s st)/\Z=1) (by kernel_rfl) (by simp[aU]) ?_;rintro M _ _ ⟨c,R,rfl,rfl⟩;cases A
  case true=>simp only[zK];refine Wp.seq (Wp.of w (by kernel_rfl) ?_);simp[c,t,f51];exact qc rfl (by simp) (.nz 5) rfl
  simp only[zm,zQ];refine Wp.cut w (fun y Y Z=>y 0=.ref 0 0 0/\Y 0=some (yq s d)/\Z=1) (by kernel_rfl) (by simp[c,t]) ?_;clear c R t M;rintro M Y1 _ ⟨c,u,rfl⟩;have b:=XN (s:=s) i.2.1;have k:=dU (Z:=1) u hs i.2.1;obtain⟨x,a,D⟩:∃x a,JC s d=(x,a):=⟨_,_,rfl⟩;rw[D]at k b;simp only[D];simp only at k b;simp only[wD]at k;obtain⟨r,f⟩:=wM (pW s (s.length+1) [x] a);rw[f];refine Wp.cut w (fun y Y Z=>VqI s r (s.length-a.p+1) ⟨y,Y,Z⟩) (by kernel_rfl) ?_ ?_
  ·simp[c,k,zs,zF,zr];exact⟨by simp[c],by simp,[x],a,s.length+1,.inr ⟨1,by simp,by simp,by simp[wD]⟩,by simp[zc],b.2.1,rfl,by omega,by simp,by simp[kh];omega,f⟩
  clear c u k M Y1;rintro M Y1 Z P;refine Wp.seq (Wp.mono (K:=fun e F=>e=.normal/\VqE s r F) (Wp.block (Wp.loop (VqI s r) _ P ?_)) ?_)
  ·clear P f D b i B M Y1 Z d a x;rintro n ⟨M,Y1,Z⟩ ⟨c,m,l,d,j,v,u,E,hn,S,z,G,f⟩;simp only at c m v u;have o:=qZ v u rfl;have T:=yT l;obtain⟨j,rfl⟩:∃j',j=j'+1:=⟨j-1,by omega⟩;rw[pW]at f;have t:=xT (Z:=Z) [124] u hs E (by decide);have q:=jd (s:=s) [124] E;obtain⟨H,a,B⟩:∃H a,jD s d [124]=(H,a):=⟨_,_,rfl⟩;rw[B]at t f q;simp only at t f q;cases H
   ·simp only[zm,zQ]at f;refine Wp.of w (by kernel_rfl) ?_;simp[c,t];exact⟨by simp[c],m,l,a,by simpa using v.put o (some (yq s a)),by simp,z,by omega,f⟩
   ·simp only[zK]at f;have I:=q.2.2.2.2 rfl;simp only[zd,ze]at I;have k:=dU (Y:=qf Y1 0 (some (yq s a))) (id:=0) (Z:=Z) (by simp) hs q.2.1;have b:=XN (s:=s) q.2.1;obtain⟨x,g,D⟩:∃x g,JC s a=(x,g):=⟨_,_,rfl⟩;rw[D]at k f b;simp only at k f b;rw[qV]at k;obtain⟨Y2,Q,U,W⟩:=dJ (v.put o (some (yq s g))) x (by omega);have X:Y2 0=some (yq s g):=by rw[W 0 m o];simp
    simp only[wD]at Q k;refine Wp.of w (by kernel_rfl) ?_;simp[c,t,k,Q,zs,zF,zr];exact⟨s.length-g.p+1,by omega,by simp[c],by simp only;omega,l++[x],g,j,by simpa using U,X,b.2.1,rfl,by omega,by simp,by rw[WA];omega,f⟩
  ·rintro e ⟨σ2,Y2,SC⟩ ⟨rfl,c,m,l,J,v,u,z,G,rfl⟩;simp only at c m v u;simp only[ZQ];have o:=qZ v u rfl;obtain⟨L,s1,f3⟩:=Ro (l:=l) (by omega) z v;have A:L 0=some (yq s J):=by rw[f3 0 o];exact u
   refine Wp.of w (by kernel_rfl) ?_;simp[c,s1,f51];exact qR rfl A
section
variable(s:za)
def Y4(st:Qst)(k:Nat):Qst:=if 100<=st.d then st.fail k 2 else st
variable(f:Qst->Cnd×Qst)
def DT:Nat->List Cnd->Qst->List Cnd×Qst
 | 0,l,st=>(l,st)
 |k+1,l,st=>if(jD s st [44]).1=true then DT k (l++[(f (jD s st [44]).2).1]) (f (jD s st [44]).2).2 else(l,(jD s st [44]).2)
def Y5(st:Qst):Qst:=Y4 (xz s (yX s st) [40]) (yX s st).p
def XR(st:Qst):Qst:=(jD s st [41]).2.dp (st.d+1)
def fS(r:List Cnd×Qst):List Cnd×Qst:=(r.1,xz s (r.2.dp (r.2.d-1)) [41])
def pX(st:Qst):List Cnd×Qst:=
 if(Y5 s st).b≠none then([],Y5 s st)
 else if(jD s (Y5 s st) [41]).1=true then([],(jD s (Y5 s st) [41]).2)
 else fS s (DT s f (s.length+1) [(f (XR s (Y5 s st))).1] (f (XR s (Y5 s st))).2)
def Kw(st:Qst):Qst:=Y4 (xz s st [40]) ((xz s st [40]).p-1)
def dY(st:Qst):Qst:=st.dp (st.d+1)
def My(st:Qst):List Cnd×Qst:=
 if(Kw s st).b≠none then([zC],(fS s ([],dY (Kw s st))).2)
 else([(f (dY (Kw s st))).1],(fS s ([],(f (dY (Kw s st))).2)).2)
end
noncomputable def VN (s:za):Nat->Qst->Cnd×Qst
 | 0,st=>(zC,st)
 |k+1,st=>
  let a:=jD s st [97,108,108]
  if a.1=true then(.mk 1 [] 0 [] [] [] (pX s (VN s k) a.2).1,(pX s (VN s k) a.2).2)else
  let b:=jD s a.2 [97,110,121]
  if b.1=true then(.mk 2 [] 0 [] [] [] (pX s (VN s k) b.2).1,(pX s (VN s k) b.2).2)else
  let c:=jD s b.2 [110,111,116]
  if c.1=true then(.mk 3 [] 0 [] [] [] (My s (VN s k) c.2).1,(My s (VN s k) c.2).2)else
  let d:=jD s c.2 [105,110]
  if d.1=true then(.mk 5 [] 0 [] [] (VM s d.2).1 [],(VM s d.2).2)else
  let g:=jD s d.2 [104,97,115]
  if g.1=true then(.mk 4 (VM s (xz s g.2 [46])).1 1 [] [] [] [],(VM s (xz s g.2 [46])).2)else
  Mv s g.2
def DU(s:za)(f:Qst->Cnd×Qst):Prop:=∀st,st.p<=s.length->st.p<=(f st).2.p/\(f st).2.p<=s.length/\(f st).2.d=st.d
section
variable{s:za}{f:Qst->Cnd×Qst}
theorem lA(st:Qst)(k:Nat):(Y4 st k).p=st.p/\(Y4 st k).d=st.d/\((Y4 st k).b=none->st.b=none/\st.d<100):=by
 unfold Y4;split
 ·exact⟨(Zh _ _ _).1,(Zh _ _ _).2,fun e=>absurd e (vg _ _ _)⟩
 ·exact⟨rfl,rfl,fun e=>⟨e,by omega⟩⟩
theorem RS(b:DU s f):∀(k:Nat) (l:List Cnd) (st:Qst),st.p<=s.length->st.p<=(DT s f k l st).2.p/\(DT s f k l st).2.p<=s.length/\(DT s f k l st).2.d=st.d
 | 0,l,st,h=>⟨zk _,h,rfl⟩
 |k+1,l,st,h=>by
  have a:=jd (s:=s) [44] h;rw[DT];split
  ·have c:=b _ a.2.1;have e:=RS b k (l++[(f (jD s st [44]).2).1]) _ c.2.1;exact⟨by omega,e.2.1,by rw[e.2.2,c.2.2,a.2.2.2.1]⟩
  ·exact⟨a.1,a.2.1,a.2.2.2.1⟩
theorem AB{st:Qst}(h:st.p<=s.length):st.p<=(Y5 s st).p/\(Y5 s st).p<=s.length/\(Y5 s st).d=st.d/\((Y5 s st).b=none->st.b=none/\st.d<100/\st.p+1<=(Y5 s st).p):=by have a:=Q7 (s:=s) h;have c:=JS (s:=s) [40] a.2.1;have f:=lA (xz s (yX s st) [40]) (yX s st).p;unfold Y5;refine⟨by omega,by omega,by rw[f.2.1,c.2.2.1,a.2.2.2],fun e=>?_⟩;obtain⟨j,g⟩:=f.2.2 e;have i:=c.2.2.2 j;simp only[zd,ze]at i;refine⟨by rw[<-a.2.2.1];exact i.1,?_,by omega⟩;rw[c.2.2.1,a.2.2.2]at g;exact g
theorem AD(r:List Cnd×Qst)(h:r.2.p<=s.length):r.2.p<=(fS s r).2.p/\(fS s r).2.p<=s.length/\(fS s r).2.d=r.2.d-1:=by have a:=JS (s:=s) (st:=r.2.dp (r.2.d-1)) [41] h;exact⟨a.1,a.2.1,a.2.2.1⟩
theorem RT(c:DU s f){st:Qst}(h:st.p<=s.length):st.p<=(pX s f st).2.p/\(pX s f st).2.p<=s.length/\(pX s f st).2.d=st.d:=by
 have a:=AB (s:=s) h;have b:=jd (s:=s) [41] a.2.1;unfold pX;split
 ·exact⟨a.1,a.2.1,a.2.2.1⟩
 ·split
  ·exact⟨by simp only;omega,b.2.1,by rw[b.2.2.2.1,a.2.2.1]⟩
  ·have e:=c (XR s (Y5 s st)) b.2.1;have g:=RS c (s.length+1) [(f (XR s (Y5 s st))).1] _ e.2.1;have i:=AD (s:=s) (DT s f (s.length+1) [(f (XR s (Y5 s st))).1] (f (XR s (Y5 s st))).2) g.2.1;have k:(XR s (Y5 s st)).p=(jD s (Y5 s st) [41]).2.p:=rfl;have j:(XR s (Y5 s st)).d=(Y5 s st).d+1:=rfl;refine⟨by omega,i.2.1,?_⟩;rw[i.2.2,g.2.2,e.2.2,j,a.2.2.1];omega
theorem AE{st:Qst}(h:st.p<=s.length):st.p<=(Kw s st).p/\(Kw s st).p<=s.length/\(Kw s st).d=st.d/\((Kw s st).b=none->st.b=none/\st.d<100/\st.p+1<=(Kw s st).p):=by have a:=JS (s:=s) [40] h;have c:=lA (xz s st [40]) ((xz s st [40]).p-1);unfold Kw;refine⟨by omega,by omega,by rw[c.2.1,a.2.2.1],fun e=>?_⟩;obtain⟨i,f⟩:=c.2.2 e;have g:=a.2.2.2 i;simp only[zd,ze]at g;refine⟨g.1,?_,by omega⟩;rw[a.2.2.1]at f;exact f
theorem zea(g:DU s f){st:Qst}(h:st.p<=s.length):st.p<=(My s f st).2.p/\(My s f st).2.p<=s.length/\(My s f st).2.d=st.d:=by
 have b:=AE (s:=s) h;have i:(dY (Kw s st)).p=(Kw s st).p:=rfl;have c:(dY (Kw s st)).d=(Kw s st).d+1:=rfl;unfold My;split
 ·have a:=AD (s:=s) ([],dY (Kw s st)) b.2.1;simp only at a⊢;refine⟨by omega,a.2.1,?_⟩;rw[a.2.2,c,b.2.2.1];omega
 ·have e:=g (dY (Kw s st)) b.2.1;have a:=AD (s:=s) ([],(f (dY (Kw s st))).2) e.2.1;simp only at a⊢;refine⟨by omega,a.2.1,?_⟩;rw[a.2.2,e.2.2,c,b.2.2.1];omega
theorem ck:∀k,DU s (VN s k)
 | 0=>fun st h=>⟨zk _,h,rfl⟩
 |k+1=>fun st h=>by
  have f:=ck k;have a:=jd (s:=s) [97,108,108] h;have b:=jd (s:=s) [97,110,121] a.2.1;have c:=jd (s:=s) [110,111,116] b.2.1;have d:=jd (s:=s) [105,110] c.2.1;have e:=jd (s:=s) [104,97,115] d.2.1;rw[VN];simp only;split
  ·have:=RT f a.2.1;exact⟨by simp only;omega,this.2.1,by rw[this.2.2];exact a.2.2.2.1⟩
  split
  ·have:=RT f b.2.1;exact⟨by simp only;omega,this.2.1,by rw[this.2.2,b.2.2.2.1];exact a.2.2.2.1⟩
  split
  ·have:=zea f c.2.1;exact⟨by simp only;omega,this.2.1,by rw[this.2.2,c.2.2.2.1,b.2.2.2.1];exact a.2.2.2.1⟩
  split
  ·have:=ou (s:=s) d.2.1;exact⟨by simp only;omega,this.2.1,by rw[this.2.2.1,d.2.2.2.1,c.2.2.2.1,b.2.2.2.1];exact a.2.2.2.1⟩
  split
  ·have g:=JS (s:=s) [46] e.2.1;have:=ou (s:=s) g.2.1;exact⟨by simp only;omega,this.2.1,by rw[this.2.2.1,g.2.2.1,e.2.2.2.1,d.2.2.2.1,c.2.2.2.1,b.2.2.2.1];exact a.2.2.2.1⟩
  ·have:=zd9 (s:=s) e.2.1;exact⟨by omega,this.2.1,by rw[this.2.2,e.2.2.2.1,d.2.2.2.1,c.2.2.2.1,b.2.2.2.1];exact a.2.2.2.1⟩
end
theorem za2(o:Nat)(a:1<=o)(b:o<=12):Q6 o≠[]/\(Q6 o).length<=20:=by
 have:o=1\/o=2\/o=3\/o=4\/o=5\/o=6\/o=7\/o=8\/o=9\/o=10\/o=11\/o=12:=by omega
 rcases this with rfl|rfl|rfl|rfl|rfl|rfl|rfl|rfl|rfl|rfl|rfl|rfl<;>decide
noncomputable abbrev Cteq:Ctx:=qj prog [(27,Rk),(28,anQS),(50,zn false [] FOw),(25,Ar),(51,vsQS),(52,zn false [] (oV jY)),(53,vaQS),(12,pS),(13,JR),(49,zn false [] (WV E9 fun _ _=>True))]
theorem za3:AM.jH False Cteq (fun g=>[50,52,49].contains g):=qx mixed ⟨ga.lax,by simp,s9.lax,by simp,AW.lax,fun _=>zt _ _,KD.lax,by simp,Mx,by simp,Vt.lax,fun _=>zt _ _,sH,by simp,Yz.lax,by simp,xZ.lax,by simp,xe.lax,fun _=>zt _ _,trivial⟩
noncomputable abbrev teQS:AM.Spec:=mQ aU (fun _ _ _=>True) (fun s st _=>(Mv s st).2) (fun s st _=>.agg (Mv s st).1.V)
theorem RU{s:za}{st:Qst}{Y:Hp}{id Z:Nat}(a:Y id=some (yq s st))(hs:s.length<=20000)(b:st.p<=s.length):teQS [.ref id 0 0] Y Z=some (.agg (Mv s st).1.V,qf Y id (some (yq s (Mv s st).2)),Z):=Wk y5 (fun _=>rfl) () a hs b trivial
abbrev ta:List zb:=JX.map fun o=>[int (o:Nat)]
abbrev oE(a:za)(o:Int):Blk:=jR [int 4,str a,int o,.nil,str [],str [],.nil]
set_option maxHeartbeats 8000000 in
theorem Mz:wO False prog 29 teQS:=
 ya (C:=Cteq) func29 (by kernel_rfl) rfl TQ _ fun cs az cs' r h=>by
  obtain⟨s,st,⟨⟩,rfl,rfl,hs,Y,hk,rfl,rfl⟩:=ZR h;refine⟨by simp[aU,f29],?_⟩;clear h;have hlim:qg=268435456:=rfl;refine Wp.of za3 (by kernel_rfl) ?_;have Q:=JS (s:=s) [46] Y;obtain⟨st0,S⟩:=wM (xz s st [46]);rw[S]at Q;have T:=ou (s:=s) Q.2.1;obtain⟨a,F,ha⟩:∃a F,VM s st0=(a,F):=⟨_,_,rfl⟩;rw[ha]at T;simp only at T;have hte:Mv s st=match A4 s JX F with
    |(none,st2)=>(.mk 4 a 0 [] [] [] [],st2.fail st2.p 10)
    |(some o,st2)=>tvQ s a o st2:=by
   unfold Mv;rw[S,ha]
  rw[hte];clear hte;refine zM (fun M Y Z=>M 0=.ref 0 0 0/\M 2=.ref 1 0 0/\Y 0=some (yq s st)/\Y 1=some (jR kS)/\Z=2) (by simp[aU,zZ,zz,zS,kS,zc]) ?_;rintro M Y1 _ ⟨d,e,n,c,rfl⟩;refine zM (fun M Y Z=>M 0=.ref 0 0 0/\M 2=.ref 1 0 0/\M 3=.ref 2 0 0/\Y 0=some (yq s st)/\Y 1=some (jR kS)/\Y 2=some (oE [] 0)/\Z=3) (by simp[d,e,n,c,zc,zI,qe]) ?_;clear d e n c M Y1;rintro M Y1 _ ⟨d,e,l,n,c,m,rfl⟩;have U:=YY (Z:=3) [46] n hs Y (by decide);rw[S]at U;refine zM (fun M Y Z=>M 0=.ref 0 0 0/\M 2=.ref 1 0 0/\M 3=.ref 2 0 0/\Y 0=some (yq s st0)/\Y 1=some (jR kS)/\Y 2=some (oE [] 0)/\Z=3) (by simp[d,e,l,U,c,m,zc]) ?_;clear d e l n c m U M Y1;rintro M Y1 _ ⟨d,e,l,n,c,m,rfl⟩;have U:=ov (Z:=3) n hs Q.2.1;rw[ha]at U;refine zM (fun M Y Z=>M 0=.ref 0 0 0/\M 2=.ref 1 0 0/\M 3=.ref 2 0 0/\Y 0=some (yq s F)/\Y 1=some (jR kS)/\Y 2=some (oE a 0)/\Z=3) (by simp[d,e,l,U,c,m,zc]) ?_;clear d e l n c m U M Y1;rintro M Y1 _ ⟨d,e,l,n,c,m,rfl⟩;obtain⟨R,hR⟩:=wM (A4 s JX F);rw[hR];refine zM (fun M Y Z=>M 0=.ref 0 0 0/\M 2=.ref 1 0 0/\M 3=.ref 2 0 0/\∃st2,Y 0=some (yq s st2)/\Y 1=some (jR kS)/\Y 2=some (oE a 0)/\Z=4/\R=(none,st2)/\st2.p<=s.length) ?_ ?_
  ·simp[d,zs,zF,zr];refine ql (fun k M Y Z=>M 0=.ref 0 0 0/\M 2=.ref 1 0 0/\M 3=.ref 2 0 0/\M 12=.own 3 0 11/\M 13=int 11/\M 14=int k/\k<=11/\Y 3=some ⟨3,1,true,ta⟩/\Z=4/\∃w,Y 0=some (yq s w)/\Y 1=some (jR kS)/\Y 2=some (oE a 0)/\w.p<=s.length/\A4 s (JX.drop k) w=R) 11 ⟨by simp[d],by simp[e],by simp[l],by simp,by simp,by simp,by omega,by simp[ta,JX],rfl,F,by simp[zc,n],by simp[zc,c],by simp[zc,m],T.2.1,hR⟩ ?_;clear d e l n c m M Y1;rintro k M Y1 _ hk ⟨d,e,l,z,q,t,hk11,f,rfl,w,n,c,m,J,u⟩;by_cases v:k<11
   ·have g:(k:Int)<11:=by omega
    have hl:k<JX.length:=v;obtain⟨o,ho⟩:=wM (JX[k]);have hom:o∈JX:=by rw[<-ho];exact zw hl
    have ho2:2<=o/\o<=12:=by simp only[JX,zv,wu,or_false]at hom;omega
    have A:∀h:k<ta.length,ta[k]=[int o]:=fun h=>by simp[ta,ho]
    have B:ta.length=11:=rfl;have Tn:=za2 o (by omega) ho2.2;rw[zl hl,ho,A4]at u;have W:=fun Y Z=>Rp o Y Z (by omega)
    have K:=xT (Z:=4) (Q6 o) n hs J Tn;have D:=jd (s:=s) (Q6 o) J;obtain⟨b1,st2,ht⟩:∃b1 st2,jD s w (Q6 o)=(b1,st2):=⟨_,_,rfl⟩;rw[ht]at K u D;simp only at K u D;have hw1:=wv k;cases b1
    case false=>simp only[zm,zQ]at u;simp[d,e,l,z,q,t,g,v,f,A,B,W,K,hw1];exact⟨by omega,st2,rfl,c,m,D.2.1,u⟩
    case true=>
     simp only[zK]at u;rw[<-u];simp only;simp only[kS]at c;have X:∀(x:Qst),qf (qf Y1 0 (some (yq s x))) 2 (some (oE a o)) 0=some (yq s x):=fun x=>by simp[zc]
     have hb3:∀(x y:Qst),qf (qf (qf Y1 0 (some (yq s x))) 2 (some (oE a o))) 0 (some (yq s y)) 0=some (yq s y):=fun x y=>by simp
     unfold tvQ;by_cases hA:o=2\/o=12
     ·rw[zg hA];have I:=RR (Z:=4) (X st2) hs D.2.1;have hA':((o:Int)==2)=true\/((o:Int)==2)=false/\((o:Int)==12)=true:=by
       rcases hA with rfl|rfl
       ·exact .inl rfl
       ·exact .inr ⟨rfl,rfl⟩
      rcases hA' with N|⟨N,G⟩
      ·simp[d,e,l,z,q,t,g,v,f,A,B,W,K,I,m,c,N,zc,f29];exact qc rfl (by simp[zc,zz,zS]) xc (by simp[qv];rfl)
      ·simp[d,e,l,z,q,t,g,v,f,A,B,W,K,I,m,c,N,G,zc,f29];exact qc rfl (by simp[zc,zz,zS]) xc (by simp[qv];rfl)
     rw[zf hA];have N:((o:Int)==2)=false:=by rw[w8];omega
     have G:((o:Int)==12)=false:=by rw[w8];omega
     cases hi:jY (o:Int)
     case true=>simp only[zK];have I:=dU (Z:=4) (X st2) hs D.2.1;simp only[wD]at I;simp[d,e,l,z,q,t,g,v,f,A,B,W,K,I,m,c,N,G,hi,zc,zs,zF,zr,f29];exact qc (r0:=.agg [int 4,str a,int o,.sl 5 [(JC s st2).1.V],str [],str [],.nil]) (by simp[AM.freeze,zO,qm,qp,zc,wD];rfl) (by simp[zc,zz,zS]) xc (by simp[qv];rfl)
     simp only[zm,zQ];have H:=Q7 (s:=s) D.2.1;obtain⟨i,h3e⟩:=wM (yX s st2);have g3:=Kv (Z:=4) (X st2) hs D.2.1;rw[h3e]at g3;rw[h3e]at H;rw[h3e];have gp:=fun Y Z=>Yf (s.drop i.p) [34] Y Z (by simp;omega) (by simp;omega)
     have htd:List.take (s.length-i.p) (s.drop i.p)=s.drop i.p:=qi (by simp);obtain⟨P,hP⟩:=wM (([34]:za).isPrefixOf (s.drop i.p));rw[hP]at gp;have gf:=vu (Z:=4) i.p 10 (hb3 st2 i) hs H.2.1;rw[qV]at gf;obtain⟨st4,j⟩:=wM (Tm s i);have h4p:=RQ (s:=s) H.2.1;rw[j]at h4p;rw[j];have h4l:st4.p<=s.length:=by rw[h4p.1];exact H.2.1
     have I:=dU (Z:=4) (hb3 st2 st4) hs h4l;rw[qV]at I;simp only[wD]at I;unfold Tm at j;rw[hP]at j;simp only[zz,zS,zd,ze,zh,Nat.reduceAdd]at g3 gf I K;by_cases L:i.b=none
     ·have E:i.bad<0:=by rw[WG L];decide
      cases P
      ·rw[zg (by simp[L])]at j;subst j;simp[d,e,l,z,q,t,g,v,f,A,B,W,K,g3,gf,I,gp,htd,E,H.2.1,m,c,N,G,hi,HW,zc,f29];exact qc rfl (by simp[zc,zz,zS]) xc (by simp[qv];rfl)
      ·rw[zf (by simp)]at j;subst j;simp[d,e,l,z,q,t,g,v,f,A,B,W,K,g3,I,gp,htd,E,H.2.1,m,c,N,G,hi,HW,zc,f29];exact qc rfl (by simp[zc,zz,zS]) xc (by simp[qv];rfl)
     ·have E:¬i.bad<0:=by have:=QC L;omega
      rw[zf (by simp[L])]at j;subst j;simp[d,e,l,z,q,t,g,v,f,A,B,W,K,g3,I,E,m,c,N,G,hi,HW,zc,f29];exact qc rfl (by simp[zc,zz,zS]) xc (by simp[qv];rfl)
   ·obtain rfl:k=11:=by omega
    have hR2:R=(none,w):=u.symm;simp[d,e,l,q,t];exact⟨w,n,c,m,hR2,J⟩
  clear d e l n c m M Y1;rintro M Y1 _ ⟨d,e,l,st2,n,c,m,rfl,hR2,J⟩;rw[hR2];simp only;have gf:=vu (Z:=4) st2.p 10 n hs J;simp only[kS]at c;simp only[zz,zS,zd,ze,zh,Nat.reduceAdd]at n gf;simp[d,e,l,n,c,m,gf,zc,f29];exact qc rfl (by simp[zc,zz,zS]) xc (by simp[qv];rfl)
theorem za4(t:za):((t.drop (t.takeWhile (·==32)).length).takeWhile (·==32))=[]:=by
 induction t with
 |nil=>rfl
 |cons c t a=>
  rw[yQ];split
  ·simpa using a
  ·rename_i b;simp[List.takeWhile,b]
theorem MA(s:za)(st:Pst):y8 s (y8 s st)=y8 s st:=by have:=za4 (s.drop st.p);rw[List.drop_drop]at this;simp only[y8,Pst.mv];rw[this];rfl
theorem zeb(s:za)(st:Pst):KF s (y8 s st)=KF s st:=by rw[KF,MA,<-KF]
theorem RV(l:List Cnd)(x:Cnd):eD (l++[x])=eD l+x.cb:=by
 induction l with
 |nil=>simp[eD]
 |cons y l a=>simp only[qU,eD,a];omega
section
variable{s:za}
theorem RW{st:Pst}{w:za}(h:st.p<=s.length)(b:(Yx s st w).e=0):KF s st=w:=by
 unfold Yx at b;split at b
 ·rename_i a;unfold kz at a;split at a
  ·cases a
  ·split at a
   ·assumption
   ·cases a
 ·exact absurd b (Vn (kR w h).2.1).2.2.2
theorem AF{st:Pst}(h:st.p<=s.length):(VD s st).p<=s.length/\(VD s st).d=st.d+1/\((VD s st).e=0->st.e=0/\st.d<100/\st.p+1<=(VD s st).p):=by
 have b:=kQ (s:=s) h;simp only[VD,Pst.dn];by_cases c:st.e=0
 ·simp only[zg c];by_cases f:KF s st=[40]/\100<=st.d
  ·simp only[zg f];have g:=JB (y8 s st) 0 2;have a:=Z8 (s:=s) (st:=(y8 s st).fail 0 2) [40] (by rw[g.1];exact b.2.1);refine⟨a.2.1,by rw[a.2.2.1,g.2,b.2.2.2.2],fun e=>?_⟩;have:=(a.2.2.2 e).1;unfold Pst.fail at this;rw[zg (b.2.2.1.trans c)]at this;simp at this
  ·simp only[zf f];have a:=Z8 (s:=s) (st:=y8 s st) [40] b.2.1;refine⟨a.2.1,by rw[a.2.2.1,b.2.2.2.2],fun e=>?_⟩;have i:=RW b.2.1 e;rw[zeb]at i;have j:=(a.2.2.2 e).2;simp only[zd,ze]at j;exact⟨c,Nat.lt_of_not_le fun hd=>f ⟨i,hd⟩,by omega⟩
 ·simp only[zf c];have a:=Z8 (s:=s) [40] h;exact⟨a.2.1,by rw[a.2.2.1],fun e=>absurd (a.2.2.2 e).1 c⟩
def CoLe(s:za)(st:Pst)(r:Cnd×Pst):Prop:=r.2.p<=s.length/\r.2.d=st.d/\(r.2.e=0->st.e=0/\st.p<=r.2.p/\r.1.cb<=r.2.p-st.p+1)
theorem RX{f:Pst->Cnd×Pst}(b:∀st,st.p<=s.length->CoLe s st (f st)):∀(k:Nat) (l:List Cnd) (st:Pst),st.p<=s.length->(Dy s f k l st).2.p<=s.length/\(Dy s f k l st).2.d=st.d/\((Dy s f k l st).2.e=0->st.e=0/\st.p<=(Dy s f k l st).2.p/\eD (Dy s f k l st).1<=eD l+((Dy s f k l st).2.p-st.p))
 | 0,l,st,h=>by simp only[Dy];exact⟨h,trivial,fun e=>⟨e,zk _,by omega⟩⟩
 |k+1,l,st,h=>by
  have a:=kR (s:=s) [44] h;rw[Dy];split
  ·rename_i i;have c:=a.2.2.2.2 i;simp only[zd,ze]at c;obtain⟨j,m,n⟩:=b _ a.2.1;obtain⟨o,q,r⟩:=RX b k (l++[(f (kz s st [44]).2).1]) _ j;refine⟨o,by rw[q,m,a.2.2.2.1],fun e=>?_⟩;have g:=r e;have t:=n g.1;rw[RV]at g;exact⟨c.1,by omega,by omega⟩
  ·exact⟨a.2.1,a.2.2.2.1,fun e=>⟨by rw[<-a.2.2.1];exact e,a.1,by simp only;omega⟩⟩
theorem RY{f:Pst->Cnd×Pst}(j:∀st,st.p<=s.length->CoLe s st (f st)){st:Pst}(h:st.p<=s.length):(oi s f st).2.p<=s.length/\(oi s f st).2.d=st.d/\((oi s f st).2.e=0->st.e=0/\st.p+2<=(oi s f st).2.p/\eD (oi s f st).1<=(oi s f st).2.p-st.p):=by
 have b:=AF (s:=s) h;have c:=kQ (s:=s) b.1;simp only[oi,Pst.up];by_cases g:(VD s st).e=0
 ·simp only[zg g];have k:=b.2.2 g;split
  ·have a:=Z8 (s:=s) [41] c.2.1;refine⟨a.2.1,by rw[a.2.2.1,c.2.2.2.2,b.2.1];omega,fun e=>?_⟩;have i:=(a.2.2.2 e).2;simp only[zd,ze]at i;exact⟨k.1,by simp only;omega,by simp only[eD];omega⟩
  ·obtain⟨m,n,o⟩:=j _ c.2.1;obtain⟨q,r,t⟩:=RX j (s.length+1) [(f (y8 s (VD s st))).1] _ m;have a:=Z8 (s:=s) [41] q;refine⟨a.2.1,by rw[a.2.2.1,r,n,c.2.2.2.2,b.2.1];omega,fun e=>?_⟩;have i:=a.2.2.2 e;simp only[zd,ze]at i;have l:=t i.1;have u:=o l.1;simp only[eD]at l;exact⟨k.1,by omega,by omega⟩
 ·simp only[zf g];have a:=Z8 (s:=s) [41] b.1;exact⟨a.2.1,by rw[a.2.2.1,b.2.1];omega,fun e=>absurd (a.2.2.2 e).1 g⟩
theorem zec{f:Pst->Cnd×Pst}(g:∀st,st.p<=s.length->CoLe s st (f st)){st:Pst}(h:st.p<=s.length):(Ao s f st).2.p<=s.length/\(Ao s f st).2.d=st.d/\((Ao s f st).2.e=0->st.e=0/\st.p+2<=(Ao s f st).2.p/\eD (Ao s f st).1<=(Ao s f st).2.p-st.p):=by have a:=AF (s:=s) h;simp only[Ao,Pst.up];obtain⟨i,j,k⟩:=g _ a.1;have b:=Z8 (s:=s) [41] i;refine⟨b.2.1,by rw[b.2.2.1,j,a.2.1];omega,fun e=>?_⟩;have c:=b.2.2.2 e;simp only[zd,ze]at c;have l:=k c.1;have m:=a.2.2 l.1;simp only[eD];exact⟨m.1,by omega,by omega⟩
theorem RZ:∀(k:Nat) (l:List Val) (st:Pst),st.p<=s.length->(Dv s zy k l st).2.p<=s.length/\(Dv s zy k l st).2.d=st.d/\((Dv s zy k l st).2.e=0->st.e=0/\st.p<=(Dv s zy k l st).2.p/\kh (Dv s zy k l st).1<=kh l+((Dv s zy k l st).2.p-st.p))
 | 0,l,st,h=>by simp only[Dv];exact⟨h,trivial,fun e=>⟨e,zk _,by omega⟩⟩
 |k+1,l,st,h=>by
  have a:=kR (s:=s) [124] h;rw[Dv];split
  ·rename_i c;obtain⟨_,f,_,g,i,j,_⟩:=DJ h c;obtain⟨m,n,o⟩:=RZ k (l++[(JA s zy (kz s st [124]).2).1]) _ f;refine⟨m,by rw[n,g],fun e=>?_⟩;have b:=o e;have q:=j b.1;rw[WA]at b;exact⟨i,by omega,by omega⟩
  ·exact⟨a.2.1,a.2.2.2.1,fun e=>⟨by rw[<-a.2.2.1];exact e,a.1,by simp only;omega⟩⟩
theorem zed{st:Pst}(h:st.p<=s.length):(Dw s zy jB st).2.p<=s.length/\(Dw s zy jB st).2.d=st.d/\((Dw s zy jB st).2.e=0->st.e=0/\st.p<=(Dw s zy jB st).2.p/\kh (Dw s zy jB st).1<=(Dw s zy jB st).2.p-st.p+1):=by
 have a:=kR (s:=s) [110,101,118,101,114] h;simp only[Dw];split
 ·exact⟨a.2.1,a.2.2.2.1,fun e=>⟨by rw[<-a.2.2.1];exact e,a.1,by simp only[kh];omega⟩⟩
 ·have b:=oz (s:=s) a.2.1;obtain⟨f,g,i⟩:=RZ (s:=s) (s.length+1) [(JA s zy (kz s st [110,101,118,101,114]).2).1] _ b.1;refine⟨f,by rw[g,b.2.1,a.2.2.2.1],fun e=>?_⟩;have c:=i e;have j:=b.2.2.1 c.1;have k:=Rz (Dv s zy (s.length+1) [(JA s zy (kz s st [110,101,118,101,114]).2).1] (JA s zy (kz s st [110,101,118,101,114]).2).2).1;simp only[kh]at c;simp only[jB]at k⊢;exact⟨by rw[<-a.2.2.1];exact j.1,by omega,by omega⟩
theorem za5(o:Int)(a:2<=o)(b:o<=12):1<=(Q6 o).length:=by rcases(by omega:o=2\/o=3\/o=4\/o=5\/o=6\/o=7\/o=8\/o=9\/o=10\/o=11\/o=12)with rfl|rfl|rfl|rfl|rfl|rfl|rfl|rfl|rfl|rfl|rfl<;>decide
theorem zee{st:Pst}(h:st.p<=s.length):(Dx s zy jB st).2.p<=s.length/\(Dx s zy jB st).2.d=st.d/\((Dx s zy jB st).2.e=0->st.p<=(Dx s zy jB st).2.p/\(Dx s zy jB st).1.cb<=(Dx s zy jB st).2.p-st.p+1):=by
 have g:=Aq (s:=s) h;obtain⟨a,b,q⟩:∃a b,gY s st=(a,b):=⟨_,_,rfl⟩;have i:=kQ (s:=s) (st:=b) (by rw[q]at g;exact g.2.1);have r:=Au (KF s b);simp only[Dx];rw[q]at g;simp only[q];simp only at g;obtain⟨j,k⟩:=wM (y8 s b);obtain⟨o,w⟩:=wM (Vl (KF s b));rw[w]at r;rw[k]at i;simp only[k,w];have hd:j.d=st.d:=i.2.2.2.2.trans g.2.2.1;have t:=Vn (s:=s) i.2.1;split
 ·rename_i y;exact⟨i.2.1,hd,fun e=>absurd e y⟩
 split
 ·exact⟨t.2.1,t.2.2.1.trans hd,fun e=>absurd e t.2.2.2⟩
 rename_i z;have c:=Z8 (s:=s) (Q6 o) i.2.1;have A:=za5 o (by omega) (by omega);obtain⟨u,l⟩:=wM (Yx s j (Q6 o));rw[l]at c;simp only[l];split
 ·have m:=kQ (s:=s) c.2.1;have f:=oz (s:=s) m.2.1;have v:=Vn (s:=s) m.2.1;split
  ·refine⟨f.1,by rw[f.2.1,m.2.2.2.2,c.2.2.1,hd],fun e=>?_⟩;have n:=f.2.2.1 e;have x:=c.2.2.2 (by rw[<-m.2.2.1];exact n.1);have B:=kv (JA s zy (y8 s u)).1;rw[Jw];simp only[Cnd.attr,Cnd.ki,Cnd.pat,Cnd.name,Cnd.args,kh,eD,ze];exact⟨by omega,by omega⟩
  ·exact⟨v.2.1,by rw[v.2.2.1,m.2.2.2.2,c.2.2.1,hd],fun e=>absurd e v.2.2.2⟩
 split
 ·have f:=oz (s:=s) c.2.1;refine⟨f.1,by rw[f.2.1,c.2.2.1,hd],fun e=>?_⟩;have n:=f.2.2.1 e;have x:=c.2.2.2 n.1;rw[Jw];simp only[Cnd.attr,Cnd.ki,Cnd.pat,Cnd.name,Cnd.args,kh,eD,ze];exact⟨by omega,by omega⟩
 ·have f:=zed (s:=s) c.2.1;refine⟨f.1,by rw[f.2.1,c.2.2.1,hd],fun e=>?_⟩;have n:=f.2.2 e;have x:=c.2.2.2 n.1;rw[Jw];simp only[Cnd.attr,Cnd.ki,Cnd.pat,Cnd.name,Cnd.args,eD,ze];exact⟨by omega,by omega⟩
theorem cn:∀(k:Nat) (st:Pst),st.p<=s.length->CoLe s st (iN s zy jB k st)
 | 0,st,h=>by refine⟨h,rfl,fun e=>⟨e,zk _,?_⟩⟩;rw[Jw];simp[iN,zC,Cnd.attr,Cnd.ki,Cnd.pat,Cnd.name,Cnd.args,kh,eD]
 |k+1,st,h=>by
  have t:=cn k;have a:=kR (s:=s) [97,108,108] h;have b:=kR (s:=s) [97,110,121] a.2.1;have c:=kR (s:=s) [110,111,116] b.2.1;have d:=kR (s:=s) [105,110] c.2.1;have f:=kR (s:=s) [104,97,115] d.2.1;have g:=kR (s:=s) [46] f.2.1;rw[iN];simp only;obtain⟨D,u,K⟩:∃D u,kz s st [97,108,108]=(D,u):=⟨_,_,rfl⟩;simp only[K]at a b c d f g⊢;obtain⟨E,v,L⟩:∃E v,kz s u [97,110,121]=(E,v):=⟨_,_,rfl⟩;simp only[L]at b c d f g⊢;obtain⟨F,z,N⟩:∃F z,kz s v [110,111,116]=(F,z):=⟨_,_,rfl⟩;simp only[N]at c d f g⊢;obtain⟨G,A,P⟩:∃G A,kz s z [105,110]=(G,A):=⟨_,_,rfl⟩;simp only[P]at d f g⊢;obtain⟨H,B,Q⟩:∃H B,kz s A [104,97,115]=(H,B):=⟨_,_,rfl⟩;simp only[Q]at f g⊢;obtain⟨I,J,R⟩:∃I J,kz s B [46]=(I,J):=⟨_,_,rfl⟩;simp only[R]at g⊢;simp only[zd,ze]at a b c d f g;have C:∀(x:Int) (l:List Cnd),(Cnd.mk x [] 0 [] [] [] l).cb=1+eD l:=fun x l=>by rw[Jw];simp[Cnd.attr,Cnd.ki,Cnd.pat,Cnd.name,Cnd.args,kh]
  split
  ·rename_i n;have y:=a.2.2.2.2 n;obtain⟨o,q,r⟩:=RY t a.2.1;refine⟨o,q.trans a.2.2.2.1,fun e=>?_⟩;have j:=r e;simp only at j⊢;rw[C];exact⟨y.1,by omega,by omega⟩
  split
  ·rename_i n;have y:=b.2.2.2.2 n;obtain⟨o,q,r⟩:=RY t b.2.1;refine⟨o,by rw[show _=_ from q,b.2.2.2.1,a.2.2.2.1],fun e=>?_⟩;have j:=r e;simp only at j⊢;rw[C];exact⟨by rw[<-a.2.2.1];exact y.1,by omega,by omega⟩
  split
  ·rename_i n;have y:=c.2.2.2.2 n;obtain⟨o,q,r⟩:=zec t c.2.1;refine⟨o,by rw[show _=_ from q,c.2.2.2.1,b.2.2.2.1,a.2.2.2.1],fun e=>?_⟩;have j:=r e;simp only at j⊢;rw[C];exact⟨by rw[<-a.2.2.1,<-b.2.2.1];exact y.1,by omega,by omega⟩
  split
  ·rename_i n;have y:=d.2.2.2.2 n;have i:=Aq (s:=s) d.2.1;refine⟨i.2.1,by rw[show _=_ from i.2.2.1,d.2.2.2.1,c.2.2.2.1,b.2.2.2.1,a.2.2.2.1],fun e=>?_⟩;rw[Jw];simp only[Cnd.attr,Cnd.ki,Cnd.pat,Cnd.name,Cnd.args,kh,eD,ze];exact⟨by rw[<-a.2.2.1,<-b.2.2.1,<-c.2.2.1];exact y.1,by omega,by omega⟩
  split
  ·rename_i n;have y:=f.2.2.2.2 n;have m:=Z8 (s:=s) [46] f.2.1;have i:=Aq (s:=s) m.2.1;refine⟨i.2.1,by rw[show _=_ from i.2.2.1,m.2.2.1,f.2.2.2.1,d.2.2.2.1,c.2.2.2.1,b.2.2.2.1,a.2.2.2.1],fun e=>?_⟩;rw[Jw];simp only[Cnd.attr,Cnd.ki,Cnd.pat,Cnd.name,Cnd.args,kh,eD,ze];exact⟨by rw[<-a.2.2.1,<-b.2.2.1,<-c.2.2.1,<-d.2.2.1];exact y.1,by omega,by omega⟩
  split
  ·rename_i n;have y:=g.2.2.2.2 n;obtain⟨o,q,r⟩:=zee g.2.1;refine⟨o,by rw[q,g.2.2.2.1,f.2.2.2.1,d.2.2.2.1,c.2.2.2.1,b.2.2.2.1,a.2.2.2.1],fun e=>?_⟩;have j:=r e;exact⟨by rw[<-a.2.2.1,<-b.2.2.1,<-c.2.2.1,<-d.2.2.1,<-f.2.2.1];exact y.1,by omega,by omega⟩
  ·have w:=Vn (s:=s) g.2.1;exact⟨w.2.1,by rw[show _=_ from w.2.2.1,g.2.2.2.1,f.2.2.2.1,d.2.2.2.1,c.2.2.2.1,b.2.2.2.1,a.2.2.2.1],fun e=>absurd e w.2.2.2⟩
end
theorem oF{Y:Hp}{Z:Nat}{v:O}{l:List Cnd}(f:qN Y Z 25 7 v (l.map Cnd.V))(x:Cnd)(g:l.length<100000000000):∃Y2,jF prog (qf Y Z (some ⟨25,7,true,[x.V]⟩)) (Z+1) 23 23 v (.own Z 0 1)=some (.own (Z+1) 0 (l.length+1),Y2,Z+2)/\qN Y2 (Z+2) 25 7 (.own (Z+1) 0 (l.length+1)) ((l++[x]).map Cnd.V)/\∀j,j<Z->(∀n,v≠.own j 0 n)->Y2 j=Y j:=by
 have a:=f.ji (P:=prog) (t:=23) (c:=x.V) el23 sz25 by25 ze25 (by simp) (by omega) (by simp[maxLen];omega) (by simp;omega);have b:=qN.after (Y:=Y) (Z:=Z) (e:=25) (s:=7) (v:=v) (xs:=l.map Cnd.V) (c:=x.V) (tmp:=some ⟨25,7,true,[x.V]⟩);rw[yj]at a;refine⟨_,a,?_,fun j h d=>?_⟩
 ·rw[kq];simpa using b
 ·rw[w5 _ _ _ _ (by omega),yr f _ j d,w5 _ _ _ _ (by omega)]
theorem sR{cs:zb}{Y:Hp}{Z:Nat}{v:O}{l:List Cnd}(b:qN Y Z 25 7 v (l.map Cnd.V))(a:Y 0=some (zz TP cs))(c:Nat):ig TP cs (.sl 7 (l.map Cnd.V)) v Y c:=by
 have d:=qZ b a rfl;rcases b with⟨rfl,f⟩|⟨id,hid,rfl,g⟩
 ·have:l=[]:=by simpa using f
  subst this;exact qc rfl a (.nz 7) rfl
 ·have h:AM.freeze Y (.own id 0 (l.map Cnd.V).length)=some (.sl 7 (l.map Cnd.V),qf Y id none):=by simp[AM.freeze,zO,qp,g];exact qi (by simp)
  exact qc h (by rw[zc _ _ _ _ (fun e=>d _ (by rw[<-e]))];exact a) .id rfl
def PreC(k:Nat)(st:Pst):Prop:=102<=st.d+k/\(st.d<=100\/st.e≠0/\st.d<=101)
def PreA(k:Nat)(st:Pst):Prop:=st.e=0/\st.d<=100/\102<=st.d+k+1
noncomputable abbrev dZ (s:za) (k:Nat) (st:Pst):Cnd×Pst:=iN s zy jB k st
noncomputable def R0 (k:Nat):AM.Spec:=mP aU (fun _ st _=>PreC k st) (fun s st _=>(dZ s k st).2) (fun s st _=>.agg (dZ s k st).1.V)
theorem ea{k:Nat}{s:za}{st:Pst}{Y:Hp}{id Z:Nat}(a:Y id=some (yg s st))(hs:s.length<=20000)(b:st.p<=s.length)(c:PreC k st):R0 k [.ref id 0 0] Y Z=some (.agg (dZ s k st).1.V,qf Y id (some (yg s (dZ s k st).2)),Z):=Zg y5 (fun _=>rfl) () a hs b c
noncomputable def arS (k:Nat):AM.Spec:=mP aU (fun _ st _=>PreA k st) (fun s st _=>(oi s (dZ s k) st).2) (fun s st _=>.sl 7 ((oi s (dZ s k) st).1.map Cnd.V))
theorem DV{k:Nat}{s:za}{st:Pst}{Y:Hp}{id Z:Nat}(a:Y id=some (yg s st))(hs:s.length<=20000)(b:st.p<=s.length)(c:PreA k st):arS k [.ref id 0 0] Y Z=some (.sl 7 ((oi s (dZ s k) st).1.map Cnd.V),qf Y id (some (yg s (oi s (dZ s k) st).2)),Z):=Zg y5 (fun _=>rfl) () a hs b c
noncomputable def siS (k:Nat):AM.Spec:=mP aU (fun _ st _=>PreA k st) (fun s st _=>(Ao s (dZ s k) st).2) (fun s st _=>.sl 7 ((Ao s (dZ s k) st).1.map Cnd.V))
theorem R1{k:Nat}{s:za}{st:Pst}{Y:Hp}{id Z:Nat}(a:Y id=some (yg s st))(hs:s.length<=20000)(b:st.p<=s.length)(c:PreA k st):siS k [.ref id 0 0] Y Z=some (.sl 7 ((Ao s (dZ s k) st).1.map Cnd.V),qf Y id (some (yg s (Ao s (dZ s k) st).2)),Z):=Zg y5 (fun _=>rfl) () a hs b c
noncomputable abbrev Carp (k:Nat):Ctx:=qj prog [(34,Ap),(22,oj),(20,Re),(16,DC),(7,R0 k)]
theorem HY{k:Nat}(h:zi prog 7 (R0 k)):Gd (Carp k):=qQ mixed ⟨Kt,XM,fJ,ay,h,trivial⟩
set_option maxHeartbeats 8000000 in
theorem MB{k:Nat}(h:zi prog 7 (R0 k)):zi prog 18 (siS k):=
 ya (C:=Carp k) func18 (by kernel_rfl) rfl TP _ fun cs az cs' r hF=>by
  obtain⟨s,st,⟨⟩,rfl,rfl,hs,Y,⟨x,hd0,hk0⟩,rfl,rfl⟩:=vf hF;refine⟨by simp[aU,f18],?_⟩;clear hF;have B:=HY h;have y:=AF (s:=s) Y;have j:=kQ (s:=s) Y;obtain⟨w,hw⟩:=wM (KF s st);obtain⟨n,z⟩:=wM (y8 s st);obtain⟨q,g⟩:=wM (if w=[40]/\100<=st.d then n.fail 0 2 else n);have t:VD s st=(Yx s q [40]).dn:=by rw[<-g,<-z,<-hw];simp only[VD,zg x]
  have H:q.p<=s.length/\q.d=st.d:=by
   rw[<-g,<-z];split
   ·rw[(JB _ _ _).1,(JB _ _ _).2];exact⟨j.2.1,j.2.2.2.2⟩
   ·exact⟨j.2.1,j.2.2.2.2⟩
  rw[z]at j;have T:=Z8 (s:=s) [40] H.1;refine Wp.cut B (fun M Y Z=>M 0=.ref 0 0 0/\Y 0=some (yg s st)/\Z=1) (by kernel_rfl) (by simp[aU,zZ]) ?_;rintro M Y1 _ ⟨f,b,rfl⟩;have u:=b;simp only[zz,qd,zd,ze,zh,Nat.reduceAdd]at u;refine Wp.cut B (fun a Y Z=>a 0=.ref 0 0 0/\Y 0=some (yg s q)/\Z=1) (by kernel_rfl) ?_ ?_
  ·have I:=YW (Z:=1) b hs Y;rw[hw,z]at I;have gf:=Vm (Y:=qf Y1 0 (some (yg s n))) (id:=0) (Z:=1) 0 2 (by simp) hs j.2.1;have hda:n.d=st.d:=j.2.2.2.2;simp only[zz,qd,zd,ze,zh,Nat.reduceAdd,qV,qu]at I gf;by_cases v:w=[40]
   ·by_cases hd:100<=st.d
    ·rw[zg ⟨v,hd⟩]at g;have D:(100:Int)<=n.d:=by omega
     simp[f,u,x,I,v,D,gf,<-g,zz,qd]
    ·rw[zf (fun h=>hd h.2)]at g;have D:¬(100:Int)<=n.d:=by omega
     simp[f,u,x,I,v,D,<-g,zz,qd]
   ·rw[zf (fun h=>v h.1)]at g;have J:=jl v;simp[f,u,x,I,J,<-g,zz,qd]
  clear f b u M Y1;rintro M Y1 _ ⟨f,b,rfl⟩;have E:=Ku (Z:=1) [40] b hs H.1;obtain⟨K,U⟩:=wM (Yx s q [40]);rw[U]at E T t;refine Wp.cut B (fun a Y Z=>a 0=.ref 0 0 0/\Y 0=some (yg s K)/\Z=1) (by kernel_rfl) (by simp[f,E]) ?_;clear f b E M Y1;rintro M Y1 _ ⟨f,b,rfl⟩;obtain⟨m,L⟩:=wM (VD s st);rw[L]at y t;have W:=wj ((K.d:Int)+1);refine Wp.cut B (fun a Y Z=>a 0=.ref 0 0 0/\Y 0=some (yg s m)/\Z=1) (by kernel_rfl) ?_ ?_
  ·simp only[zz,qd,zd,ze,zh,Nat.reduceAdd]at b⊢;simp[f,b,W,t,Pst.dn]
  clear f b M Y1;rintro M Y1 _ ⟨f,b,rfl⟩;have N:=ea (k:=k) (Z:=1) b hs y.1 (by
   refine⟨by omega,?_⟩;by_cases he:m.e=0
   ·have:=y.2.2 he;exact .inl (by omega)
   ·exact .inr ⟨he,by omega⟩)
  have P:=cn k m y.1;simp only[Ao];rw[L];obtain⟨c,i,F⟩:∃c i,dZ s k m=(c,i):=⟨_,_,rfl⟩;have Q:i.p<=s.length:=by have:=P.1;rw[show iN s zy jB k m=(c,i)from F]at this;exact this
  have hdE:i.d=m.d:=by have:=P.2.1;rw[show iN s zy jB k m=(c,i)from F]at this;exact this
  rw[F]at N⊢;simp only at N⊢;obtain⟨l,X⟩:∃l:List Cnd,l=[c]:=⟨_,rfl⟩;rw[<-X];refine Wp.cut B (fun a Y Z=>a 0=.ref 0 0 0/\qN Y Z 25 7 (a 3) (l.map Cnd.V)/\Y 0=some (yg s i)) (by kernel_rfl) ?_ ?_
  ·simp only[qv]at N;simp[f,N,zs,zF,zr,zc];exact .inr ⟨1,by simp,by simp[X],by simp[X,qv]⟩
  clear f b N M Y1;rintro A Y2 SC ⟨f,G,b⟩;have E:=Ku (Z:=SC) [41] b hs Q;have hmE:=Z8 (s:=s) [41] Q;obtain⟨o,Tn⟩:=wM (Yx s i [41]);rw[Tn]at E hmE⊢;have R:=qZ G b rfl;refine Wp.cut B (fun a Y Z=>a 0=.ref 0 0 0/\a 3=A 3/\qN Y Z 25 7 (A 3) (l.map Cnd.V)/\Y 0=some (yg s o)) (by kernel_rfl) (by simp[f,E];simpa using G.put R (some (yg s o))) ?_;clear f b E;rintro M Y1 Z ⟨f,S,G,b⟩;have hw2:i6.wrap ((o.d:Int)-1)=((o.d-1:Nat):Int):=by rw[wU (by omega) (by omega)];omega
  refine Wp.cut B (fun a Y Z=>a 3=A 3/\qN Y Z 25 7 (A 3) (l.map Cnd.V)/\Y 0=some (yg s o.up)) (by kernel_rfl) ?_ ?_
  ·have O2:=G.put R (some (yg s o.up));simp only[zz,qd,Pst.up,zd,ze,zh,Nat.reduceAdd]at b O2⊢;simp[f,S,b,hw2];simpa using O2
  clear f S G b;rintro M Y1 Z ⟨S,G,b⟩;refine Wp.of B (by kernel_rfl) ?_;simp[S,f18];exact sR G b _
def ArI(s:za)(k D:Nat)(r:List Cnd×Pst)(n:Nat)(st:St):Prop:=st.M 0=.ref 0 0 0/\0<st.Z/\∃l a j,qN st.Y st.Z 25 7 (st.M 3) (l.map Cnd.V)/\st.Y 0=some (yg s a)/\a.p<=s.length/\a.d=D/\W0 s a=n/\n<=j/\l.length+n<=s.length+2/\Dy s (dZ s k) j l a=r
def ArE(s:za)(D:Nat)(r:List Cnd×Pst)(st:St):Prop:=st.M 0=.ref 0 0 0/\0<st.Z/\∃l a,qN st.Y st.Z 25 7 (st.M 3) (l.map Cnd.V)/\st.Y 0=some (yg s a)/\a.p<=s.length/\a.d=D/\(l,a)=r
set_option maxHeartbeats 8000000 in
theorem MC{k:Nat}(h:zi prog 7 (R0 k)):zi prog 17 (arS k):=
 ya (C:=Carp k) func17 (by kernel_rfl) rfl TP _ fun cs az cs' r hF=>by
  obtain⟨s,st,⟨⟩,rfl,rfl,hs,Y,⟨X,hd0,hk0⟩,rfl,rfl⟩:=vf hF;refine⟨by simp[aU,f17],?_⟩;clear hF;have D:=HY h;have A:=AF (s:=s) Y;have B:=kQ (s:=s) Y;obtain⟨w,hw⟩:=wM (KF s st);obtain⟨E,hsa⟩:=wM (y8 s st);obtain⟨N,t⟩:=wM (if w=[40]/\100<=st.d then E.fail 0 2 else E);have P:VD s st=(Yx s N [40]).dn:=by rw[<-t,<-hsa,<-hw];simp only[VD,zg X]
  have hbp:N.p<=s.length/\N.d=st.d:=by
   rw[<-t,<-hsa];split
   ·rw[(JB _ _ _).1,(JB _ _ _).2];exact⟨B.2.1,B.2.2.2.2⟩
   ·exact⟨B.2.1,B.2.2.2.2⟩
  rw[hsa]at B;have sY:=Z8 (s:=s) [40] hbp.1;refine Wp.cut D (fun M Y Z=>M 0=.ref 0 0 0/\Y 0=some (yg s st)/\Z=1) (by kernel_rfl) (by simp[aU,zZ]) ?_;rintro M Y1 _ ⟨f,g,rfl⟩;have m:=g;simp only[zz,qd,zd,ze,zh,Nat.reduceAdd]at m;refine Wp.cut D (fun a Y Z=>a 0=.ref 0 0 0/\Y 0=some (yg s N)/\Z=1) (by kernel_rfl) ?_ ?_
  ·have Q:=YW (Z:=1) g hs Y;rw[hw,hsa]at Q;have gf:=Vm (Y:=qf Y1 0 (some (yg s E))) (id:=0) (Z:=1) 0 2 (by simp) hs B.2.1;have hda:E.d=st.d:=B.2.2.2.2;simp only[zz,qd,zd,ze,zh,Nat.reduceAdd,qV,qu]at Q gf;by_cases q:w=[40]
   ·by_cases hd:100<=st.d
    ·rw[zg ⟨q,hd⟩]at t;have hd':(100:Int)<=E.d:=by omega
     simp[f,m,X,Q,q,hd',gf,<-t,zz,qd]
    ·rw[zf (fun h=>hd h.2)]at t;have hd':¬(100:Int)<=E.d:=by omega
     simp[f,m,X,Q,q,hd',<-t,zz,qd]
   ·rw[zf (fun h=>q h.1)]at t;have R:=jl q;simp[f,m,X,Q,R,<-t,zz,qd]
  clear f g m M Y1;rintro M Y1 _ ⟨f,g,rfl⟩;have gm:=Ku (Z:=1) [40] g hs hbp.1;obtain⟨stc,hsc⟩:=wM (Yx s N [40]);rw[hsc]at gm sY P;refine Wp.cut D (fun a Y Z=>a 0=.ref 0 0 0/\Y 0=some (yg s stc)/\Z=1) (by kernel_rfl) (by simp[f,gm]) ?_;clear f g gm M Y1;rintro M Y1 _ ⟨f,g,rfl⟩;obtain⟨i,hs1⟩:=wM (VD s st);rw[hs1]at A P;have hw1:=wj ((stc.d:Int)+1);refine Wp.cut D (fun a Y Z=>a 0=.ref 0 0 0/\Y 0=some (yg s i)/\Z=1) (by kernel_rfl) ?_ ?_
  ·simp only[zz,qd,zd,ze,zh,Nat.reduceAdd]at g⊢;simp[f,g,hw1,P,Pst.dn]
  clear f g M Y1;rintro M Y1 _ ⟨f,g,rfl⟩;obtain⟨r,o⟩:∃r:List Cnd×Pst,(if i.e=0 then(if KF s i=[41]then([],y8 s i)else Dy s (dZ s k) (s.length+1) [(dZ s k (y8 s i)).1] (dZ s k (y8 s i)).2)else([],i))=r:=⟨_,rfl⟩;have hres:oi s (dZ s k) st=(r.1,(Yx s r.2 [41]).up):=by rw[<-o,<-hs1];rfl
  rw[hres];simp only;refine Wp.cut D (fun a Y Z=>a 0=.ref 0 0 0/\a 3=.nil/\Y 0=some (yg s i)/\Z=1) (by kernel_rfl) (by simp[f,g]) ?_;clear f g M Y1;rintro M Y1 _ ⟨f,L,g,rfl⟩;refine Wp.seq (Wp.mono (K:=fun e st'=>e=.normal/\ArE s (st.d+1) r st') ?_ ?_)
  ·have m:=g;simp only[zz,qd,zd,ze,zh,Nat.reduceAdd]at m;by_cases he:i.e=0
   case neg=>rw[zf he]at o;refine Wp.of D (by kernel_rfl) ?_;simp[f,m,he,Zw he];exact⟨by simp[f],by simp,[],i,by simp[L];exact .inl ⟨rfl,rfl⟩,g,A.1,A.2.1,o⟩
   rw[zg he]at o;have u:=kQ (s:=s) A.1;have Q:=YW (Z:=1) g hs A.1;obtain⟨S,hsd⟩:=wM (y8 s i);rw[hsd]at Q u o;by_cases q:KF s i=[41]
   ·rw[zg q]at o;rw[q]at Q;refine Wp.of D (by kernel_rfl) ?_;simp[f,m,he,Q];exact⟨by simp[f],by simp,[],S,by simp[L];exact .inl ⟨rfl,rfl⟩,by simp,u.2.1,u.2.2.2.2.trans A.2.1,o⟩
   rw[zf q]at o;have R:=jl q;have hb3:=A.2.2 he;refine Wp.cut D (fun a Y Z=>a 0=.ref 0 0 0/\a 3=.nil/\a 41=yh true/\Y 0=some (yg s S)/\Z=1) (by kernel_rfl) (by simp[f,L,m,he,Q,R]) ?_;clear f L g m Q M Y1;rintro M Y1 _ ⟨f,L,h41,g,rfl⟩;refine Wp.cond (b:=true) (by simp[AM.get,h41]) ?_;simp only[zK];have gc:=ea (k:=k) (Z:=1) g hs u.2.1 ⟨by omega,.inl (by omega)⟩;have T:=cn k S u.2.1;obtain⟨c,v,GN⟩:∃c v,dZ s k S=(c,v):=⟨_,_,rfl⟩;rw[show iN s zy jB k S=(c,v)from GN]at T;rw[GN]at gc o;simp only at gc o;obtain⟨F,hc2,U⟩:=T;simp only at F hc2 U;obtain⟨Y2,a1,O2,f2⟩:=oF (l:=[]) (Z:=1) (.inl ⟨rfl,rfl⟩:qN (qf Y1 0 (some (yg s v))) 1 25 7 .nil (([]:List Cnd).map Cnd.V)) c (by simp);have b2:Y2 0=some (yg s v):=by rw[f2 0 (by omega) (fun n e=>by cases e)];simp
   have hlp:=dW s v;refine Wp.cut D (fun a Y Z=>ArI s k (st.d+1) r (W0 s v) ⟨a,Y,Z⟩) (by kernel_rfl) ?_ ?_
   ·simp only[qv]at a1 gc;simp at a1;simp[f,L,gc,a1,zs,zF,zr];exact⟨by simp[f],by simp,[c],v,s.length+1,by simpa using O2,b2,F,by omega,rfl,hlp.2,by simp;omega,o⟩
   clear f L h41 g gc a1 O2 f2 b2 M Y1 Y2;rintro M Y1 Z hI;refine Wp.block (Wp.loop (ArI s k (st.d+1) r) _ hI ?_);clear hI o GN F hc2 U hlp M Y1 Z;rintro n ⟨M,Y1,Z⟩ ⟨f,W,l,st4,j,G,g,hpl,hd4,hn,hnj,hln,o⟩;simp only at f W G g;have hlp:=dW s st4;have H:=qZ G g rfl;obtain⟨j,rfl⟩:∃j',j=j'+1:=⟨j-1,by omega⟩;rw[Dy]at o;have g1:=ZH (Z:=Z) [44] g hs hpl;have I:=kR (s:=s) [44] hpl;obtain⟨b1,y,ht⟩:∃b1 y,kz s st4 [44]=(b1,y):=⟨_,_,rfl⟩;rw[ht]at g1 o I;simp only at g1 o I;cases b1
   ·simp only[zm,zQ]at o;refine Wp.of D (by kernel_rfl) ?_;simp[f,g1];exact⟨by simp[f],W,l,y,by simpa using G.put H (some (yg s y)),by simp,I.2.1,by omega,o⟩
   ·simp only[zK]at o;have ht5:=I.2.2.2.2 rfl;simp only[zd,ze]at ht5;have g2:=ea (k:=k) (Y:=qf Y1 0 (some (yg s y))) (id:=0) (Z:=Z) (by simp) hs I.2.1 ⟨by omega,.inl (by omega)⟩;have T:=cn k y I.2.1;obtain⟨x,z,hx⟩:∃x z,dZ s k y=(x,z):=⟨_,_,rfl⟩;rw[show iN s zy jB k y=(x,z)from hx]at T;rw[hx]at g2 o;simp only at g2 o;obtain⟨F,hc2,U⟩:=T;simp only at F hc2 U;rw[qV]at g2;obtain⟨Y2,a1,O2,f2⟩:=oF (G.put H (some (yg s z))) x (by omega);have b2:Y2 0=some (yg s z):=by rw[f2 0 W H];simp
    have hlt:W0 s z<n:=by
     rw[<-hn,oB ht5.1];unfold W0;split
     ·rename_i he6;have:=U he6;omega
     ·omega
    simp only[qv]at a1 g2;refine Wp.of D (by kernel_rfl) ?_;simp[f,g1,g2,a1,zs,zF,zr];exact⟨W0 s z,hlt,by simp[f],by simp only;omega,l++[x],z,j,by simpa using O2,b2,F,by omega,rfl,by omega,by simp;omega,o⟩
  ·rintro e ⟨σ2,Y2,SC⟩ ⟨rfl,f,W,l,stF,G,g,hpE,hdE,rfl⟩;simp only at f W G g;simp only[ZQ];have gm:=Ku (Z:=SC) [41] g hs hpE;have hmE:=Z8 (s:=s) [41] hpE;obtain⟨J,Tn⟩:=wM (Yx s stF [41]);rw[Tn]at gm hmE⊢;have H:=qZ G g rfl;refine Wp.cut D (fun a Y Z=>a 0=.ref 0 0 0/\a 3=σ2 3/\qN Y Z 25 7 (σ2 3) (l.map Cnd.V)/\Y 0=some (yg s J)) (by kernel_rfl) (by simp[f,gm];simpa using G.put H (some (yg s J))) ?_;clear f g gm;rintro M Y1 Z ⟨f,L,G,g⟩;have hw2:i6.wrap ((J.d:Int)-1)=((J.d-1:Nat):Int):=by rw[wU (by omega) (by omega)];omega
   refine Wp.cut D (fun a Y Z=>a 3=σ2 3/\qN Y Z 25 7 (σ2 3) (l.map Cnd.V)/\Y 0=some (yg s J.up)) (by kernel_rfl) ?_ ?_
   ·have O2:=G.put H (some (yg s J.up));simp only[zz,qd,Pst.up,zd,ze,zh,Nat.reduceAdd]at g O2⊢;simp[f,L,g,hw2];simpa using O2
   clear f L G g;rintro M Y1 Z ⟨L,G,g⟩;refine Wp.of D (by kernel_rfl) ?_;simp[L,f17];exact sR G g _
theorem MD{cs:zb}{Y:Hp}{Z:Nat}{v:O}{l:List Cnd}(b:qN Y Z 25 7 v (l.map Cnd.V))(a:Y 0=some (zz TQ cs))(c:Nat):ig TQ cs (.sl 7 (l.map Cnd.V)) v Y c:=by
 have d:=qZ b a rfl;rcases b with⟨rfl,f⟩|⟨id,hid,rfl,g⟩
 ·have:l=[]:=by simpa using f
  subst this;exact qc rfl a (.nz 7) rfl
 ·have h:AM.freeze Y (.own id 0 (l.map Cnd.V).length)=some (.sl 7 (l.map Cnd.V),qf Y id none):=by simp[AM.freeze,zO,qp,g];exact qi (by simp)
  exact qc h (by rw[zc _ _ _ _ (fun e=>d _ (by rw[<-e]))];exact a) .id rfl
noncomputable def oG (k:Nat):AM.Spec:=mQ aU (fun _ st _=>st.b=none/\st.d<=100/\102<=st.d+k) (fun s st _=>(VN s k st).2) (fun s st _=>.agg (VN s k st).1.V)
theorem ec{k:Nat}{s:za}{st:Qst}{Y:Hp}{id Z:Nat}(a:Y id=some (yq s st))(hs:s.length<=20000)(c:st.p<=s.length)(e:st.b=none/\st.d<=100/\102<=st.d+k):oG k [.ref id 0 0] Y Z=some (.agg (VN s k st).1.V,qf Y id (some (yq s (VN s k st).2)),Z):=Wk y5 (fun _=>rfl) () a hs c e
noncomputable def arQS (k:Nat):AM.Spec:=mQ aU (fun _ st _=>st.d<=100/\101<=st.d+k) (fun s st _=>(pX s (VN s k) st).2) (fun s st _=>.sl 7 ((pX s (VN s k) st).1.map Cnd.V))
theorem DW{k:Nat}{s:za}{st:Qst}{Y:Hp}{id Z:Nat}(a:Y id=some (yq s st))(hs:s.length<=20000)(b:st.p<=s.length)(c:st.d<=100/\101<=st.d+k):arQS k [.ref id 0 0] Y Z=some (.sl 7 ((pX s (VN s k) st).1.map Cnd.V),qf Y id (some (yq s (pX s (VN s k) st).2)),Z):=Wk y5 (fun _=>rfl) () a hs b c
noncomputable abbrev Carq (k:Nat):Ctx:=qj prog [(12,pS),(27,Rk),(13,JR),(25,Ar),(11,oG k)]
theorem za6{k:Nat}(h:wO False prog 11 (oG k)):AM.jH False (Carq k) g0F:=qQ mixed ⟨Yz.lax,ga.lax,xZ.lax,KD.lax,h,trivial⟩
def AqI(s:za)(k b:Nat)(r:List Cnd×Qst)(n:Nat)(st:St):Prop:=st.M 0=.ref 0 0 0/\0<st.Z/\∃l a j,qN st.Y st.Z 25 7 (st.M 4) (l.map Cnd.V)/\st.Y 0=some (yq s a)/\a.p<=s.length/\a.d=b/\s.length-a.p+1=n/\n<=j/\l.length<=a.p/\DT s (VN s k) j l a=r
def AqE(s:za)(b:Nat)(r:List Cnd×Qst)(st:St):Prop:=st.M 0=.ref 0 0 0/\0<st.Z/\∃l a,qN st.Y st.Z 25 7 (st.M 4) (l.map Cnd.V)/\st.Y 0=some (yq s a)/\a.p<=s.length/\a.d=b/\(l,a)=r
set_option maxHeartbeats 8000000 in
theorem ME{k:Nat}(h:wO False prog 11 (oG k)):wO False prog 26 (arQS k):=
 ya (C:=Carq k) func26 (by kernel_rfl) rfl TQ _ fun cs az cs' r hF=>by
  obtain⟨s,st,⟨⟩,rfl,rfl,hs,Y,⟨hd0,hk0⟩,rfl,rfl⟩:=ZR hF;refine⟨by simp[aU,f26],?_⟩;clear hF;have z:=za6 h;have W:=Q7 (s:=s) Y;have B:=AB (s:=s) Y;obtain⟨D,H⟩:=wM (yX s st);have X:=JS (s:=s) [40] W.2.1;obtain⟨I,J⟩:=wM (xz s D [40]);obtain⟨q,hq⟩:=wM (Y5 s st);have L:Y4 I D.p=q:=by rw[<-hq,<-J,<-H];rfl
  rw[H]at W X;rw[J]at X;rw[hq]at B;refine Wp.cut z (fun M Y Z=>M 0=.ref 0 0 0/\M 2=.nil/\Y 0=some (yq s st)/\Z=1) (by kernel_rfl) (by simp[aU,zZ]) ?_;rintro M Y1 _ ⟨f,h2,g,rfl⟩;have u:=Kv (id:=0) (Z:=1) g hs Y;rw[H]at u;refine Wp.cut z (fun a Y Z=>a 0=.ref 0 0 0/\Y 0=some (yq s D)/\Z=1) (by kernel_rfl) (by simp[f,u]) ?_;clear f h2 g u M Y1;rintro M Y1 _ ⟨f,g,rfl⟩;refine Wp.cut z (fun a Y Z=>a 0=.ref 0 0 0/\a 3=int D.p/\Y=Y1/\Z=1) (by kernel_rfl) (by have m:=g;simp only[zz,zS,zd,ze,zh,Nat.reduceAdd]at m;simp[f,m]) ?_
  clear f M;rintro M Y1 _ ⟨f,h3,rfl,rfl⟩;have u:=YY (id:=0) (Z:=1) [40] g hs W.2.1 (by decide);rw[J]at u;refine Wp.cut z (fun a Y Z=>a 0=.ref 0 0 0/\a 3=int D.p/\Y 0=some (yq s I)/\Z=1) (by kernel_rfl) (by simp[f,h3,u]) ?_;clear f h3 g u M Y1;rintro M Y1 _ ⟨f,h3,g,rfl⟩;refine Wp.cut z (fun a Y Z=>a 0=.ref 0 0 0/\Y 0=some (yq s q)/\Z=1) (by kernel_rfl) ?_ ?_
  ·have gf:=vu (id:=0) (Z:=1) D.p 2 g hs X.2.1;have m:=g;simp only[zz,zS,zd,ze,zh,Nat.reduceAdd]at m;unfold Y4 at L;by_cases hd:100<=I.d
   ·have hd':(100:Int)<=I.d:=by omega
    rw[zg hd]at L;rw[L]at gf;simp[f,h3,m,hd',gf]
   ·have hd':¬(100:Int)<=I.d:=by omega
    rw[zf hd]at L;subst L;simp[f,h3,m,hd',zz,zS]
  clear f h3 g M Y1;rintro M Y1 _ ⟨f,g,rfl⟩;have N:=jd (s:=s) [41] B.2.1;have u:=xT (id:=0) (Z:=1) [41] g hs B.2.1 (by decide);have m:=g;simp only[zz,zS,zd,ze,zh,Nat.reduceAdd]at m;unfold pX;rw[hq];by_cases E:q.b=none
  case neg=>rw[zg E];have R:(0:Int)<=q.bad:=QC E;refine Wp.seq (Wp.of z (by kernel_rfl) ?_);simp[f,m,R,f26];exact qc rfl (by simp[m,zz,zS]) (.nz 7) rfl
  have R:¬(0:Int)<=q.bad:=by rw[WG E];decide
  rw[zf (by simpa using E)];obtain⟨b1,v,ht⟩:∃b1 v,jD s q [41]=(b1,v):=⟨_,_,rfl⟩;have zhw:XR s q=v.dp (q.d+1):=by unfold XR;rw[ht]
  rw[ht]at u N;rw[ht,zhw];simp only at u N⊢;cases b1
  case true=>simp only[zK];refine Wp.seq (Wp.of z (by kernel_rfl) ?_);simp[f,m,R,u,f26];exact qc rfl (by simp) (.nz 7) rfl
  simp only[zm,zQ];refine Wp.cut z (fun a Y Z=>a 0=.ref 0 0 0/\Y 0=some (yq s v)/\Z=1) (by kernel_rfl) (by simp[f,m,R,u]) ?_;clear f g m u M Y1;rintro M Y1 _ ⟨f,g,rfl⟩;have hqd:=B.2.2.2 E;have hqdd:v.d=st.d:=N.2.2.2.1.trans B.2.2.1;have hqd2:q.d=st.d:=B.2.2.1;obtain⟨q2,hq2⟩:=wM (v.dp (q.d+1));have T:q2.p=v.p/\q2.d=st.d+1/\q2.b=v.b:=by rw[<-hq2,<-hqd2];exact⟨rfl,rfl,rfl⟩
  refine Wp.cut z (fun a Y Z=>a 0=.ref 0 0 0/\Y 0=some (yq s q2)/\Z=1) (by kernel_rfl) (by
   have m:=g;have hw1:=wj ((q.d:Int)+1);have Tq:(v.dp (q.d+1)).bad=v.bad/\(v.dp (q.d+1)).QO=v.QO/\(v.dp (q.d+1)).p=v.p/\(v.dp (q.d+1)).d=q.d+1:=⟨rfl,rfl,rfl,rfl⟩;have hqq:(v.d:Int)=q.d:=by omega
   simp only[zz,zS,zd,ze,zh,Nat.reduceAdd]at m⊢;simp[f,m,hw1,<-hq2,Tq,hqq]) ?_
  clear f g M Y1;rintro M Y1 _ ⟨f,g,rfl⟩;rw[hq2];have hqtb:v.b=none:=N.2.2.1.trans E;have U:q2.p<=s.length:=by rw[T.1];exact N.2.1
  have gc:=ec (k:=k) (id:=0) (Z:=1) g hs U ⟨T.2.2.trans hqtb,by omega,by omega⟩;have w:=ck (s:=s) k q2 U;obtain⟨c,P,GN⟩:∃c P,VN s k q2=(c,P):=⟨_,_,rfl⟩;rw[GN]at gc w;rw[GN];simp only at gc w⊢;obtain⟨r,F⟩:=wM (DT s (VN s k) (s.length+1) [c] P);rw[F];refine Wp.cut z (fun a Y Z=>AqI s k (st.d+1) r (s.length-P.p+1) ⟨a,Y,Z⟩) (by kernel_rfl) ?_ ?_
  ·simp only[qv]at gc;simp[f,gc,zs,zF,zr];exact⟨by simp[f],by simp,[c],P,s.length+1,.inr ⟨1,by simp,by simp,by simp[qv]⟩,by simp[zc],w.2.1,by omega,rfl,by omega,by simp;omega,F⟩
  clear f g gc M Y1;rintro M Y1 Z hI;refine Wp.seq (Wp.mono (K:=fun e st'=>e=.normal/\AqE s (st.d+1) r st') (Wp.block (Wp.loop (AqI s k (st.d+1) r) _ hI ?_)) ?_)
  ·clear hI F GN w M Y1 Z;rintro n ⟨M,Y1,Z⟩ ⟨f,Q,l,st4,j,A,g,hpl,hd4,hn,hnj,hln,F⟩;simp only at f Q A g;have t:=qZ A g rfl;obtain⟨j,rfl⟩:∃j',j=j'+1:=⟨j-1,by omega⟩;rw[DT]at F;have u:=xT (Z:=Z) [44] g hs hpl (by decide);have o:=jd (s:=s) [44] hpl;obtain⟨b1,y,ht5⟩:∃b1 y,jD s st4 [44]=(b1,y):=⟨_,_,rfl⟩;rw[ht5]at u F o;simp only at u F o;cases b1
   ·simp only[zm,zQ]at F;refine Wp.of z (by kernel_rfl) ?_;simp[f,u];exact⟨by simp[f],Q,l,y,by simpa using A.put t (some (yq s y)),by simp,o.2.1,by omega,F⟩
   ·simp only[zK]at F;have htt:=o.2.2.2.2 rfl;simp only[zd,ze]at htt;have h5b:y.b=none:=o.2.2.1.trans htt.1;have g2:=ec (k:=k) (Y:=qf Y1 0 (some (yq s y))) (id:=0) (Z:=Z) (by simp) hs o.2.1 ⟨h5b,by omega,by omega⟩;have w:=ck (s:=s) k y o.2.1;obtain⟨x,G,hx⟩:∃x G,VN s k y=(x,G):=⟨_,_,rfl⟩;rw[hx]at g2 F w;simp only at g2 F w;rw[qV]at g2;obtain⟨Y2,a1,O2,f2⟩:=oF (A.put t (some (yq s G))) x (by omega);have b2:Y2 0=some (yq s G):=by rw[f2 0 Q t];simp
    simp only[qv]at a1 g2;refine Wp.of z (by kernel_rfl) ?_;simp[f,u,g2,a1,zs,zF,zr];exact⟨s.length-G.p+1,by omega,by simp[f],by simp only;omega,l++[x],G,j,by simpa using O2,b2,w.2.1,by omega,rfl,by omega,by simp;omega,F⟩
  ·rintro e ⟨S,Y2,SC⟩ ⟨rfl,f,Q,l,i,A,g,hpE,hdE,rfl⟩;simp only at f Q A g;simp only[ZQ];have t:=qZ A g rfl;obtain⟨qz,hqz⟩:=wM (i.dp (i.d-1));have hqzp:qz.p<=s.length:=by rw[<-hqz];exact hpE
   have hw2:i6.wrap ((i.d:Int)-1)=((i.d-1:Nat):Int):=by rw[wU (by omega) (by omega)];omega
   refine Wp.cut z (fun a Y Z=>a 0=.ref 0 0 0/\a 4=S 4/\qN Y Z 25 7 (S 4) (l.map Cnd.V)/\Y 0=some (yq s qz)) (by kernel_rfl) ?_ ?_
   ·have O2:=A.put t (some (yq s qz));have Tq:(i.dp (i.d-1)).bad=i.bad/\(i.dp (i.d-1)).QO=i.QO/\(i.dp (i.d-1)).p=i.p/\(i.dp (i.d-1)).d=i.d-1:=⟨rfl,rfl,rfl,rfl⟩;rw[<-hqz]at O2⊢;simp only[zz,zS,Tq,zd,ze,zh,Nat.reduceAdd]at g O2⊢;simp[f,g,hw2];simpa using O2
   clear f g t;rintro M Y1 Z ⟨f,h4,A,g⟩;have t:=qZ A g rfl;have gm:=YY (id:=0) (Z:=Z) [41] g hs hqzp (by decide);have hres:(fS s (l,i)).2=xz s qz [41]:=by rw[<-hqz];rfl
   rw[hres];refine Wp.cut z (fun a Y Z=>a 4=S 4/\qN Y Z 25 7 (S 4) (l.map Cnd.V)/\Y 0=some (yq s (xz s qz [41]))) (by kernel_rfl) ?_ ?_
   ·have O2:=A.put t (some (yq s (xz s qz [41])));simp[f,h4,gm];simpa using O2
   clear f h4 A g gm t;rintro M Y1 Z ⟨h4,A,g⟩;refine Wp.of z (by kernel_rfl) ?_;simp[h4,f26];exact MD A g _
def rowU(us:List (O->O)):O->O
 | .sl s es=>.sl s (es.map (KQ us))
 |x=>x
theorem R2{us:List (O->O)}(p:∀u∈us,sX u):sX (rowU us):=fun w S y v h=>by
 cases h with
 | @sl es A cap s l q r t hs d f=>
  have b:∀{i:Nat} {c:zb},(es.map (KQ us))[i]?=some c->∃a,es[i]?=some a/\KQ us a=c:=fun{i c} h=>by simpa using h
  have x:∀{j:Nat} {a:zb} {g:O},(KQ us a)[j]?=some g->∃z,a[j]?=some z:=fun{j a g} h=>by obtain⟨o,_⟩:=zj.1 h;rw[V3]at o;exact⟨_,zo o⟩
  have:=wT.sl (w:=w) (S:=S) (es:=es.map (KQ us)) (A:=A) (cap:=cap) (s:=s) l q (by rw[yj];exact r) t (fun c B=>by
   obtain⟨a,k,rfl⟩:=qq.1 B;rw[V3];exact hs a k) (fun i j c g m n=>by
   obtain⟨a,k,rfl⟩:=b m;obtain⟨z,e⟩:=x n;exact d i j a z k e) (fun i j c g m n=>by
   obtain⟨a,k,rfl⟩:=b m;exact cN us p a w S j g _ n fun z e=>f i j a z k e)
  rw[yj]at this;exact this
 |_=>first
  |exact .v (by assumption)
  |exact .nil
  |exact .em (by assumption)
  |(simp only[rowU];constructor<;>assumption)
abbrev uCR:O->O:=o7 [fun x=>x,fun x=>x,fun x=>x,I0 5,fun x=>x,fun x=>x,rowU [fun x=>x,fun x=>x,fun x=>x,I0 5,fun x=>x,fun x=>x,I0 7]]
theorem GD:sX uCR:=.agg fun u a=>by
 simp only[zv,wu,or_false]at a;rcases a with rfl|rfl|rfl|rfl|rfl|rfl|rfl
 ·exact .id
 ·exact .id
 ·exact .id
 ·exact .nz 5
 ·exact .id
 ·exact .id
 ·exact R2 fun u a=>by
   simp only[zv,wu,or_false]at a;rcases a with rfl|rfl|rfl|rfl|rfl|rfl|rfl
   ·exact .id
   ·exact .id
   ·exact .id
   ·exact .nz 5
   ·exact .id
   ·exact .id
   ·exact .nz 7
theorem AG(c:Cnd):(Cnd.mk 3 [] 0 [] [] [] [c]).V=[int 3,str [],int 0,.sl 5 [],str [],str [],.sl 7 [c.V]]:=by rw[qv];rfl
noncomputable abbrev R3 (k:Nat):Ctx:=qj prog [(25,Ar),(26,arQS k),(27,Rk),(13,JR),(28,anQS),(29,teQS),(11,oG k)]
theorem R4{k:Nat}(h:wO False prog 11 (oG k)):AM.jH False (R3 k) g0F:=qQ mixed ⟨KD.lax,ME h,ga.lax,xZ.lax,s9.lax,Mz,h,trivial⟩
set_option maxHeartbeats 8000000 in
theorem R5{k:Nat}(h:wO False prog 11 (oG k)):wO False prog 11 (oG (k+1)):=
 ya (C:=R3 k) func11 (by kernel_rfl) rfl TQ _ fun cs az cs' r hF=>by
  obtain⟨s,st,⟨⟩,rfl,rfl,hs,Y,⟨hbn,hd0,hk0⟩,rfl,rfl⟩:=ZR hF;refine⟨by simp[aU,f11],?_⟩;clear hF;have hg:=R4 h;have t1:=jd (s:=s) (st:=st) [97,108,108] Y;obtain⟨a1,I,e1⟩:∃a1 I,jD s st [97,108,108]=(a1,I):=⟨_,_,rfl⟩;rw[e1]at t1;simp only at t1;have t2:=jd (s:=s) (st:=I) [97,110,121] t1.2.1;obtain⟨a2,J,e2⟩:∃a2 J,jD s I [97,110,121]=(a2,J):=⟨_,_,rfl⟩;rw[e2]at t2;simp only at t2;have z:=jd (s:=s) (st:=J) [110,111,116] t2.2.1;obtain⟨a3,w,e3⟩:∃a3 w,jD s J [110,111,116]=(a3,w):=⟨_,_,rfl⟩;rw[e3]at z;simp only at z;have t4:=jd (s:=s) (st:=w) [105,110] z.2.1;obtain⟨a4,K,e4⟩:∃a4 K,jD s w [105,110]=(a4,K):=⟨_,_,rfl⟩;rw[e4]at t4;simp only at t4;have t5:=jd (s:=s) (st:=K) [104,97,115] t4.2.1;obtain⟨a5,L,e5⟩:∃a5 L,jD s K [104,97,115]=(a5,L):=⟨_,_,rfl⟩;rw[e5]at t5;simp only at t5;have hco:VN s (k+1) st=if a1=true then(.mk 1 [] 0 [] [] [] (pX s (VN s k) I).1,(pX s (VN s k) I).2)else if a2=true then(.mk 2 [] 0 [] [] [] (pX s (VN s k) J).1,(pX s (VN s k) J).2)else if a3=true then(.mk 3 [] 0 [] [] [] (My s (VN s k) w).1,(My s (VN s k) w).2)else if a4=true then(.mk 5 [] 0 [] [] (VM s K).1 [],(VM s K).2)else if a5=true then(.mk 4 (VM s (xz s L [46])).1 1 [] [] [] [],(VM s (xz s L [46])).2)else Mv s L:=by simp only[VN,e1,e2,e3,e4,e5]
  rw[hco];clear hco;refine Wp.cut hg (fun M Y Z=>M 0=.ref 0 0 0/\M 2=.ref 1 0 0/\Y 0=some (yq s st)/\Y 1=some (jR kS)/\Z=2) (by kernel_rfl) (by simp[aU,zZ,zz,zS,kS,zc]) ?_;rintro M Y1 _ ⟨N,P,hb,A,rfl⟩;simp only[kS]at A;have y:=xT (Z:=2) [97,108,108] hb hs Y (by decide);rw[e1]at y;have B:=xT (Y:=qf Y1 0 (some (yq s I))) (id:=0) (Z:=2) [97,110,121] (by simp) hs t1.2.1 (by decide);rw[e2,qV]at B;have Q:=xT (Y:=qf Y1 0 (some (yq s J))) (id:=0) (Z:=2) [110,111,116] (by simp) hs t2.2.1 (by decide);rw[e3,qV]at Q;have g4:=xT (Y:=qf Y1 0 (some (yq s w))) (id:=0) (Z:=2) [105,110] (by simp) hs z.2.1 (by decide);rw[e4,qV]at g4;have g5:=xT (Y:=qf Y1 0 (some (yq s K))) (id:=0) (Z:=2) [104,97,115] (by simp) hs t4.2.1 (by decide);rw[e5,qV]at g5;simp only[zz,zS,zd,ze,zh,Nat.reduceAdd]at y B Q g4 g5;have m:∀x:Qst,qf Y1 0 (some (yq s x)) 0=some (yq s x):=fun x=>by simp
  have d1:=t1.2.2.2.1;have d2:=t2.2.2.2.1;have d3:=z.2.2.2.1;refine Wp.of hg (by kernel_rfl) ?_;cases a1
  case true=>simp only[zK];have n:=DW (k:=k) (Z:=2) (m I) hs t1.2.1 (by omega);simp only[zz,zS,zd,ze,zh,Nat.reduceAdd,qV]at n;simp[y,n,N,P,A,zc,zI,qe,f11];exact qc rfl (by simp[zc,zz,zS]) xc (by simp[qv];rfl)
  simp only[zm,zQ];cases a2
  case true=>simp only[zK];have n:=DW (k:=k) (Z:=2) (m J) hs t2.2.1 (by omega);simp only[zz,zS,zd,ze,zh,Nat.reduceAdd,qV]at n;simp[y,B,n,N,P,A,zc,zI,qe,f11];exact qc rfl (by simp[zc,zz,zS]) xc (by simp[qv];rfl)
  simp only[zm,zQ];cases a3
  case true=>
   simp only[zK];have hle3:=z.2.2.2.2 rfl;simp only[zd,ze]at hle3;have hs0:=AE (s:=s) z.2.1;have sY:=JS (s:=s) [40] z.2.1;obtain⟨sm,T⟩:=wM (xz s w [40]);obtain⟨q,hq⟩:=wM (Kw s w);have o:Y4 sm (sm.p-1)=q:=by rw[<-hq,<-T];rfl
   rw[T]at sY;rw[hq]at hs0;have R:=YY (Z:=2) [40] (m w) hs z.2.1 (by decide);rw[T,qV]at R;have gf:=vu (Y:=qf Y1 0 (some (yq s sm))) (id:=0) (Z:=2) (sm.p-1) 2 (by simp) hs sY.2.1;rw[qV]at gf;have hwp:i6.wrap ((sm.p:Int)-1)=((sm.p-1:Nat):Int):=by rw[wU (by omega) (by omega)];omega
   obtain⟨g,U⟩:=wM (dY q);have i:g.p=q.p/\g.d=q.d+1/\g.b=q.b:=by rw[<-U];exact⟨rfl,rfl,rfl⟩
   have f:g.bad=q.bad/\g.QO=q.QO:=by rw[<-U];exact⟨rfl,rfl⟩
   have hqd:q.d=sm.d:=by rw[<-o];exact(lA _ _).2.1
   have hql:q.p<=s.length:=hs0.2.1;have S:g.p<=s.length:=by rw[i.1];exact hql
   have W:i6.wrap ((q.d:Int)+1)=(g.d:Int):=by rw[wU (by omega) (by omega)];omega
   unfold My;rw[hq,U];obtain⟨D,X⟩:=wM (g.dp (g.d-1));have j:D.p=q.p/\D.d=g.d-1/\D.bad=q.bad/\D.QO=q.QO:=by rw[<-X,<-f.1,<-f.2,<-i.1];exact⟨rfl,rfl,rfl,rfl⟩
   have v:i6.wrap ((g.d:Int)-1)=(D.d:Int):=by rw[wU (by omega) (by omega)];omega
   have E:(fS s ([],g)).2=xz s D [41]:=by rw[<-X];rfl
   have hqzl:D.p<=s.length:=by rw[j.1];exact hql
   have F:=YY (Y:=qf (qf (qf Y1 0 (some (yq s g))) 2 (some (jR kS))) 0 (some (yq s D))) (id:=0) (Z:=3) [41] (by simp) hs hqzl (by decide);obtain⟨sz,u⟩:=wM (xz s D [41]);rw[E,u];rw[u,qV]at F;simp only[zz,zS,kS,zd,ze,zh,Nat.reduceAdd,i.1,j.1,j.2.2.1,j.2.2.2,f.1,f.2]at R gf F;unfold Y4 at o;by_cases hd:100<=sm.d
   ·have G:(100:Int)<=sm.d:=by omega
    rw[zg hd]at o;have l:q.b≠none:=by rw[<-o];exact vg _ _ _
    have hnn:¬q.bad<0:=by have:=QC l;omega
    rw[zg l];rw[o]at gf;simp[y,B,Q,R,gf,F,G,hwp,W,v,hnn,N,P,A,zc,zI,qe,zs,zF,zr,f11];exact qc (r0:=.agg [int 3,str [],int 0,.nil,str [],str [],.sl 7 [[int 0,str [],int 0,.nil,str [],str [],.nil]]]) (by simp[AM.freeze,zO,qm,qp,zc];rfl) (by simp[zc,zz,zS]) GD (by rw[AG,qv zC];rfl)
   ·have G:¬(100:Int)<=sm.d:=by omega
    rw[zf hd]at o;subst o;by_cases l:sm.b=none
    ·have hneg:sm.bad<0:=by rw[WG l];decide
     rw[zf (show¬sm.b≠none from fun e=>e l)];have gc:=ec (k:=k) (Y:=qf (qf Y1 0 (some (yq s g))) 2 (some (jR kS))) (id:=0) (Z:=3) (by simp[zc]) hs S ⟨i.2.2.trans l,by omega,by omega⟩;have hcl:=ck (s:=s) k g S;obtain⟨c,a,GN⟩:∃c a,VN s k g=(c,a):=⟨_,_,rfl⟩;rw[GN]at gc hcl;rw[GN];simp only at hcl⊢;clear F E u X j v;obtain⟨H,hqe⟩:=wM (a.dp (a.d-1));have t:H.p=a.p/\H.d=a.d-1/\H.bad=a.bad/\H.QO=a.QO:=by rw[<-hqe];exact⟨rfl,rfl,rfl,rfl⟩
     have v:i6.wrap ((a.d:Int)-1)=(H.d:Int):=by rw[wU (by omega) (by omega)];omega
     have E:(fS s ([],a)).2=xz s H [41]:=by rw[<-hqe];rfl
     have F:=YY (st:=H) (Y:=qf (qf (qf (qf (qf Y1 0 (some (yq s g))) 2 (some (jR kS))) 0 (some (yq s a))) 2 (some (jR c.V))) 0 (some (yq s H))) (id:=0) (Z:=3) [41] (by simp) hs (by rw[t.1];exact hcl.2.1) (by decide);obtain⟨sz,u⟩:=wM (xz s H [41]);rw[E,u];rw[u,qV]at F;simp only[zz,zS,kS,qv,zd,ze,zh,Nat.reduceAdd,i.1,t.1,t.2.2.1,t.2.2.2,f.1,f.2]at gc F;simp[y,B,Q,R,gc,F,G,W,v,hneg,N,P,A,zc,zI,qe,zs,zF,zr,f11];exact qc (r0:=.agg [int 3,str [],int 0,.nil,str [],str [],.sl 7 [[int c.kind,str c.attr,int c.op,.sl 5 (c.ki.map Val.V),str c.pat,str c.name,.sl 7 (c.args.map Cnd.V)]]]) (by simp[AM.freeze,zO,qm,qp,zc];rfl) (by simp[zc,zz,zS]) GD (by rw[AG,qv c];rfl)
    ·have hnn:¬sm.bad<0:=by have:=QC l;omega
     rw[zg l];simp[y,B,Q,R,F,G,W,v,hnn,N,P,A,zc,zI,qe,zs,zF,zr,f11];exact qc (r0:=.agg [int 3,str [],int 0,.nil,str [],str [],.sl 7 [[int 0,str [],int 0,.nil,str [],str [],.nil]]]) (by simp[AM.freeze,zO,qm,qp,zc];rfl) (by simp[zc,zz,zS]) GD (by rw[AG,qv zC];rfl)
  simp only[zm,zQ];cases a4
  case true=>simp only[zK];have n:=ov (Z:=2) (m K) hs t4.2.1;simp only[zz,zS,zd,ze,zh,Nat.reduceAdd,qV]at n;simp[y,B,Q,g4,n,N,P,A,zc,zI,qe,f11];exact qc rfl (by simp[zc,zz,zS]) xc (by simp[qv];rfl)
  simp only[zm,zQ];cases a5
  case true=>simp only[zK];have hm:=JS (s:=s) [46] t5.2.1;have R:=YY (Z:=2) [46] (m L) hs t5.2.1 (by decide);have n:=ov (Z:=2) (m (xz s L [46])) hs hm.2.1;simp only[zz,zS,zd,ze,zh,Nat.reduceAdd,qV]at R n;simp[y,B,Q,g4,g5,R,n,N,P,A,zc,zI,qe,f11];exact qc rfl (by simp[zc,zz,zS]) xc (by simp[qv];rfl)
  simp only[zm,zQ];have n:=RU (Z:=2) (m L) hs t5.2.1;simp only[zz,zS,zd,ze,zh,Nat.reduceAdd,qV]at n;simp only[qv]at n⊢;simp[y,B,Q,g4,g5,n,N,P,A,zc,zI,qe,f11];exact qc rfl (by simp[zc,zz,zS]) .id rfl
theorem R6:wO False prog 11 (oG 0):=
 ya (C:=R3 0) func11 (by kernel_rfl) rfl TQ _ fun cs e cs' r a=>by obtain⟨s,st,⟨⟩,rfl,rfl,hs,Y,⟨b,c,d⟩,rfl,rfl⟩:=ZR a;omega
theorem sS:∀k,wO False prog 11 (oG k)
 | 0=>R6
 |k+1=>R5 (sS k)
section
variable{s:za}
def pB(s:za)(p:Nat):Nat:=p+((s.drop p).takeWhile (·==32)).length
theorem ZS(p:Nat):pB s (pB s p)=pB s p:=by
 have hd:s.drop (pB s p)=(s.drop p).dropWhile (·==32):=by
  unfold pB;rw[<-List.drop_drop]
  conv=>lhs;arg 2;rw[<-List.takeWhile_append_dropWhile (p:=(·==32)) (l:=s.drop p)]
  exact List.drop_left
 have a:=List.head?_dropWhile_not (·==32) (s.drop p);rw[<-hd]at a;have d:(s.drop (pB s p)).takeWhile (·==32)=[]:=by
  cases e:s.drop (pB s p)with
  |nil=>rfl
  |cons c l=>rw[e]at a;simp only[List.head?_cons]at a;rw[yQ,a];rfl
 show pB s p+((s.drop (pB s p)).takeWhile (·==32)).length=pB s p;rw[d];rfl
def yP(s:za)(a:Pst)(b:Qst):Prop:=match b.b with
 |none=>a.e=0/\pB s a.p=pB s b.p/\a.d=b.d
 |some (k,x)=>a.e=x/\x≠0/\(x=2/\a.i=0\/x≠2/\a.i=k)
theorem yP.Zm{a:Pst}{b:Qst}(h:yP s a b)(c:b.b=none):a.e=0/\pB s a.p=pB s b.p/\a.d=b.d:=by unfold yP at h;rw[c]at h;exact h
theorem yP.XX{a:Pst}{b:Qst}{k:Nat}{x:Int}(h:yP s a b)(c:b.b=some (k,x)):a.e=x/\x≠0/\(x=2/\a.i=0\/x≠2/\a.i=k):=by unfold yP at h;rw[c]at h;exact h
theorem yP.Nb{a:Pst}{b:Qst}(c:b.b=none)(f:a.e=0)(Y:pB s a.p=pB s b.p)(hd:a.d=b.d):yP s a b:=by unfold yP;rw[c];exact⟨f,Y,hd⟩
theorem yP.ne{a:Pst}{b:Qst}(h:yP s a b):a.e=0↔b.b=none:=by
 cases c:b.b with
 |none=>exact⟨fun _=>rfl,fun _=>(h.Zm c).1⟩
 |some q=>obtain⟨k,x⟩:=q;have:=h.XX c;exact⟨fun e=>absurd (this.1.symm.trans e) this.2.1,fun e=>by cases e⟩
theorem yP.err{a c:Pst}{b g:Qst}(h:yP s a b)(j:b.b≠none)(l:c.e=a.e)(m:c.i=a.i)(d:g.b=b.b):yP s c g:=by
 cases f:b.b with
 |none=>exact absurd f j
 |some q=>obtain⟨k,x⟩:=q;have:=h.XX f;unfold yP;rw[d,f,l,m];exact this
theorem hC(a:Pst):(y8 s a).p=pB s a.p:=rfl
theorem HZ(b:Qst):(yX s b).p=pB s b.p:=rfl
theorem XT(a:Pst):KF s a=wY (s.drop (pB s a.p)):=rfl
theorem GF(b:Qst):fK s (yX s b)=(s.drop (pB s b.p)).takeWhile ZG:=rfl
theorem yP.bl{a:Pst}{b:Qst}(h:yP s a b):yP s (y8 s a) (yX s b):=by
 cases c:b.b with
 |none=>have:=h.Zm c;refine .Nb c this.1 ?_ this.2.2;rw[hC,HZ,ZS,ZS];exact this.2.1
 |some q=>exact h.err (by rw[c];intro e;cases e) rfl rfl rfl
theorem yP.fail{a:Pst}{b:Qst}(h:yP s a b){k k':Nat}{x:Int}(f:x≠0)(g:b.b=none->(x=2/\k=0\/x≠2/\k=k')):yP s (a.fail k x) (b.fail k' x):=by
 cases d:b.b with
 |none=>
  have i:=h.Zm d;have j:(b.fail k' x).b=some (k',x):=by unfold Qst.fail;rw[d]
  unfold yP;rw[j];unfold Pst.fail;rw[zg i.1];exact⟨rfl,f,g d⟩
 |some q=>
  have c:b.b≠none:=by rw[d];intro e;cases e
  have l:¬a.e=0:=fun e=>c (h.ne.1 e)
  rw[vN c];unfold Pst.fail;rw[zf l];exact h
theorem yP.wr{a:Pst}{b:Qst}(h:yP s a b):yP s (ch s a) ((yX s b).fail (yX s b).p 10):=by
 refine h.bl.fail (by decide) fun c=>.inr ⟨by decide,?_⟩
 have:b.b=none:=c;rw[hC,HZ,(h.Zm this).2.1]
theorem AH{c:UInt8}(h:YV c=true):ZG c=false:=by simp only[YV,qT,yI]at h;rcases h with((((((rfl|rfl)|rfl)|rfl)|rfl)|rfl)|rfl)|rfl<;>decide
theorem Kx(L:za):(wY L=L.takeWhile ZG/\(∀c l,L=c::l->YV c=false))\/(L.takeWhile ZG=[]/\∃c l,L=c::l/\YV c=true/\(wY L=[c]/\¬((c=60\/c=62)/\l.head?=some 61)\/wY L=[c,61]/\(c=60\/c=62)/\l.head?=some 61)):=by
 cases L with
 |nil=>exact .inl ⟨rfl,(fun c l e=>by cases e)⟩
 |cons c l=>
  have b:ZG c=false->(c::l).takeWhile ZG=[]:=fun h=>by rw[yQ,h];rfl
  by_cases a:(c=60\/c=62)/\l.head?=some 61
  ·have hs:YV c=true:=by rcases a.1 with rfl|rfl<;>decide
   refine .inr ⟨b (AH hs),c,l,rfl,hs,.inr ⟨?_,a⟩⟩;rw[wY,zg a]
  ·cases hs:YV c
   ·refine .inl ⟨?_,fun d l' e=>by injection e with e _;rw[<-e];exact hs⟩;rw[wY,zf a,hs];rfl
   ·refine .inr ⟨b (AH hs),c,l,rfl,hs,.inl ⟨?_,a⟩⟩;rw[wY,zf a,hs];rfl
theorem ed{L:za}{c:UInt8}{l:za}(h:L.takeWhile ZG=c::l):ZG c=true:=by have:=List.all_takeWhile (l:=L) (p:=ZG);rw[h]at this;simp only[wZ,zD]at this;exact this.1
theorem H0(L:za):(WE (wY L)=true->wY L=L.takeWhile ZG)/\(WE (wY L)=false↔L.takeWhile ZG=[]):=by
 rcases Kx L with⟨a,_⟩|⟨a,c,l,rfl,hs,d⟩
 ·refine⟨fun _=>a,?_⟩;rw[a];cases f:L.takeWhile ZG with
  |nil=>simp[WE]
  |cons c l=>simp[WE,ed f]
 ·have g:=AH hs;have b:WE (wY (c::l))=false:=by rcases d with⟨e,_⟩|⟨e,_⟩<;>rw[e]<;>exact g
  exact⟨fun e=>(by rw[b]at e;cases e),fun _=>a,fun _=>b⟩
def lB(L w:za):Bool:=if WE w=true then L.takeWhile ZG==w else w.isPrefixOf L
def ee(w:za):Prop:=WE w=true\/w=[60,61]\/w=[62,61]\/∃c,w=[c]/\YV c=true/\c≠60/\c≠62
theorem lC(c:UInt8)(L:za):([c]:za).isPrefixOf L=true↔∃l,L=c::l:=by
 cases L with
 |nil=>simp[List.isPrefixOf]
 |cons d l=>simp only[List.isPrefixOf,Jc,yI,zq,exists_eq_right'];exact⟨fun e=>e.symm,fun e=>e.symm⟩
theorem H2(c d:UInt8)(L:za):([c,d]:za).isPrefixOf L=true↔∃l,L=c::l/\l.head?=some d:=by
 cases L with
 |nil=>simp[List.isPrefixOf]
 |cons x l=>
  cases l with
  |nil=>simp[List.isPrefixOf]
  |cons y l=>
   simp only[List.isPrefixOf,Jc,zD,yI,zq];constructor
   ·rintro⟨rfl,rfl⟩;exact⟨_,⟨rfl,rfl⟩,rfl⟩
   ·rintro⟨l',⟨rfl,rfl⟩,h⟩;simp at h;exact⟨rfl,h.symm⟩
theorem WU{L w:za}(h:ee w):lB L w=decide (wY L=w):=by
 have g:=H0 L;unfold lB;rw[q6,zjk];rcases h with h|h
 ·rw[zg h,yI];constructor
  ·intro e;have:WE (wY L)=true:=by
    cases m:WE (wY L)
    ·have:=g.2.1 m;rw[this]at e;rw[<-e]at h;cases h
    ·rfl
   rw[g.1 this];exact e
  ·intro e;rw[<-g.1 (by rw[e];exact h)];exact e
 have n:∀c d,WE [c,d]=ZG c:=fun _ _=>rfl
 rcases h with rfl|rfl|⟨c,rfl,hs,n1,o⟩
 ·rw[zf (by decide),H2];rcases Kx L with⟨f,b⟩|⟨f,c,l,rfl,hs,b⟩
  ·constructor
   ·rintro⟨l,rfl,_⟩;have:=b _ _ rfl;exact absurd this (by decide)
   ·intro e;rw[e]at f;have:=ed f.symm;exact absurd this (by decide)
  ·constructor
   ·rintro⟨l',e,hd⟩;injection e with i j;subst i;subst j;rcases b with⟨_,a⟩|⟨a,_⟩
    ·exact absurd ⟨.inl rfl,hd⟩ a
    ·exact a
   ·intro e;rcases b with⟨a,_⟩|⟨a,_,hd⟩
    ·rw[a]at e;cases e
    ·rw[a]at e;injection e with e _
     exact⟨l,by rw[e],hd⟩
 ·rw[zf (by decide),H2];rcases Kx L with⟨f,b⟩|⟨f,c,l,rfl,hs,b⟩
  ·constructor
   ·rintro⟨l,rfl,_⟩;have:=b _ _ rfl;exact absurd this (by decide)
   ·intro e;rw[e]at f;have:=ed f.symm;exact absurd this (by decide)
  ·constructor
   ·rintro⟨l',e,hd⟩;injection e with i j;subst i;subst j;rcases b with⟨_,a⟩|⟨a,_⟩
    ·exact absurd ⟨.inr rfl,hd⟩ a
    ·exact a
   ·intro e;rcases b with⟨a,_⟩|⟨a,_,hd⟩
    ·rw[a]at e;cases e
    ·rw[a]at e;injection e with e _
     exact⟨l,by rw[e],hd⟩
 ·have k:=AH hs;rw[zf (by show¬ZG c=true;rw[k];decide),lC];rcases Kx L with⟨f,b⟩|⟨f,q,l,rfl,p,b⟩
  ·constructor
   ·rintro⟨l,rfl⟩;have:=b _ _ rfl;rw[this]at hs;cases hs
   ·intro e;rw[e]at f;have:=ed f.symm;rw[k]at this;cases this
  ·constructor
   ·rintro⟨l',e⟩;injection e with i j;subst i;rcases b with⟨a,_⟩|⟨_,a,_⟩
    ·exact a
    ·rcases a with a|a
     ·exact absurd a n1
     ·exact absurd a o
   ·intro e;rcases b with⟨a,_⟩|⟨a,_⟩
    ·rw[a]at e;injection e with e _
     exact⟨l,by rw[e]⟩
    ·rw[a]at e;cases e
theorem zb9{L:za}(c:UInt8)(f:c=60\/c=62):lB L [c]=decide (wY L=[c]\/wY L=[c,61]):=by
 have g:ZG c=false:=by rcases f with rfl|rfl<;>decide
 have hs:YV c=true:=by rcases f with rfl|rfl<;>decide
 unfold lB;rw[zf (by show¬ZG c=true;rw[g];decide),q6,zjk,lC];rcases Kx L with⟨d,b⟩|⟨d,j,l,rfl,h,b⟩
 ·constructor
  ·rintro⟨l,rfl⟩;have:=b _ _ rfl;rw[this]at hs;cases hs
  ·rintro (e|e) <;>
   ·rw[e]at d;have:=ed d.symm;rw[g]at this;cases this
 ·constructor
  ·rintro⟨l',e⟩;injection e with i k;subst i;rcases b with⟨a,_⟩|⟨a,_,_⟩
   ·exact .inl a
   ·exact .inr a
  ·intro e;refine⟨l,?_⟩;rcases b with⟨a,_⟩|⟨a,_⟩
   ·rw[a]at e;rcases e with e|e
    ·injection e with e _;rw[e]
    ·cases e
   ·rw[a]at e;rcases e with e|e
    ·cases e
    ·injection e with e _;rw[e]
theorem Ky{b:Qst}(c:b.b=none)(w:za):jD s b w=if lB (s.drop (pB s b.p)) w=true then(true,(yX s b).mv (pB s b.p+w.length))else(false,yX s b):=by
 unfold jD lB;rw[zf (by simpa using c)];by_cases h:WE w=true
 ·rw[zg h,zg h,GF];by_cases a:(s.drop (pB s b.p)).takeWhile ZG=w
  ·rw[zg a,zg (by simpa using a)];rfl
  ·rw[zf a,zf (by simpa using a)]
 ·rw[zf h,zf h];rfl
theorem yP.tk{a:Pst}{b:Qst}(h:yP s a b){w:za}(i:ee w):(kz s a w).1=(jD s b w).1/\yP s (kz s a w).2 (jD s b w).2:=by
 cases f:b.b with
 |none=>
  have d:=h.Zm f;rw[Ky f,WU i];unfold kz;rw[zf (by simpa using d.1),XT,d.2.1];by_cases g:wY (s.drop (pB s b.p))=w
  ·rw[zg g,zg (by simpa using g)];refine⟨rfl,.Nb f d.1 ?_ d.2.2⟩;simp only[Pst.mv,Qst.mv,hC,d.2.1]
  ·rw[zf g,zf (by simpa using g)];exact⟨rfl,h.bl⟩
 |some q=>
  have c:b.b≠none:=by rw[f];intro e;cases e
  have j:¬a.e=0:=fun e=>c (h.ne.1 e)
  unfold kz jD;rw[zg j,zg c];exact⟨rfl,h.err c rfl rfl rfl⟩
theorem yP.mu{a:Pst}{b:Qst}(h:yP s a b){w:za}(j:ee w):yP s (Yx s a w) (xz s b w):=by
 obtain⟨k,g⟩:=h.tk j;unfold Yx xz;rw[k];cases c:(jD s b w).1
 ·simp only[zm,zQ];have d:=g.wr;have l:(jD s b w).2=yX s b:=by
   cases i:b.b with
   |none=>
    rw[Ky i]at c⊢;split at c
    ·cases c
    ·rw[zf (by assumption)]
   |some q=>unfold jD;rw[zg (by rw[i];intro e;cases e)]
  have f:yX s (yX s b)=yX s b:=by show(yX s b).mv (pB s (pB s b.p))=_;rw[ZS];rfl
  rw[l]at d⊢;rw[f]at d;exact d
 ·simp only[zK];exact g
theorem yP.wo{a:Pst}{b:Qst}(h:yP s a b):yP s (gY s a).2 (VM s b).2/\((VM s b).2.b=none->(gY s a).1=(VM s b).1):=by
 have d:yP s (ch s (y8 s a)) ((yX s b).fail (yX s b).p 10):=by
  have n:=h.bl.wr;have j:yX s (yX s b)=yX s b:=by show(yX s b).mv (pB s (pB s b.p))=_;rw[ZS];rfl
  rw[j]at n;exact n
 unfold gY VM;cases k:b.b with
 |none=>
  have f:=h.Zm k;rw[XT,f.2.1,GF];have l:=H0 (s.drop (pB s b.p));by_cases g:(s.drop (pB s b.p)).takeWhile ZG=[]
  ·rw[zg (.inr (l.2.2 g)),zg (.inl g),zg g];exact⟨d,fun _=>rfl⟩
  ·have hd:WE (wY (s.drop (pB s b.p)))=true:=by
    cases m:WE (wY (s.drop (pB s b.p)))
    ·exact absurd (l.2.1 m) g
    ·rfl
   rw[zf (by rw[f.1,hd];simp),zf (by simp[g]),l.1 hd];refine⟨.Nb k f.1 ?_ f.2.2,fun _=>rfl⟩;simp only[Pst.mv,Qst.mv,hC,HZ,f.2.1]
 |some q=>
  have i:b.b≠none:=by rw[k];intro e;cases e
  have o:¬a.e=0:=fun e=>i (h.ne.1 e)
  rw[zg (.inl o),zg (.inr (by intro e;cases e))];have c:(yX s b).b≠none:=i;have m:(if fK s (yX s b)=[]then(yX s b).fail (yX s b).p 10 else yX s b)=yX s b:=by
   split
   ·exact vN c _ _
   ·rfl
  simp only;rw[m];rw[vN c]at d;exact⟨d,fun _=>trivial⟩
theorem za7(L:za):VL (wY L)=VL (L.takeWhile ZG):=by
 rcases Kx L with⟨a,_⟩|⟨a,c,l,rfl,hs,b⟩
 ·rw[a]
 ·rw[a];have d:∀l':za,VL (c::l')=false:=fun l'=>by simp only[YV,qT,yI]at hs;rcases hs with((((((rfl|rfl)|rfl)|rfl)|rfl)|rfl)|rfl)|rfl<;>rfl
  rcases b with⟨e,_⟩|⟨e,_⟩<;>rw[e,d]<;>rfl
theorem R7{p:Nat}(Y:p<=s.length):match(M5 s p).2.b with
  |none=>Zo zy s p=((M5 s p).1,(M5 s p).2.p,0)
  |some (k,x)=>(Zo zy s p).1=zV/\(Zo zy s p).2.1=k/\(Zo zy s p).2.2=x/\x≠0:=by
 have h:=jE.val (s:=s) (s.length+1) ⟨p,0,0⟩ ⟨p,none⟩ ⟨rfl,rfl⟩ rfl Y;unfold M5 Zo;cases c:(ky s (s.length+1) ⟨p,none⟩).2.b with
 |none=>have d:=h.1.Zm c;simp only;rw[zg d.1,h.2 c,d.2]
 |some q=>obtain⟨k,x⟩:=q;have a:=h.1.XX c;simp only;rw[zf (by rw[a.1];exact a.2.1)];exact⟨rfl,a.2.2,a.1,a.2.1⟩
theorem zef{p:Nat}(h:s[p]?=some 95):(M5 s p).2.b=some (p,10):=by
 have a:ka s ⟨p,none⟩=95:=by simp[ka,h]
 unfold M5;rw[ky,a];simp[jg,Rst.fail]
theorem yP.va{a:Pst}{b:Qst}(h:yP s a b)(Y:b.p<=s.length):yP s (JA s zy a).2 (JC s b).2/\((JC s b).2.b=none->(JA s zy a).1=(JC s b).1):=by
 cases m:b.b with
 |some q=>
  have f:b.b≠none:=by rw[m];intro e;cases e
  have G:¬a.e=0:=fun e=>f (h.ne.1 e)
  have d:(iO s b).b=b.b:=by
   have n:(yX s b).b≠none:=f;unfold iO;split
   ·rw[vN n];rfl
   ·rfl
  unfold JA JC;simp only;rw[zg G,zg (by rw[d];exact f)];exact⟨h.err f rfl rfl d,fun _=>rfl⟩
 |none=>
  have o:=h.Zm m;have r:=(Q7 (s:=s) Y).2.1;have u:(y8 s a).p=(yX s b).p:=o.2.1;have v:yX s (yX s b)=yX s b:=by show(yX s b).mv (pB s (pB s b.p))=_;rw[ZS];rfl
  have w:yP s (ch s (y8 s a)) ((yX s b).fail (yX s b).p 10):=by have D:=h.bl.wr;rw[v]at D;exact D
  unfold JA;simp only;rw[zf (by simpa using o.1),XT,o.2.1,za7,<-GF];cases i:VL (fK s (yX s b))
  ·simp only[zm,zQ];have c:=R7 (s:=s) r;rw[u];cases j:([95]:za).isPrefixOf (fK s (yX s b))
   ·have d:iO s b=yX s b:=by unfold iO;rw[i,j];simp
    unfold JC;have y:¬(yX s b).b≠none:=fun e=>e m
    rw[d,zf y];cases E:(M5 s (yX s b).p).2.b with
    |none=>rw[E]at c;simp only at c;rw[c];simp only[zK,HS];exact⟨.Nb m o.1 rfl o.2.2,fun _=>trivial⟩
    |some q=>obtain⟨k,x⟩:=q;rw[E]at c;simp only at c;obtain⟨H,z,A,F⟩:=c;rw[z,A,zf F];simp only[HS];refine⟨?_,fun e=>absurd e (vg _ _ _)⟩;have B:=h.bl.fail (k:=k) (k':=k) (x:=10) (by decide) (fun _=>.inr ⟨by decide,rfl⟩);exact B.err (vg _ _ _) rfl rfl rfl
   ·have d:iO s b=(yX s b).fail (yX s b).p 10:=by unfold iO;rw[i,j];simp
    have C:s[(yX s b).p]?=some 95:=by
     obtain⟨l,I⟩:=(lC 95 _).1 j;have g:(fK s (yX s b)) <+: s.drop (yX s b).p:=List.takeWhile_prefix _;rw[I]at g;obtain⟨t,J⟩:=g;have:(s.drop (yX s b).p)[0]?=some 95:=by rw[<-J];rfl
     simpa using this
    rw[zef C]at c;simp only at c;obtain⟨H,z,A,F⟩:=c;unfold JC;rw[d,zg (vg _ _ _),z,A,zf (by decide)];have B:=h.bl.fail (k:=(yX s b).p) (k':=(yX s b).p) (x:=10) (by decide) (fun _=>.inr ⟨by decide,rfl⟩);exact⟨B.err (vg _ _ _) rfl rfl rfl,fun e=>absurd e (vg _ _ _)⟩
  ·simp only[zK];have d:iO s b=(yX s b).fail (yX s b).p 10:=by unfold iO;rw[i,m];simp
   unfold JC;rw[d,zg (vg _ _ _)];exact⟨w,fun _=>rfl⟩
end
inductive oS:Val->Prop
 |z:oS (.mk 0 0 [] [] [])
 |b (k n:Int) (h:k=1\/k=2):oS (.mk k n [] [] [])
 |s (t:List UInt8):oS (.mk 3 0 t [] [])
 |l (is:List Val) (h:∀v∈is,oS v):oS (.mk 4 0 [] is [])
 |o (fs:List (List UInt8×Val)) (h:∀f∈fs,oS f.2):oS (.mk 5 0 [] [] fs)
theorem WH{a b:Val}(h:qG a b=0):a.kind=b.kind:=by
 rw[xk]at h;split at h
 ·assumption
 ·exact Yq h
theorem fT{α:Type}{c:α->α->Int}:∀{a b:List α},(∀x∈a,∀y∈b,c x y=0->x=y)->yl c a b=0->a=b
 |[],[],_,_=>rfl
 |[],_::_,_,h=>by simp[yl]at h
 |_::_,[],_,h=>by simp[yl]at h
 |x::a,y::b,e,h=>by
  simp only[yl]at h;split at h
  ·rename_i d;rw[e x (by simp) y (by simp) d,fT (fun u f v g=>e u (by simp[f]) v (by simp[g])) h]
  ·rename_i d;exact absurd h d
theorem DX{a:Val}(w:oS a):∀b,oS b->qG a b=0->a=b:=by
 induction w with
 |z=>
  intro b f h;have c:=WH h;cases f with
  |z=>rfl
  |b k n d=>simp only[Val.kind]at c;omega
  |s t=>simp only[Val.kind]at c;omega
  |l m d=>simp only[Val.kind]at c;omega
  |o j d=>simp only[Val.kind]at c;omega
 |b k n p=>
  intro b f h;have c:=WH h;cases f with
  |z=>simp only[Val.kind]at c;omega
  |b k' g d=>
   simp only[Val.kind]at c;subst c;have e:qG (.mk k n [] [] []) (.mk k g [] [] [])=wI n g:=by rw[xk];exact(zg rfl).trans (zg p)
   rw[Yq (e.symm.trans h)]
  |s t=>simp only[Val.kind]at c;omega
  |l m d=>simp only[Val.kind]at c;omega
  |o j d=>simp only[Val.kind]at c;omega
 |s t=>
  intro b f h;have c:=WH h;cases f with
  |z=>simp only[Val.kind]at c;omega
  |b k' g d=>simp only[Val.kind]at c;omega
  |s t'=>rw[xk]at h;simp[Val.kind,Val.s]at h;rw[(xl _ _).1 h]
  |l m d=>simp only[Val.kind]at c;omega
  |o j d=>simp only[Val.kind]at c;omega
 |l m A q=>
  intro b f h;have c:=WH h;cases f with
  |z=>simp only[Val.kind]at c;omega
  |b k' g d=>simp only[Val.kind]at c;omega
  |s t'=>simp only[Val.kind]at c;omega
  |l r d=>rw[xk]at h;simp[Val.kind,Val.items]at h;rw[fT (fun x u y v=>q x u y (d y v)) h]
  |o j d=>simp only[Val.kind]at c;omega
 |o j A q=>
  intro b f h;have c:=WH h;cases f with
  |z=>simp only[Val.kind]at c;omega
  |b k' g d=>simp only[Val.kind]at c;omega
  |s t'=>simp only[Val.kind]at c;omega
  |l r d=>simp only[Val.kind]at c;omega
  |o B d=>
   rw[xk]at h;simp[Val.kind,Val.fields]at h;rw[fT (fun x u y v i=>by
    simp only[jN,KE]at i;split at i
    ·rename_i C;split at i
     ·rename_i D;exact Sw ((xl _ _).1 C) (q x u y.2 (d y v) D)
     ·exact absurd i (by assumption)
    ·exact absurd i (by assumption)) h]
section
variable{s:za}
def ShR(g:Rst->Val×Rst):Prop:=∀b,oS (g b).1
theorem H3{g:Rst->Val×Rst}(c:ShR g):∀(k:Nat) (l:List Val) (b:Rst),(∀v∈l,oS v)->∀v∈(CV s g k l b).1,oS v
 | 0,l,b,h=>h
 |k+1,l,b,h=>by
  rw[CV];have d:∀v∈l++[(g (kO s b)).1],oS v:=fun v a=>by
   rcases qO.1 a with a|a
   ·exact h v a
   ·rw[wA.1 a];exact c _
  split
  ·exact h
  ·split
   ·exact H3 c k _ _ d
   ·exact d
theorem R8{n:za}{x:Val}{l:List (za×Val)}{f:za×Val}(h:f∈Yh l n x):f=(n,x)\/f∈l:=by
 unfold Yh at h;rcases zv.1 ((Ys n x _).subset h)with h|h
 ·exact .inl h
 ·exact .inr (pY.1 h).1
theorem H4{g:Rst->Val×Rst}(c:ShR g):∀(k:Nat) (l:List (za×Val)) (b:Rst),(∀f∈l,oS f.2)->∀f∈(CW s g k l b).1,oS f.2
 | 0,l,b,h=>h
 |k+1,l,b,h=>by
  rw[CW];have d:∀f∈Yh l (kM s (kO s b)).1 (g (uP s l (kO s b))).1,oS f.2:=fun f a=>by
   rcases R8 a with rfl|a
   ·exact c _
   ·exact h f a
  split
  ·exact h
  ·split
   ·exact H4 c k _ _ d
   ·exact d
theorem oH:∀k,ShR (ky s k)
 | 0=>fun b=>.z
 |k+1=>fun b=>by
  rw[ky];split
  ·exact .z
  split
  ·exact .b 1 1 (.inl rfl)
  split
  ·exact .b 1 0 (.inl rfl)
  split
  ·exact .s _
  split
  ·refine .l _ ?_;unfold ZE;split
   ·intro v a;simp at a
   ·exact H3 (oH k) _ _ _ (fun v a=>by simp at a)
  split
  ·refine .o _ ?_;unfold JQ;split
   ·intro v a;simp at a
   ·exact H4 (oH k) _ _ _ (fun v a=>by simp at a)
  split
  ·exact .b 2 _ (.inr rfl)
  ·exact .z
theorem H5(b:Qst):oS (JC s b).1:=by
 unfold JC;split
 ·exact .z
 ·exact oH _ _
theorem H6:∀(k:Nat) (l:List Val) (b:Qst),(∀v∈l,oS v)->∀v∈(pW s k l b).1,oS v
 | 0,l,b,h=>h
 |k+1,l,b,h=>by
  rw[pW];split
  ·refine H6 k _ _ fun v a=>?_
   rcases qO.1 a with a|a
   ·exact h v a
   ·rw[wA.1 a];exact H5 _
  ·exact h
end
theorem zeg{α:Type}{r:α->α->Prop}(d:∀x,¬r x x)(f:∀x y,r x y->¬r y x){a b:List α}(g:a.Pairwise r)(i:b.Pairwise r)(k:∀x,x∈a↔x∈b):a=b:=by
 have j:∀{l:List α},l.Pairwise r->l.Nodup:=fun h=>List.nodup_iff_pairwise_ne.2 (h.imp fun{x y} c (e:x=y)=>d x (by rw[<-e]at c;exact c))
 have Y:b.Perm a:=(List.perm_ext_iff_of_nodup (j i) (j g)).2 fun x=>(k x).symm
 exact lq d f Y i (g.imp fun{x y} c=>f x y c)
theorem R9(x:Val):¬qG x x<0:=by rw[JW.refl];omega
theorem MF(x y:Val)(a:qG x y<0):¬qG y x<0:=fun b=>by have:=JW.trans a b;rw[JW.refl]at this;omega
theorem sT{c:Val}:∀{l:List Val},(∀a∈l,qG a c=0->a=c)->∀x,x∈kj c l↔x=c\/x∈l
 |[],_,x=>by simp[kj]
 |a::l,h,x=>by
  have d:=sT (l:=l) (fun b f=>h b (by simp[f])) x;simp only[kj];split
  ·rw[zv,d,zv];constructor
   ·rintro (e|e|e)
    ·exact .inr (.inl e)
    ·exact .inl e
    ·exact .inr (.inr e)
   ·rintro (e|e|e)
    ·exact .inr (.inl e)
    ·exact .inl e
    ·exact .inr (.inr e)
  ·split
   ·rename_i g;have i:=h a (by simp) g;rw[zv];constructor
    ·exact .inr
    ·rintro (e|e)
     ·exact .inl (e.trans i.symm)
     ·exact e
   ·rw[zv]
theorem DY{c:Val}:∀{l:List Val},UO l->UO (kj c l)
 |[],_=>by simp[kj,UO]
 |a::l,h=>by
  have d:=wB.1 h;simp only[kj];split
  ·rename_i e;refine wB.2 ⟨fun x hx=>?_,DY d.2⟩;rcases fM hx with rfl|hx
   ·exact e
   ·exact d.1 x hx
  ·rename_i e;split
   ·exact h
   ·rename_i f;have g:=JW.flip c a;have b:qG c a<0:=by omega
    refine wB.2 ⟨fun x hx=>?_,h⟩;rcases zv.1 hx with rfl|hx
    ·exact b
    ·exact JW.trans b (d.1 x hx)
theorem DZ:∀(l o:List Val),(∀v∈l,oS v)->(∀v∈o,oS v)->UO o->UO (l.foldl (fun o c=>kj c o) o)/\∀x,x∈l.foldl (fun o c=>kj c o) o↔x∈l\/x∈o
 |[],o,_,_,d=>⟨d,fun x=>by simp⟩
 |c::l,o,f,g,d=>by
  rw[ju];have i:=sT (c:=c) (l:=o) (fun a j h=>DX (g a j) c (f c (by simp)) h);obtain⟨k,m⟩:=DZ l (kj c o) (fun v b=>f v (by simp[b])) (fun v b=>by
   rcases(i v).1 b with rfl|b
   ·exact f _ (by simp)
   ·exact g v b) (DY d)
  refine⟨k,fun x=>?_⟩;rw[m,i,zv];constructor
  ·rintro (e|e|e)
   ·exact .inl (.inr e)
   ·exact .inl (.inl e)
   ·exact .inr e
  ·rintro ((e|e)|e)
   ·exact .inr (.inl e)
   ·exact .inl e
   ·exact .inr (.inr e)
theorem lD:∀(l:List Val) (p:Val),(∀v∈p::l,oS v)->(p::l).Pairwise (fun a b=>¬qG b a<0)->UO (p::XP p l)/\∀x,x∈p::XP p l↔x∈p::l
 |[],p,_,_=>by simp[XP,UO]
 |b::l,p,hs,k=>by
  have c:=wB.1 k;rw[XP];split
  ·rename_i g;have h:b=p:=DX (hs b (by simp)) p (hs p (by simp)) (by simpa using g);subst h;obtain⟨f,i⟩:=lD l b (fun v j=>hs v (List.mem_cons_of_mem _ j)) c.2;refine⟨f,fun x=>?_⟩;rw[i,zv (b:=b) (l:=b::l)];constructor
   ·exact .inr
   ·rintro (e|e)
    ·rw[e];simp
    ·exact e
  ·rename_i g;have m:qG b p≠0:=by simpa using g
   have n:=JW.flip p b;have o:=c.1 b (by simp);have d:qG p b<0:=by omega
   obtain⟨f,i⟩:=lD l b (fun v j=>hs v (List.mem_cons_of_mem _ j)) c.2;refine⟨wB.2 ⟨fun x hx=>?_,f⟩,fun x=>?_⟩
   ·rcases zv.1 hx with rfl|hx
    ·exact d
    ·exact JW.trans d ((wB.1 f).1 x hx)
   ·rw[zv,i,<-zv]
theorem za8{l:List Val}(h:∀v∈l,oS v):jB l=QD l:=by
 obtain⟨g,i⟩:=DZ l [] h (fun v c=>by simp at c) (by simp[UO]);obtain⟨_,d,e⟩:=QA l;refine zeg R9 MF (a:=jB l) (b:=QD l) ?_ g ?_
 ·unfold jB;cases f:vE l with
  |nil=>exact List.Pairwise.nil
  |cons a m=>rw[f]at d e;exact(lD m a (fun v c=>h v (d.subset c)) e).1
 ·intro x;have:x∈QD l↔x∈l:=by have:=i x;simpa[QD]using this
  rw[this,<-d.mem_iff];unfold jB;cases f:vE l with
  |nil=>exact Iff.rfl
  |cons a m=>rw[f]at d e;exact(lD m a (fun v c=>h v (d.subset c)) e).2 x
section
variable{s:za}
theorem aA{c:UInt8}(h:YV c=true)(a:c≠60)(b:c≠62):ee [c]:=.inr (.inr (.inr ⟨c,rfl,h,a,b⟩))
theorem oI(b:Qst)(w:za):(jD s b w).2.b=b.b/\(jD s b w).2.d=b.d:=by
 unfold jD;split
 ·exact⟨rfl,rfl⟩
 ·split
  ·split<;>exact⟨rfl,rfl⟩
  ·split<;>exact⟨rfl,rfl⟩
theorem H7{a:Pst}(h:a.e=0)(w:za):kz s a w=if KF s a=w then(true,(y8 s a).mv ((y8 s a).p+w.length))else(false,y8 s a):=by unfold kz;rw[zf (show¬a.e≠0 from fun e=>e h)]
theorem D0(Y:True):∀(k:Nat) (l:List Val) (b:Qst),b.p<=s.length->(pW s k l b).2.b=none->b.b=none
 | 0,l,b,_,h=>h
 |k+1,l,b,a,h=>by
  have c:=jd (s:=s) [124] a;rw[pW]at h;split at h
  ·rename_i d;exact(c.2.2.2.2 d).1
  ·rw[<-(oI b [124]).1];exact h
theorem yP.vl:∀(k:Nat) (l l':List Val) {a:Pst} {b:Qst},yP s a b->b.p<=s.length->yP s (Dv s zy k l a).2 (pW s k l' b).2/\(l=l'->(pW s k l' b).2.b=none->(Dv s zy k l a).1=(pW s k l' b).1)
 | 0,l,l',a,b,h,_=>⟨h,fun e _=>e⟩
 |k+1,l,l',a,b,h,Y=>by
  obtain⟨j,d⟩:=h.tk (aA (c:=124) (by decide) (by decide) (by decide));have f:=jd (s:=s) [124] Y;rw[Dv,pW,j];cases r:(jD s b [124]).1
  ·simp only[zm,zQ];exact⟨d,fun e _=>e⟩
  ·simp only[zK];have g:=XN (s:=s) f.2.1;obtain⟨m,n⟩:=d.va f.2.1;obtain⟨o,q⟩:=yP.vl k (l++[(JA s zy (kz s a [124]).2).1]) (l'++[(JC s (jD s b [124]).2).1]) m g.2.1;refine⟨o,fun e i=>q ?_ i⟩;rw[e,n (D0 trivial _ _ _ g.2.1 i)]
theorem MG:ee [110,101,118,101,114]:=.inl (by decide)
theorem yP.vs{a:Pst}{b:Qst}(h:yP s a b)(Y:b.p<=s.length):yP s (Dw s zy jB a).2 (DS s b).2/\((DS s b).2.b=none->(Dw s zy jB a).1=(DS s b).1):=by
 obtain⟨g,d⟩:=h.tk MG;have e:=jd (s:=s) [110,101,118,101,114] Y;unfold Dw DS;rw[g];cases m:(jD s b [110,101,118,101,114]).1
 ·simp only[zm,zQ];have c:=XN (s:=s) e.2.1;obtain⟨i,j⟩:=d.va e.2.1;obtain⟨k,l⟩:=yP.vl (s.length+1) [(JA s zy (kz s a [110,101,118,101,114]).2).1] [(JC s (jD s b [110,101,118,101,114]).2).1] i c.2.1;refine⟨k,fun f=>?_⟩;rw[l (by rw[j (D0 trivial _ _ _ c.2.1 f)]) f];exact za8 (H6 _ _ _ fun v c=>by rw[wA.1 c];exact H5 _)
 ·simp only[zK];exact⟨d,fun _=>trivial⟩
noncomputable def GG (s:za) (st:Qst):Cnd×Qst:=match A4 s JX (VM s st).2 with
 |(none,a)=>(.mk 4 (VM s st).1 0 [] [] [] [],a.fail a.p 10)
 |(some o,a)=>tvQ s (VM s st).1 o a
theorem zeh(st:Qst):Mv s st=GG s (xz s st [46]):=rfl
theorem ef(b:Qst):yX s (yX s b)=yX s b:=by show(yX s b).mv (pB s (pB s b.p))=_;rw[ZS];rfl
theorem sU(a:Pst):y8 s (y8 s a)=y8 s a:=by show(y8 s a).mv (pB s (pB s a.p))=_;rw[ZS];rfl
theorem H8{b:Qst}(a:b.b≠none):∀l:List Nat,(A4 s l b).1=none/\(A4 s l b).2.b=b.b:=by
 intro l
 induction l generalizing b with
 |nil=>exact⟨rfl,rfl⟩
 |cons o l c=>
  have d:jD s b (Q6 o)=(false,yX s b):=by unfold jD;rw[zg a]
  rw[A4,d];simp only[zm,zQ];exact c (b:=yX s b) a
theorem oJ:∀(l:List Nat) {b:Qst},b.b=none->A4 s l b=match l.find? (fun o:Nat=>lB (s.drop (pB s b.p)) (Q6 o))with
  |some o=>(some o,(yX s b).mv (pB s b.p+(Q6 o).length))
  |none=>(none,if l=[]then b else yX s b)
 |[],b,_=>rfl
 |o::l,b,c=>by
  rw[A4,Ky c,List.find?_cons];cases e:lB (s.drop (pB s b.p)) (Q6 o)
  ·simp only[zm,zQ];have d:=oJ l (b:=yX s b) c;have a:pB s (yX s b).p=pB s b.p:=ZS b.p;rw[d,a,ef];cases l.find? (fun o:Nat=>lB (s.drop (pB s b.p)) (Q6 o))with
   |none=>simp only;split<;>simp
   |some o'=>rfl
  ·simp only[zK]
theorem H9(L:za):JX.find? (fun o:Nat=>lB L (Q6 o))=if 2<=Vl (wY L)then some (Vl (wY L)).toNat else none:=by
 have j:lB L (Q6 (2:Nat))=decide (wY L=[61]):=WU (aA (by decide) (by decide) (by decide));have k:lB L (Q6 (4:Nat))=decide (wY L=[60,61]):=WU (.inr (.inl rfl));have l:lB L (Q6 (3:Nat))=decide (wY L=[60]\/wY L=[60,61]):=zb9 60 (.inl rfl);have m:lB L (Q6 (6:Nat))=decide (wY L=[62,61]):=WU (.inr (.inr (.inl rfl)));have n:lB L (Q6 (5:Nat))=decide (wY L=[62]\/wY L=[62,61]):=zb9 62 (.inr rfl);have p:lB L (Q6 (7:Nat))=decide (wY L=Q6 (7:Nat)):=WU (.inl (by decide));have q:lB L (Q6 (8:Nat))=decide (wY L=Q6 (8:Nat)):=WU (.inl (by decide));have r:lB L (Q6 (9:Nat))=decide (wY L=Q6 (9:Nat)):=WU (.inl (by decide));have b:lB L (Q6 (10:Nat))=decide (wY L=Q6 (10:Nat)):=WU (.inl (by decide));have c:lB L (Q6 (11:Nat))=decide (wY L=Q6 (11:Nat)):=WU (.inl (by decide));have d:lB L (Q6 (12:Nat))=decide (wY L=Q6 (12:Nat)):=WU (.inl (by decide));generalize wY L=t at *;simp only[JX,List.find?_cons,List.find?_nil,j,k,l,m,n,p,q,r,b,c,d];clear j k l m n p q r b c d;by_cases h:∃o:Nat,2<=o/\o<=12/\t=Q6 o
 ·obtain⟨o,s,u,rfl⟩:=h;have:o=2\/o=3\/o=4\/o=5\/o=6\/o=7\/o=8\/o=9\/o=10\/o=11\/o=12:=by omega
  rcases this with rfl|rfl|rfl|rfl|rfl|rfl|rfl|rfl|rfl|rfl|rfl<;>decide
 ·have a:∀o:Nat,2<=o->o<=12->¬t=Q6 o:=fun o s u e=>h ⟨o,s,u,e⟩
  have v:¬t=[61]:=a 2 (by omega) (by omega);have w:¬t=[60]:=a 3 (by omega) (by omega);have x:¬t=[60,61]:=a 4 (by omega) (by omega);have y:¬t=[62]:=a 5 (by omega) (by omega);have z:¬t=[62,61]:=a 6 (by omega) (by omega);have A:=a 7 (by omega) (by omega);have B:=a 8 (by omega) (by omega);have C:=a 9 (by omega) (by omega);have f:=a 10 (by omega) (by omega);have g:=a 11 (by omega) (by omega);have i:=a 12 (by omega) (by omega);have E:¬2<=Vl t:=by
   unfold Vl;split
   ·rename_i D;simp only[fY,zv,wu,or_false]at D;rcases D with e|e|e|e|e|e|e|e|e|e|e|e|e
    ·rw[e];decide
    ·rw[e];decide
    ·exact absurd e v
    ·exact absurd e w
    ·exact absurd e x
    ·exact absurd e y
    ·exact absurd e z
    ·exact absurd e A
    ·exact absurd e B
    ·exact absurd e C
    ·exact absurd e f
    ·exact absurd e g
    ·exact absurd e i
   ·decide
  rw[zf E];simp only[v,w,x,y,z,A,B,C,f,g,i,decide_false,or_self]
theorem za9{L:za}(h:2<=Vl (wY L)):wY L=Q6 (Vl (wY L)).toNat/\(Vl (wY L)).toNat<=12:=by
 have a:=(Au (wY L)).2;refine⟨?_,by omega⟩;generalize wY L=t at *;unfold Vl at h a⊢;split at h
 ·rename_i b;rw[zg b];simp only[Q6,JE];have c:=List.idxOf_lt_length_of_mem b;rw[zo c];simp
 ·omega
theorem Ia{b:Qst}(d:b.b≠none):(JC s b).2.b=b.b:=by
 have a:(iO s b).b=b.b:=by
  have c:(yX s b).b≠none:=d;unfold iO;split
  ·rw[vN c];rfl
  ·rfl
 unfold JC;rw[zg (by rw[a];exact d)];exact a
theorem zhd{p:Nat}:([34]:za).isPrefixOf (s.drop p)=decide (s[p]?=some 34):=by
 rw[q6,lC,zjk];constructor
 ·rintro⟨l,a⟩;have:(s.drop p)[0]?=some 34:=by rw[a];rfl
  simpa using this
 ·intro h;obtain⟨a,e⟩:=zj.1 h;exact⟨_,by rw[zl a,e]⟩
theorem yP.te{a:Pst}{b:Qst}(h:yP s a b)(Y:b.p<=s.length):yP s (Dx s zy jB a).2 (GG s b).2/\((GG s b).2.b=none->(Dx s zy jB a).1=(GG s b).1):=by
 obtain⟨y,L⟩:=h.wo;have n:=ou (s:=s) Y;unfold GG Dx;simp only;obtain⟨W,g,X⟩:∃W g,gY s a=(W,g):=⟨_,_,rfl⟩;obtain⟨nb,d,r⟩:∃nb d,VM s b=(nb,d):=⟨_,_,rfl⟩;rw[X,r]at y L;rw[r]at n;rw[X,r];simp only at y L n⊢;cases t:d.b with
 |some q=>
  have c:d.b≠none:=by rw[t];intro e;cases e
  have N:¬g.e=0:=fun e=>c (y.ne.1 e)
  obtain⟨P,J⟩:=H8 (s:=s) c JX;obtain⟨r1,Q,hr⟩:∃r1 Q,A4 s JX d=(r1,Q):=⟨_,_,rfl⟩;rw[hr]at P J;simp only at P J;subst P;rw[hr,zg (show(y8 s g).e≠0 from N)];simp only;have l:Q.b≠none:=by rw[J];exact c
  rw[vN l];exact⟨y.err c rfl rfl J,fun e=>absurd e l⟩
 |none=>
  have u:=y.Zm t;have hn:=L t;subst hn;rw[zf (show¬(y8 s g).e≠0 from fun e=>e u.1),XT,u.2.1,oJ JX t,H9];by_cases z:2<=Vl (wY (s.drop (pB s d.p)))
  ·rw[zg z,zf (by omega)];obtain⟨K,A⟩:=za9 z;obtain⟨o,v⟩:∃o:Nat,Vl (wY (s.drop (pB s d.p)))=o:=⟨(Vl (wY (s.drop (pB s d.p)))).toNat,by omega⟩;rw[v]at z K A⊢;simp only[JE]at K A⊢;have R:Yx s (y8 s g) (Q6 o)=(y8 s (y8 s g)).mv ((y8 s (y8 s g)).p+(Q6 o).length):=by
    have S:KF s (y8 s g)=Q6 o:=by rw[XT,show pB s (y8 s g).p=pB s d.p from(ZS g.p).trans u.2.1];exact K
    unfold Yx;rw[H7 (a:=y8 s g) u.1,zg S];rfl
   have hL:wY (s.drop (pB s d.p))≠[]:=by
    rw[K];exact(by
     have:o=2\/o=3\/o=4\/o=5\/o=6\/o=7\/o=8\/o=9\/o=10\/o=11\/o=12:=by omega
     rcases this with rfl|rfl|rfl|rfl|rfl|rfl|rfl|rfl|rfl|rfl|rfl<;>decide)
   obtain⟨a3,B⟩:=wM (Yx s (y8 s g) (Q6 o));obtain⟨f,i⟩:=wM ((yX s d).mv (pB s d.p+(Q6 o).length));have j:yP s a3 f:=by rw[<-B,<-i,R,sU];refine .Nb t u.1 ?_ u.2.2;simp only[Pst.mv,Qst.mv,hC,u.2.1]
   have m:f.b=none:=by rw[<-i];exact t
   have w:f.p<=s.length:=by have hf:=H9 (s.drop (pB s d.p));rw[zg (by rw[v];exact z),v]at hf;have:=GB (s:=s) JX d n.2.1;rw[oJ JX t,hf]at this;simp only[JE]at this;rw[<-i];exact this.2.1
   rw[B,i];unfold tvQ;have x:(o=2\/o=12)/\xR (o:Int)=false/\jY (o:Int)=false\/¬(o=2\/o=12)/\xR (o:Int)=false/\jY (o:Int)=true\/¬(o=2\/o=12)/\xR (o:Int)=true/\jY (o:Int)=false:=by
    have:o=2\/o=3\/o=4\/o=5\/o=6\/o=7\/o=8\/o=9\/o=10\/o=11\/o=12:=by omega
    rcases this with rfl|rfl|rfl|rfl|rfl|rfl|rfl|rfl|rfl|rfl|rfl<;>decide
   rcases x with⟨C,D,E⟩|⟨C,D,E⟩|⟨C,D,E⟩
   ·rw[zg C,D,E];simp only[zm,zQ];obtain⟨F,G⟩:=j.vs w;exact⟨F,fun e=>by rw[G e]⟩
   ·rw[zf C,D,E];simp only[zm,zQ,zK];obtain⟨F,G⟩:=j.va w;exact⟨F,fun e=>by rw[G e]⟩
   ·rw[zf C,D,E];simp only[zm,zQ,zK];have H:=j.bl;have T:=Q7 (s:=s) w;have U:(y8 s a3).p=(yX s f).p:=(j.Zm m).2.1;have hq:Tm s (yX s f)=if s[(yX s f).p]?=some 34 then yX s f else(yX s f).fail (yX s f).p 10:=by unfold Tm;rw[zhd,show(yX s f).b=none from m];by_cases e:s[(yX s f).p]?=some 34<;>simp[e]
    rw[U,hq];by_cases k:s[(yX s f).p]?=some 34
    ·rw[zg k,zg k];obtain⟨F,G⟩:=H.va T.2.1;exact⟨F,fun e=>by rw[G e]⟩
    ·rw[zf k,zf k];have I:=H.wr;rw[ef]at I;have c:((yX s f).fail (yX s f).p 10).b≠none:=vg _ _ _;exact⟨I.err c rfl rfl (Ia c),fun e=>absurd ((Ia (s:=s) c).symm.trans e) c⟩
  ·rw[zf z,zg (by omega)];simp only;rw[zf (by decide)];have I:=y.bl.wr;rw[ef]at I;exact⟨I,fun e=>absurd e (vg _ _ _)⟩
theorem dp_b(b:Qst)(k:Nat):(b.dp k).b=b.b/\(b.dp k).p=b.p/\(b.dp k).d=k:=⟨rfl,rfl,rfl⟩
theorem Sa(b:Qst)(k:Nat)(w:za):jD s (b.dp k) w=((jD s b w).1,(jD s b w).2.dp k):=by
 have a:yX s (b.dp k)=(yX s b).dp k:=rfl;have c:fK s ((yX s b).dp k)=fK s (yX s b):=rfl;unfold jD;rw[a,c,show(b.dp k).b=b.b from rfl];split
 ·rfl
 ·split
  ·split<;>rfl
  ·rw[show((yX s b).dp k).p=(yX s b).p from rfl];split<;>rfl
theorem Sb(b:Qst)(k i:Nat)(x:Int):(b.dp k).fail i x=(b.fail i x).dp k:=by unfold Qst.fail;rw[show(b.dp k).b=b.b from rfl];cases b.b<;>rfl
theorem Sc(b:Qst)(k:Nat)(w:za):xz s (b.dp k) w=(xz s b w).dp k:=by
 unfold xz;rw[Sa];simp only;split
 ·rfl
 ·rw[show((jD s b w).2.dp k).p=(jD s b w).2.p from rfl,Sb]
theorem Ib(b:Qst)(w:za):(xz s b w).d=b.d:=by
 unfold xz;split
 ·exact(oI b w).2
 ·rw[(Zh _ _ _).2];exact(oI b w).2
theorem Ic:ee [40]:=aA (by decide) (by decide) (by decide)
theorem zca:ee [41]:=aA (by decide) (by decide) (by decide)
theorem zhe:ee [44]:=aA (by decide) (by decide) (by decide)
theorem Sd:ee [46]:=aA (by decide) (by decide) (by decide)
theorem AJ{a:Pst}(h:a.e≠0)(w:za):(Yx s a w).e=a.e/\(Yx s a w).i=a.i:=by
 have b:kz s a w=(false,a):=by unfold kz;rw[zg h]
 have c:(y8 s a).e≠0:=h;unfold Yx;rw[b];simp only[zm,zQ];unfold ch Pst.fail;rw[zf c];exact⟨rfl,rfl⟩
theorem yP.br{a:Pst}{b:Qst}(h:yP s a b)(k:Nat):yP s (VD s a) ((Y4 (xz s b [40]) k).dp ((Y4 (xz s b [40]) k).d+1)):=by
 have A:(Y4 (xz s b [40]) k).d=b.d:=by rw[(lA _ _).2.1,Ib]
 cases o:b.b with
 |some q=>
  have u:b.b≠none:=by rw[o];intro e;cases e
  have v:¬a.e=0:=fun e=>u (h.ne.1 e)
  have r:=h.mu Ic;have j:=AJ (s:=s) v [40];have f:(xz s b [40]).b≠none:=fun e=>by have:=r.ne.2 e;rw[j.1]at this;exact v this
  have w:(Y4 (xz s b [40]) k).b=(xz s b [40]).b:=by
   unfold Y4;split
   ·rw[vN f]
   ·rfl
  unfold VD;simp only;rw[zf v];exact r.err f rfl rfl w
 |none=>
  have g:=h.Zm o;have x:yP s (y8 s a) b:=.Nb o g.1 (by rw[hC,ZS];exact g.2.1) g.2.2;unfold VD;simp only;rw[zg g.1];by_cases t:KF s a=[40]/\100<=a.d
  ·rw[zg t];have y:((y8 s a).fail 0 2).e≠0:=by unfold Pst.fail;rw[zg (show(y8 s a).e=0 from g.1)];show(2:Int)≠0;decide
   have j:=AJ (s:=s) y [40];have l:lB (s.drop (pB s b.p)) [40]=true:=by rw[WU Ic,<-g.2.1,<-XT,t.1];decide
   have z:(xz s b [40]).b=none:=by unfold xz;rw[Ky o,l];exact o
   have m:(Y4 (xz s b [40]) k).b=some (k,2):=by unfold Y4;rw[zg (by rw[Ib,<-g.2.2];exact t.2)];unfold Qst.fail;rw[z]
   unfold yP;rw[(dp_b _ _).1,m];simp only;refine⟨?_,by decide,.inl ⟨by trivial,?_⟩⟩
   ·show(Yx s ((y8 s a).fail 0 2) [40]).e=2;rw[j.1];unfold Pst.fail;rw[zg (show(y8 s a).e=0 from g.1)]
   ·show(Yx s ((y8 s a).fail 0 2) [40]).i=0;rw[j.2];unfold Pst.fail;rw[zg (show(y8 s a).e=0 from g.1)]
  ·rw[zf t];have r:=x.mu Ic;cases c:(xz s b [40]).b with
   |none=>
    have l:lB (s.drop (pB s b.p)) [40]=true:=by
     cases B:lB (s.drop (pB s b.p)) [40]
     ·unfold xz at c;rw[Ky o,B]at c;exact absurd c (vg _ _ _)
     ·rfl
    rw[WU Ic,zjk,<-g.2.1,<-XT]at l;have hd:¬100<=(xz s b [40]).d:=by rw[Ib,<-g.2.2];exact fun e=>t ⟨l,e⟩
    have m:Y4 (xz s b [40]) k=xz s b [40]:=by unfold Y4;rw[zf hd]
    have n:=r.Zm c;rw[m];exact .Nb c n.1 n.2.1 (by show(Yx s (y8 s a) [40]).d+1=_;rw[n.2.2];rfl)
   |some q=>
    have f:(xz s b [40]).b≠none:=by rw[c];intro e;cases e
    have w:(Y4 (xz s b [40]) k).b=(xz s b [40]).b:=by
     unfold Y4;split
     ·rw[vN f]
     ·rfl
    exact r.err f rfl rfl w
def SimF(s:za)(f:Pst->Cnd×Pst)(g:Qst->Cnd×Qst):Prop:=∀a b,yP s a b->b.b=none->b.p<=s.length->yP s (f a).2 (g b).2/\((g b).2.b=none->(f a).1=(g b).1)
def ErrP(f:Pst->Cnd×Pst):Prop:=∀a,a.e≠0->(f a).2.e=a.e/\(f a).2.i=a.i
theorem D1{g:Qst->Cnd×Qst}(e:DU s g):∀(k:Nat) (l:List Cnd) (b:Qst),b.p<=s.length->(DT s g k l b).2.b=none->b.b=none
 | 0,l,b,_,h=>h
 |k+1,l,b,a,h=>by
  have c:=jd (s:=s) [44] a;rw[DT]at h;split at h
  ·rename_i d;exact(c.2.2.2.2 d).1
  ·rw[<-(oI b [44]).1];exact h
theorem yP.ag{f:Pst->Cnd×Pst}{g:Qst->Cnd×Qst}(j:SimF s f g)(c:DU s g):∀(k:Nat) (l l':List Cnd) {a:Pst} {b:Qst},yP s a b->b.p<=s.length->yP s (Dy s f k l a).2 (DT s g k l' b).2/\(l=l'->(DT s g k l' b).2.b=none->(Dy s f k l a).1=(DT s g k l' b).1)
 | 0,l,l',a,b,h,_=>⟨h,fun e _=>e⟩
 |k+1,l,l',a,b,h,Y=>by
  obtain⟨q,m⟩:=h.tk zhe;have d:=jd (s:=s) [44] Y;rw[Dy,DT,q];cases r:(jD s b [44]).1
  ·simp only[zm,zQ];exact⟨m,fun e _=>e⟩
  ·simp only[zK];have i:(jD s b [44]).2.b=none:=by rw[(oI b [44]).1];exact(d.2.2.2.2 r).1
   have n:=c _ d.2.1;obtain⟨t,u⟩:=j _ _ m i d.2.1;obtain⟨v,w⟩:=yP.ag j c k (l++[(f (kz s a [44]).2).1]) (l'++[(g (jD s b [44]).2).1]) t n.2.1;refine⟨v,fun e o=>w ?_ o⟩;rw[e,u (D1 c _ _ _ n.2.1 o)]
theorem yP.cl{a:Pst}{b:Qst}(h:yP s a b)(l:List Cnd):yP s ((Yx s a [41]).up) (fS s (l,b)).2:=by
 have g:=h.mu zca;have i:(fS s (l,b)).2=(xz s b [41]).dp (b.d-1):=Sc _ _ _;rw[i];cases c:(xz s b [41]).b with
 |none=>have f:=g.Zm c;refine .Nb c f.1 f.2.1 ?_;show(Yx s a [41]).d-1=b.d-1;rw[f.2.2,Ib]
 |some q=>exact g.err (by rw[c];intro e;cases e) rfl rfl rfl
theorem zei{a:Pst}(h:a.e≠0):((Yx s a [41]).up).e=a.e/\((Yx s a [41]).up).i=a.i:=AJ h [41]
theorem oK{l:List Cnd}{b:Qst}(h:(fS s (l,b)).2.b=none):b.b=none:=by
 have a:(fS s (l,b)).2=(xz s b [41]).dp (b.d-1):=Sc _ _ _;rw[a]at h;have h:(xz s b [41]).b=none:=h;unfold xz at h;split at h
 ·rw[(oI _ _).1]at h;exact h
 ·exact absurd h (vg _ _ _)
theorem yP.ar{f:Pst->Cnd×Pst}{g:Qst->Cnd×Qst}(P:SimF s f g)(E:DU s g){a:Pst}{b:Qst}(h:yP s a b)(Y:b.p<=s.length):yP s (oi s f a).2 (pX s g b).2/\((pX s g b).2.b=none->(oi s f a).1=(pX s g b).1):=by
 have u:yP s a (yX s b):=by
  cases F:b.b with
  |none=>have j:=h.Zm F;exact .Nb F j.1 (by rw[HZ,ZS];exact j.2.1) j.2.2
  |some q=>exact h.err (by rw[F];intro e;cases e) rfl rfl rfl
 have i:=u.br (yX s b).p;have Q:=AB (s:=s) Y;have m:Y4 (xz s (yX s b) [40]) (yX s b).p=Y5 s b:=rfl;rw[m]at i;obtain⟨q,R⟩:=wM (Y5 s b);rw[R]at i Q;unfold oi pX;simp only;rw[R];cases k:q.b with
 |some x=>
  have n:q.b≠none:=by rw[k];intro e;cases e
  have S:¬(VD s a).e=0:=fun e=>n (i.ne.1 e)
  rw[zf S,zg (by intro e;cases e)];have T:=zei (s:=s) S;exact⟨i.err n T.1 T.2 rfl,fun e=>absurd e n⟩
 |none=>
  have j:=i.Zm k;rw[zg j.1,zf (show¬(none:Option (Nat×Int))≠none from fun e=>e rfl)];obtain⟨G,v⟩:=i.tk zca;rw[Sa]at G v;simp only at G v;have o:(KF s (VD s a)=[41])↔(jD s q [41]).1=true:=by rw[<-G,H7 j.1];by_cases e:KF s (VD s a)=[41]<;>simp[e]
  by_cases r:KF s (VD s a)=[41]
  ·rw[zg r,zg (o.1 r)];refine⟨?_,fun _=>rfl⟩;have w:KF s (y8 s (VD s a))=[41]:=by rw[XT,hC,ZS];exact r
   have H:Yx s (y8 s (VD s a)) [41]=(y8 s (VD s a)).mv ((y8 s (VD s a)).p+1):=by unfold Yx;rw[H7 (a:=y8 s (VD s a)) j.1,zg w,sU];rfl
   have I:(jD s q [41]).2=(yX s q).mv (pB s q.p+1):=by
    have:=o.1 r;rw[Ky k]at this⊢;split at this
    ·rw[zg (by assumption)];rfl
    ·cases this
   simp only;rw[H,I];refine .Nb k j.1 ?_ ?_
   ·show pB s ((y8 s (VD s a)).p+1)=pB s (pB s q.p+1);rw[hC,j.2.1];rfl
   ·show(VD s a).d-1=q.d;rw[j.2.2];show q.d+1-1=q.d;omega
  ·rw[zf r,zf (fun e=>r (o.2 e))];have y:=jd (s:=s) [41] Q.2.1;have J:(kz s (VD s a) [41]).2=y8 s (VD s a):=by rw[H7 j.1,zf r]
   rw[J]at v;have z:((jD s q [41]).2.dp (q.d+1)).b=none:=by show(jD s q [41]).2.b=none;rw[(oI q [41]).1];exact k
   have l:(jD s q [41]).2.dp (q.d+1)=XR s q:=rfl;rw[show(q.dp (q.d+1)).d=q.d+1 from rfl]at *;rw[l]at v z;obtain⟨X,f2⟩:=P _ _ v z y.2.1;have A:=E (XR s q) y.2.1;obtain⟨K,L⟩:=yP.ag P E (s.length+1) [(f (y8 s (VD s a))).1] [(g (XR s q)).1] X A.2.1;obtain⟨N,U,B⟩:∃N U,Dy s f (s.length+1) [(f (y8 s (VD s a))).1] (f (y8 s (VD s a))).2=(N,U):=⟨_,_,rfl⟩;obtain⟨D,W,t⟩:∃D W,DT s g (s.length+1) [(g (XR s q)).1] (g (XR s q)).2=(D,W):=⟨_,_,rfl⟩;have c:=D1 E (s.length+1) [(g (XR s q)).1] (g (XR s q)).2 A.2.1;rw[B,t]at K L;rw[t]at c;rw[B,t];simp only at K L c⊢;refine⟨K.cl D,fun e=>?_⟩;have C:=oK e;show N=D;exact L (by rw[f2 (c C)]) C
theorem yP.si{f:Pst->Cnd×Pst}{g:Qst->Cnd×Qst}(u:SimF s f g)(C:DU s g)(v:ErrP f){a:Pst}{b:Qst}(h:yP s a b)(Y:b.p<=s.length):yP s (Ao s f a).2 (My s g b).2/\((My s g b).2.b=none->(Ao s f a).1=(My s g b).1):=by
 have c:=h.br ((xz s b [40]).p-1);have r:=AE (s:=s) Y;have k:Y4 (xz s b [40]) ((xz s b [40]).p-1)=Kw s b:=rfl;rw[k]at c;obtain⟨q,t⟩:=wM (Kw s b);rw[t]at c r;unfold Ao My;simp only;rw[t];have j:q.dp (q.d+1)=dY q:=rfl;rw[j]at c;cases l:q.b with
 |some x=>
  have m:q.b≠none:=by rw[l];intro e;cases e
  have i:(dY q).b≠none:=m;have w:¬(VD s a).e=0:=fun e=>i (c.ne.1 e)
  rw[zg (by intro e;cases e)];obtain⟨y,z⟩:=v (VD s a) w;have n:yP s (f (VD s a)).2 (dY q):=c.err i y z rfl;refine⟨n.cl [],fun e=>absurd (oK e) i⟩
 |none=>rw[zf (by intro e;exact e rfl)];have o:(dY q).b=none:=l;obtain⟨A,B⟩:=u _ _ c o r.2.1;refine⟨A.cl [],fun e=>?_⟩;show[(f (VD s a)).1]=[(g (dY q)).1];rw[B (oK e)]
theorem zba:∀k,ErrP (iN s zy jB k)
 | 0=>fun a h=>⟨rfl,rfl⟩
 |k+1=>fun a h=>by
  have b:∀w,kz s a w=(false,a):=fun w=>by unfold kz;rw[zg h]
  have c:¬(y8 s a).e=0:=h;rw[iN];simp only[b,zm,zQ];unfold ch Pst.fail;rw[zf c];exact⟨rfl,rfl⟩
theorem D2{b:Qst}(d:b.b≠none):(GG s b).2.b=b.b:=by
 have a:(VM s b).2.b=b.b:=by
  have c:(yX s b).b≠none:=d;unfold VM;rw[zg (.inr d)];simp only;split
  ·rw[vN c];rfl
  ·rfl
 obtain⟨f,e⟩:=H8 (s:=s) (b:=(VM s b).2) (by rw[a];exact d) JX;obtain⟨g,h,i⟩:∃g h,A4 s JX (VM s b).2=(g,h):=⟨_,_,rfl⟩;rw[i]at f e;simp only at f e;subst f;unfold GG;rw[i];simp only;rw[vN (by rw[e,a];exact d),e,a]
theorem yP.co:∀k,SimF s (iN s zy jB k) (VN s k)
 | 0=>fun a b h _ _=>⟨h,fun _=>rfl⟩
 |k+1=>fun a b h K Y=>by
  have g:=yP.co k;have i:=ck (s:=s) k;have D:=zba (s:=s) k;obtain⟨E,u⟩:=h.tk (w:=[97,108,108]) (.inl (by decide));have v:=jd (s:=s) [97,108,108] Y;obtain⟨F,x⟩:=u.tk (w:=[97,110,121]) (.inl (by decide));have l2:=jd (s:=s) [97,110,121] v.2.1;obtain⟨G,y⟩:=x.tk (w:=[110,111,116]) (.inl (by decide));have z:=jd (s:=s) [110,111,116] l2.2.1;obtain⟨H,A⟩:=y.tk (w:=[105,110]) (.inl (by decide));have I:=jd (s:=s) [105,110] z.2.1;obtain⟨J,j⟩:=A.tk (w:=[104,97,115]) (.inl (by decide));have B:=jd (s:=s) [104,97,115] I.2.1;rw[iN,VN];simp only;rw[E];cases l:(jD s b [97,108,108]).1
  case true=>simp only[zK];obtain⟨c,d⟩:=u.ar g i v.2.1;exact⟨c,fun e=>by rw[d e]⟩
  simp only[zm,zQ];rw[F];cases C:(jD s (jD s b [97,108,108]).2 [97,110,121]).1
  case true=>simp only[zK];obtain⟨c,d⟩:=x.ar g i l2.2.1;exact⟨c,fun e=>by rw[d e]⟩
  simp only[zm,zQ];rw[G];cases L:(jD s (jD s (jD s b [97,108,108]).2 [97,110,121]).2 [110,111,116]).1
  case true=>simp only[zK];obtain⟨c,d⟩:=y.si g i D z.2.1;exact⟨c,fun e=>by rw[d e]⟩
  simp only[zm,zQ];rw[H];cases N:(jD s (jD s (jD s (jD s b [97,108,108]).2 [97,110,121]).2 [110,111,116]).2 [105,110]).1
  case true=>simp only[zK];obtain⟨c,d⟩:=A.wo;exact⟨c,fun e=>by rw[d e]⟩
  simp only[zm,zQ];rw[J];cases P:(jD s (jD s (jD s (jD s (jD s b [97,108,108]).2 [97,110,121]).2 [110,111,116]).2 [105,110]).2 [104,97,115]).1
  case true=>simp only[zK];obtain⟨c,d⟩:=(j.mu Sd).wo;exact⟨c,fun e=>by rw[d e]⟩
  simp only[zm,zQ];rw[zeh];generalize (jD s (jD s (jD s (jD s (jD s b [97,108,108]).2 [97,110,121]).2 [110,111,116]).2 [105,110]).2 [104,97,115]).2=q at *;generalize (kz s (kz s (kz s (kz s (kz s a [97,108,108]).2 [97,110,121]).2 [110,111,116]).2 [105,110]).2 [104,97,115]).2=p at *;have Q:=JS (s:=s) [46] B.2.1;obtain⟨l,C⟩:=j.tk Sd;have m:=j.mu Sd;rw[l];cases n:(jD s q [46]).1
  ·simp only[zm,zQ];have o:Yx s p [46]=ch s (kz s p [46]).2:=by unfold Yx;rw[l,n];simp
   have f:(xz s q [46]).b≠none:=by unfold xz;rw[n];exact vg _ _ _
   rw[<-o];exact⟨m.err f rfl rfl (D2 f),fun e=>absurd (by rw[D2 f]at e;exact e) f⟩
  ·simp only[zK];have r:xz s q [46]=(jD s q [46]).2:=by unfold xz;rw[n];rfl
   rw[r];have t:=jd (s:=s) [46] B.2.1;exact C.te t.2.1
noncomputable def GH (s:za):Qst:=(VN s 102 ⟨0,0,none⟩).2
noncomputable def stQ (s:za):Qst:=if(yX s (GH s)).p<s.length then(yX s (GH s)).fail (yX s (GH s)).p 10 else yX s (GH s)
theorem MH(l:¬20000<s.length):match(stQ s).b with
  |some (k,x)=>vt zy jB s=(zC,(if x=2 then 0 else k),x)/\x≠0
  |none=>vt zy jB s=if(VN s 102 ⟨0,0,none⟩).1.check≠0 then(zC,0,(VN s 102 ⟨0,0,none⟩).1.check)else((VN s 102 ⟨0,0,none⟩).1,0,0):=by
 have h:=yP.co (s:=s) 102 ⟨0,0,0,0⟩ ⟨0,0,none⟩ (.Nb rfl rfl rfl rfl) rfl (jb _);have E:=ck (s:=s) 102 ⟨0,0,none⟩ (jb _);unfold vt;rw[zf l];simp only;obtain⟨F,d,m⟩:∃F d,iN s zy jB 102 ⟨0,0,0,0⟩=(F,d):=⟨_,_,rfl⟩;obtain⟨G,a,f⟩:∃G a,VN s 102 ⟨0,0,none⟩=(G,a):=⟨_,_,rfl⟩;have n:GH s=a:=by unfold GH;rw[f]
 unfold stQ;rw[n];rw[m,f]at h;rw[f]at E;rw[m,f];simp only at h E⊢;obtain⟨u,K⟩:=h;have v:=u.bl;cases j:a.b with
 |some q=>
  obtain⟨k,x⟩:=q;have w:a.b≠none:=by rw[j];intro e;cases e
  have o:(yX s a).b≠none:=w;have y:(if(yX s a).p<s.length then(yX s a).fail (yX s a).p 10 else yX s a)=yX s a:=by
   split
   ·exact vN o _ _
   ·rfl
  have g:=u.XX j;have L:¬(y8 s d).e=0:=by rw[show(y8 s d).e=d.e from rfl,g.1];exact g.2.1
  have z:∀c:Prop,[Decidable c]->(if c then ch s (y8 s d)else y8 s d).e=d.e/\(if c then ch s (y8 s d)else y8 s d).i=d.i:=fun c _=>by
   split
   ·have A:¬(y8 s (y8 s d)).e=0:=L;unfold ch Pst.fail;rw[zf A];exact⟨rfl,rfl⟩
   ·exact⟨rfl,rfl⟩
  rw[y,show(yX s a).b=some (k,x)from j];simp only;obtain⟨H,N⟩:=z ((y8 s d).p<s.length);rw[zg (by rw[H,g.1];exact g.2.1),H,N,g.1];refine⟨?_,g.2.1⟩;rcases g.2.2 with⟨r,P⟩|⟨r,B⟩
  ·rw[zg r,P]
  ·rw[zf r,B]
 |none=>
  have g:=u.Zm j;have C:(y8 s d).p=(yX s a).p:=g.2.1;rw[C];by_cases t:(yX s a).p<s.length
  ·rw[zg t,zg t];have I:=v.wr;rw[ef]at I;have J:((yX s a).fail (yX s a).p 10).b=some ((yX s a).p,10):=by unfold Qst.fail;rw[show(yX s a).b=none from j]
   have D:=I.XX J;rw[J];simp only;rw[zg (by rw[D.1];decide),D.1,zf (by decide)];refine⟨?_,by decide⟩;rcases D.2.2 with⟨r,_⟩|⟨_,B⟩
   ·exact absurd r (by decide)
   ·rw[B]
  ·rw[zf t,zf t,show(yX s a).b=none from j];simp only;rw[zf (by simpa using(show(y8 s d).e=0 from g.1)),K j]
end
noncomputable abbrev Ccoq (k:Nat):Ctx:=qj prog [(16,DC),(17,arS k),(18,siS k),(19,woPS),(20,Re),(21,tePS),(9,DB)]
theorem zbb{k:Nat}(h:zi prog 7 (R0 k)):Gd (Ccoq k):=qQ mixed ⟨ay,MC h,MB h,sG,fJ,Mn,Yy,trivial⟩
theorem tk_e{s:za}{st a:Pst}{w:za}{b:Bool}(h:kz s st w=(b,a))(c:b=true)(Y:st.p<=s.length):st.e=0:=by have:=(kR (s:=s) w Y).2.2.2.2;rw[h]at this;exact(this c).1
set_option maxHeartbeats 8000000 in
theorem Se{k:Nat}(h:zi prog 7 (R0 k)):zi prog 7 (R0 (k+1)):=
 ya (C:=Ccoq k) func7 (by kernel_rfl) rfl TP _ fun cs az cs' r X=>by
  obtain⟨s,st,⟨⟩,rfl,rfl,hs,Y,⟨hk1,q⟩,rfl,rfl⟩:=vf X;refine⟨by simp[aU,Tryz.f7],?_⟩;clear X;have hg:=zbb h;have c:=kR (s:=s) (st:=st) [97,108,108] Y;obtain⟨G,g,H⟩:∃G g,kz s st [97,108,108]=(G,g):=⟨_,_,rfl⟩;rw[H]at c;simp only at c;have d:=kR (s:=s) (st:=g) [97,110,121] c.2.1;obtain⟨I,i,J⟩:∃I i,kz s g [97,110,121]=(I,i):=⟨_,_,rfl⟩;rw[J]at d;simp only at d;have t:=kR (s:=s) (st:=i) [110,111,116] d.2.1;obtain⟨K,j,L⟩:∃K j,kz s i [110,111,116]=(K,j):=⟨_,_,rfl⟩;rw[L]at t;simp only at t;have B:=kR (s:=s) (st:=j) [105,110] t.2.1;obtain⟨N,n,T⟩:∃N n,kz s j [105,110]=(N,n):=⟨_,_,rfl⟩;rw[T]at B;simp only at B;have y:=kR (s:=s) (st:=n) [104,97,115] B.2.1;obtain⟨P,l,U⟩:∃P l,kz s n [104,97,115]=(P,l):=⟨_,_,rfl⟩;rw[U]at y;simp only at y;have Q:=kR (s:=s) (st:=l) [46] y.2.1;obtain⟨R,z,W⟩:∃R z,kz s l [46]=(R,z):=⟨_,_,rfl⟩;rw[W]at Q;simp only at Q;have D:dZ s (k+1) st=if G=true then(.mk 1 [] 0 [] [] [] (oi s (dZ s k) g).1,(oi s (dZ s k) g).2)else if I=true then(.mk 2 [] 0 [] [] [] (oi s (dZ s k) i).1,(oi s (dZ s k) i).2)else if K=true then(.mk 3 [] 0 [] [] [] (Ao s (dZ s k) j).1,(Ao s (dZ s k) j).2)else if N=true then(.mk 5 [] 0 [] [] (gY s n).1 [],(gY s n).2)else if P=true then(.mk 4 (gY s (Yx s l [46])).1 1 [] [] [] [],(gY s (Yx s l [46])).2)else if R=true then Dx s zy jB z else(zC,ch s z):=by simp only[dZ,iN,H,J,L,T,U,W]
  rw[D];clear D;refine Wp.cut hg (fun M Y Z=>M 0=.ref 0 0 0/\M 2=.ref 1 0 0/\Y 0=some (yg s st)/\Y 1=some (jR kS)/\Z=2) (by kernel_rfl) (by simp[aU,zZ,zz,qd,kS,zc]) ?_;rintro M Y1 _ ⟨u,v,hb,o,rfl⟩;simp only[kS]at o;have m:=ZH (Z:=2) [97,108,108] hb hs Y;rw[H]at m;have p:=ZH (Y:=qf Y1 0 (some (yg s g))) (id:=0) (Z:=2) [97,110,121] (by simp) hs c.2.1;rw[J,qV]at p;have w:=ZH (Y:=qf Y1 0 (some (yg s i))) (id:=0) (Z:=2) [110,111,116] (by simp) hs d.2.1;rw[L,qV]at w;have A:=ZH (Y:=qf Y1 0 (some (yg s j))) (id:=0) (Z:=2) [105,110] (by simp) hs t.2.1;rw[T,qV]at A;have E:=ZH (Y:=qf Y1 0 (some (yg s n))) (id:=0) (Z:=2) [104,97,115] (by simp) hs B.2.1;rw[U,qV]at E;have S:=ZH (Y:=qf Y1 0 (some (yg s l))) (id:=0) (Z:=2) [46] (by simp) hs y.2.1;rw[W,qV]at S;simp only[zz,qd,zd,ze,zh,Nat.reduceAdd]at m p w A E S;have b:∀x:Pst,qf Y1 0 (some (yg s x)) 0=some (yg s x):=fun x=>by simp
  refine Wp.of hg (by kernel_rfl) ?_;cases G
  case true=>
   simp only[zK];have F:st.e=0:=tk_e H rfl Y;have f:g.e=0:=by have x1:=c.2.2.1;omega
   have a:=DV (k:=k) (Z:=2) (b g) hs c.2.1 (by
    have d1:=c.2.2.2.1;refine⟨f,?_,?_⟩
    ·rcases q with h|h
     ·omega
     ·exact absurd F h.1
    ·omega)
   simp only[zz,qd,zd,ze,zh,Nat.reduceAdd,qV]at a;simp[m,a,u,v,o,zc,zI,qe,Tryz.f7];exact qc rfl (by simp[zc,zz,qd]) xc (by simp[qv];rfl)
  simp only[zm,zQ];cases I
  case true=>
   simp only[zK];have F:st.e=0:=(c.2.2.1).symm.trans (tk_e J rfl c.2.1);have f:i.e=0:=by have x1:=c.2.2.1;have x2:=d.2.2.1;omega
   have a:=DV (k:=k) (Z:=2) (b i) hs d.2.1 (by
    have d1:=c.2.2.2.1;have d2:=d.2.2.2.1;refine⟨f,?_,?_⟩
    ·rcases q with h|h
     ·omega
     ·exact absurd F h.1
    ·omega)
   simp only[zz,qd,zd,ze,zh,Nat.reduceAdd,qV]at a;simp[m,p,a,u,v,o,zc,zI,qe,Tryz.f7];exact qc rfl (by simp[zc,zz,qd]) xc (by simp[qv];rfl)
  simp only[zm,zQ];cases K
  case true=>
   simp only[zK];have F:st.e=0:=(c.2.2.1).symm.trans ((d.2.2.1).symm.trans (tk_e L rfl d.2.1));have f:j.e=0:=by have x1:=c.2.2.1;have x2:=d.2.2.1;have x3:=t.2.2.1;omega
   have a:=R1 (k:=k) (Z:=2) (b j) hs t.2.1 (by
    have d1:=c.2.2.2.1;have d2:=d.2.2.2.1;have d3:=t.2.2.2.1;refine⟨f,?_,?_⟩
    ·rcases q with h|h
     ·omega
     ·exact absurd F h.1
    ·omega)
   simp only[zz,qd,zd,ze,zh,Nat.reduceAdd,qV]at a;simp[m,p,w,a,u,v,o,zc,zI,qe,Tryz.f7];exact qc rfl (by simp[zc,zz,qd]) xc (by simp[qv];rfl)
  simp only[zm,zQ];cases N
  case true=>simp only[zK];have a:=oq (Z:=2) (b n) hs B.2.1;simp only[zz,qd,zd,ze,zh,Nat.reduceAdd,qV]at a;simp[m,p,w,A,a,u,v,o,zc,zI,qe,Tryz.f7];exact qc rfl (by simp[zc,zz,qd]) xc (by simp[qv];rfl)
  simp only[zm,zQ];cases P
  case true=>simp only[zK];have hm:=Z8 (s:=s) [46] y.2.1;have gm:=Ku (Z:=2) [46] (b l) hs y.2.1;have a:=oq (Z:=2) (b (Yx s l [46])) hs hm.2.1;simp only[zz,qd,zd,ze,zh,Nat.reduceAdd,qV]at gm a;simp[m,p,w,A,E,gm,a,u,v,o,zc,zI,qe,Tryz.f7];exact qc rfl (by simp[zc,zz,qd]) xc (by simp[qv];rfl)
  simp only[zm,zQ];cases R
  case true=>simp only[zK];have a:=RG (Z:=2) (b z) hs Q.2.1;simp only[zz,qd,zd,ze,zh,Nat.reduceAdd,qV]at a;simp only[qv]at a⊢;simp[m,p,w,A,E,S,a,u,v,o,zc,zI,qe,Tryz.f7];exact qc rfl (by simp[zc,zz,qd]) .id rfl
  simp only[zm,zQ];have a:=YX (Z:=2) (b z) hs Q.2.1;simp only[zz,qd,zd,ze,zh,Nat.reduceAdd,qV]at a;simp[m,p,w,A,E,S,a,u,v,o,zc,zI,qe,Tryz.f7];exact qc rfl (by simp[zc,zz,qd]) xc (by simp[qv];rfl)
theorem Sf:zi prog 7 (R0 0):=
 ya (C:=Ccoq 0) func7 (by kernel_rfl) rfl TP _ fun cs d cs' r a=>by obtain⟨s,st,⟨⟩,rfl,rfl,hs,Y,⟨b,c⟩,rfl,rfl⟩:=vf a;omega
theorem sV:∀k,zi prog 7 (R0 k)
 | 0=>Sf
 |k+1=>Se (sV k)
end Go.Q
