/- Lemmas. -/
import Derived.Test.YtfanbcfchamfjaaGreatDoorG10
set_option maxRecDepth 100000
set_option maxHeartbeats 4000000
open Go Proofs Proofs.YtfanbcfchamfjaaGreatDoor Proofs.Tryz RowKit AM SpanLaw Q Zz
open Go.IntKind renaming i64→i6
namespace Go.Q
abbrev TJ:TypeId:=297
def zO(s:za)(st:Jst):zb:=[str s,int st.p,int st.e,int st.i]
abbrev wo(s:za)(st:Jst):Blk:=qe TJ (zO s st)
theorem me{s b:za}{st a:Jst}(h:zO s st=zO b a):s=b/\st=a:=by cases st;cases a;simp only[zO,zi,zF]at h;obtain⟨f,c,d,e⟩:=h;have c:=qE c;have d:=qE d;have e:=qE e;refine⟨wT f,?_⟩;simp only[Jst.mk.injEq];omega
noncomputable def FJ {b:Type} (encA:b->zb) (pre:za->Jst->b->Prop) (c:za->Jst->b->Jst) (out:za->Jst->b->O):zb->zb->Option (zb×O):=
 pj (α:=za×Jst×b) (fun a=>zO a.1 a.2.1) (fun a=>encA a.2.2) (fun a=>a.1.length<=1048576/\a.2.1.p<=a.1.length/\pre a.1 a.2.1 a.2.2) (fun a=>(zO a.1 (c a.1 a.2.1 a.2.2),out a.1 a.2.1 a.2.2))
noncomputable abbrev mJ {a:Type} (encA:a->zb) (pre:za->Jst->a->Prop) (b:za->Jst->a->Jst) (out:za->Jst->a->O):AM.Spec:=nP TJ (FJ encA pre b out)
theorem Zx{c:Type}{encA:c->zb}{pre:za->Jst->c->Prop}{d:za->Jst->c->Jst}{out:za->Jst->c->O}(f:∀a b,encA a=encA b->a=b)(j:∀b,(encA b).all O.isV=true){s:za}{st:Jst}(b:c){Y:Hp}{id Z:Nat}(k:Y id=some (wo s st))(hs:s.length<=1048576)(Y':st.p<=s.length)(h:pre s st b) :
  mJ encA pre d out (.ref id 0 0::encA b) Y Z=some (out s st b,zI Y id (some (wo s (d s st b))),Z):=
 sG (j b) k rfl (mc (encC:=fun a:List UInt8×Jst×c=>zO a.1 a.2.1) (encA:=fun a=>encA a.2.2) (a:=(s,st,b)) (fun x y l e=>by obtain⟨m,n,o⟩:=x;obtain⟨q,r,t⟩:=y;obtain⟨g,i⟩:=me l;simp only at g i;have e:=f _ _ e;simp only at e;rw[g,i,e]) ⟨hs,Y',h⟩) rfl rfl
theorem Qf{c:Type}{encA:c->zb}{pre:za->Jst->c->Prop}{a:za->Jst->c->Jst}{out:za->Jst->c->O}{cs az cs':zb}{r:O}(h:FJ encA pre a out cs az=some (cs',r)) :
  ∃s st b,cs=zO s st/\az=encA b/\s.length<=1048576/\st.p<=s.length/\pre s st b/\cs'=zO s (a s st b)/\r=out s st b:=by
 obtain⟨⟨s,st,b⟩,e,f,⟨g,i,j⟩,d⟩:=pk h;injection d with d k;exact⟨s,st,b,e,f,g,i,j,d,k⟩
def Oc(a:Nat×Int):zb:=[int a.1,int a.2]
theorem Fx(a b:Nat×Int)(h:Oc a=Oc b):a=b:=by simp only[Oc,zi,zF]at h;have d:=qE h.1;have c:=qE h.2;exact Prod.ext (by omega) c
def aU(_:Unit):zb:=[]
theorem v8(a b:Unit)(_:aU a=aU b):a=b:=rfl
def dJ(c:UInt8):O:=.v (.int .u8 c.toNat)
def aC(c:UInt8):zb:=[dJ c]
theorem TH{a b:UInt8}(h:dJ a=dJ b):a=b:=by have:=qE h;exact yg.1 (by omega)
theorem zcU(a b:UInt8)(h:aC a=aC b):a=b:=by simp only[aC,zi,zF]at h;exact TH h
def aS(s:za):zb:=[str s]
theorem D8(a b:za)(h:aS a=aS b):a=b:=by simp only[aS,zi,zF]at h;exact wT h
noncomputable abbrev Vm:AM.Spec:=mJ Oc (fun _ _ b=>b.1<=1048576) (fun s st b=>st.fail s.length b.1 b.2) (fun _ _ _=>.qZ [])
theorem vK{s:za}{st:Jst}(k:Nat)(x:Int){Y:Hp}{id Z:Nat}(a:Y id=some (wo s st))(hs:s.length<=1048576)(Y':st.p<=s.length)(b:k<=1048576) :
  Vm [.ref id 0 0,int k,int x] Y Z=some (.qZ [],zI Y id (some (wo s (st.fail s.length k x))),Z):=Zx Fx (fun _=>rfl) (k,x) a hs Y' b
theorem xD:zh prog 254 Vm:=
 yU (code:=_) ku ⟨func254,by kernel_rfl,rfl,by kernel_rfl⟩ TJ _ fun cs az cs' r h=>by
  obtain⟨s,st,⟨k,x⟩,rfl,rfl,hs,Y,c,rfl,rfl⟩:=Qf h;refine⟨by simp[Oc,f254],?_⟩;by_cases a:st.e=0
  ·simp[Oc,wF,qe,zO,a,Jst.fail,f254];refine yj rfl ?_;have b:((min k s.length:Nat):Int)=if s.length<k then(s.length:Int)else k:=by split<;>omega
   simp[qe,b]
  ·simp[Oc,wF,qe,zO,a,ZR a,Jst.fail,f254];exact yj rfl rfl
noncomputable def TI:zb->zb->Option O:=fun cs az=>(FJ aU (fun _ _ _=>True) (fun _ st _=>st) (fun s st _=>dJ (jD s st)) cs az).map (·.2)
noncomputable abbrev Vn:AM.Spec:=eL TJ TI
theorem TK(s:za)(st:Jst)(hs:s.length<=1048576)(Y':st.p<=s.length):TI (zO s st) []=some (dJ (jD s st)):=by
 unfold TI FJ;rw[show([]:zb)=aU ()from rfl,mc (encC:=fun a:List UInt8×Jst×Unit=>zO a.1 a.2.1) (encA:=fun a=>aU a.2.2) (a:=(s,st,())) (fun x y d _=>by obtain⟨e,f,g⟩:=x;obtain⟨h,i,j⟩:=y;obtain⟨b,c⟩:=me d;simp only at b c;rw[b,c]) ⟨hs,Y',trivial⟩]
 rfl
theorem mf{s:za}{st:Jst}{Y:Hp}{id Z:Nat}(a:Y id=some (wo s st))(hs:s.length<=1048576)(Y':st.p<=s.length):Vn [.ref id 0 0] Y Z=some (dJ (jD s st),Y,Z):=Oa rfl a rfl (TK s st hs Y')
theorem xE:zh prog 253 Vn:=
 AZ (yU (code:=_) ku ⟨func253,by kernel_rfl,rfl,by kernel_rfl⟩ TJ _ fun cs az cs' r h=>by
  unfold TI at h;rw[kj]at h;obtain⟨⟨c,e⟩,d,b⟩:=WG.1 h;obtain⟨s,st,⟨⟩,rfl,rfl,hs,Y,_,rfl,rfl⟩:=Qf d;simp only[Function.comp_apply,gn]at b;obtain⟨rfl,rfl⟩:=b;refine⟨by simp[aU,f253],?_⟩;by_cases a:st.p<s.length
  ·simp[aU,wF,qe,zO,a,f253];refine wc rfl ?_ .id ?_
   ·rfl
   ·simp[dJ,jD,a]
  ·simp[aU,wF,qe,zO,a,f253];refine wc rfl ?_ .id ?_
   ·rfl
   ·simp[dJ,jD,a])
noncomputable abbrev Cbj:Ctx:=qf prog [(223,hP (FSB Rq))]
theorem zcV:AM.Good Cbj (fun g=>[223].contains g):=qI mixed ⟨Wc,fun _=>zq _ _,trivial⟩
theorem D9:∀(l:za) (c:UInt8),decide (0<=Lib.indexByte l c)=l.contains c
 |[],c=>by simp[Lib.indexByte]
 |b::l,c=>by
  have g:=D9 l c;have h:=Lib.indexByte_ge l c;rw[Lib.indexByte,List.contains_cons];by_cases a:b=c
  ·subst a;simp
  ·have d:¬c=b:=fun e=>a e.symm
   rw[zj (by simpa using a),qM.2 d,ziU,<-g];by_cases f:Lib.indexByte l c=-1
   ·simp[f]
   ·rw[zj (by simpa using f)];have:0<=Lib.indexByte l c:=by omega
    rw[cB this,cB (by omega)]
theorem zcW(c:UInt8):decide (0<=Lib.indexByte [9,10,13,32] c)=Xf c:=by rw[D9];simp only[List.contains_cons,List.contains_nil,Xf,Bool.or_false,Bool.or_assoc]
theorem Od{s:za}{st:Jst}{c:UInt8}(h:s[st.p]?=some c)(a:Xf c=true):Qd s st=Qd s st.wA:=by
 have b:=(zd.1 h).1;have hd:s.drop st.p=c::s.drop (st.p+1):=by rw[zg b,(zd.1 h).2]
 simp[Qd,hd,xI,a,Jst.go,Jst.wA];omega
theorem A0{s:za}{st:Jst}(h:∀c,s[st.p]?=some c->Xf c=false):Qd s st=st:=by
 have:(s.drop st.p).takeWhile Xf=[]:=by
  cases hd:s.drop st.p with
  |nil=>rfl
  |cons c l=>
   have:s[st.p]?=some c:=by
    have a:(s.drop st.p)[0]?=some c:=by rw[hd];rfl
    simpa using a
   simp[xI,h c this]
 simp[Qd,this,Jst.go]
theorem xF{s:za}{st:Jst}(h:st.p<=s.length):st.p<=(Qd s st).p/\(Qd s st).p<=s.length/\(Qd s st).e=st.e/\(Qd s st).i=st.i:=by have:=(List.takeWhile_sublist Xf (l:=s.drop st.p)).length_le;simp only[Qd,Jst.go];simp at this;refine⟨by omega,by omega,trivial,trivial⟩
noncomputable abbrev blS:AM.Spec:=mJ aU (fun _ _ _=>True) (fun s st _=>Qd s st) (fun _ _ _=>.qZ [])
theorem Q4{s:za}{st:Jst}{Y:Hp}{id Z:Nat}(a:Y id=some (wo s st))(hs:s.length<=1048576)(Y':st.p<=s.length):blS [.ref id 0 0] Y Z=some (.qZ [],zI Y id (some (wo s (Qd s st))),Z):=Zx v8 (fun _=>rfl) () a hs Y' trivial
theorem pn:zh prog 273 blS:=
 yU (code:=_) zcV ⟨func273,by kernel_rfl,rfl,by kernel_rfl⟩ TJ _ fun cs az cs' r h=>by
  obtain⟨s,st,⟨⟩,rfl,rfl,hs,Y,t,rfl,rfl⟩:=Qf h;refine⟨by simp[aU,f273],?_⟩;clear h;simp;refine qu (fun k σ Y Z=>σ 0=.ref 0 0 0/\Z=1/\∃q,q=st.p+k/\Y=wF TJ (zO s ⟨q,st.e,st.i⟩)/\q<=s.length/\Qd s ⟨q,st.e,st.i⟩=Qd s st) (s.length-st.p) ⟨by simp[aU],rfl,st.p,rfl,rfl,Y,rfl⟩ ?_;rintro k σ Y _ t ⟨l,rfl,q,z,rfl,u,m⟩;by_cases b:q<s.length
  ·obtain⟨c,n⟩:=yb (s[q]);have f:s[q]?=some c:=by rw[<-n];exact zm b
   have w:=q8 q;have o:∀(Y:Hp) (Z:Nat),hP (FSB Rq) [.v (.string ⟨#[9,10,13,32]⟩),.v (.int .u8 c.toNat)] Y Z=some (int (Lib.indexByte [9,10,13,32] c),Y,Z):=fun Y Z=>iu Rq [9,10,13,32] c Y Z (by decide) rfl
   have d:=zcW c;cases j:Xf c
   ·have a:=A0 (s:=s) (st:=⟨q,st.e,st.i⟩) (fun x g=>by simp only[f,qV]at g;rw[<-g];exact j);rw[j]at d;simp[l,wF,qe,zO,b,n,o,d,f273];rw[<-m,a];exact yj rfl rfl
   ·have a:=Od (s:=s) (st:=⟨q,st.e,st.i⟩) f j;rw[j]at d;simp[l,wF,qe,zO,b,n,o,d,w,f273];have y:(q:Int)+1=st.p+(k+1):=by omega
    refine⟨by omega,by rw[y],by omega,?_⟩;rw[show st.p+(k+1)=q+1 by omega,<-m,a];rfl
  ·have a:=A0 (s:=s) (st:=⟨q,st.e,st.i⟩) (fun x g=>by rw[qY (by simp;omega)]at g;cases g);simp[l,wF,qe,zO,b,f273];rw[<-m,a];exact yj rfl rfl
noncomputable abbrev Csj:Ctx:=qf prog [(254,Vm)]
theorem zcX:Gd Csj:=qD mixed ⟨xD,trivial⟩
noncomputable abbrev Oe:AM.Spec:=mJ aC (fun _ _ _=>True) (fun s st c=>(QK s st c).2) (fun s st c=>q6 (QK s st c).1)
theorem Vo{s:za}{st:Jst}(c:UInt8){Y:Hp}{id Z:Nat}(a:Y id=some (wo s st))(hs:s.length<=1048576)(Y':st.p<=s.length):Oe [.ref id 0 0,dJ c] Y Z=some (q6 (QK s st c).1,zI Y id (some (wo s (QK s st c).2)),Z):=Zx zcU (fun _=>rfl) c a hs Y' trivial
theorem V6:zh prog 271 Oe:=
 yU (code:=_) zcX ⟨func271,by kernel_rfl,rfl,by kernel_rfl⟩ TJ _ fun cs az cs' r h=>by
  obtain⟨s,st,c,rfl,rfl,hs,Y,j,rfl,rfl⟩:=Qf h;refine⟨by simp[aC,f271],?_⟩;clear h;have i:=wN ((st.p:Int)+1);have d:Vm [.ref 0 0 0,int st.p,int 10] (wF TJ (zO s st)) 1=some (.qZ [],zI (wF TJ (zO s st)) 0 (some (wo s (st.fail s.length st.p 10))),1):=vK st.p 10 rfl hs Y (by omega);simp only[wF,qe,zO,ze,zf,zu,Nat.reduceAdd]at d;by_cases a:st.e=0
  ·by_cases b:st.p<s.length
   ·by_cases f:s[st.p]=c
    ·simp[aC,dJ,wF,qe,zO,a,b,f,i,QK,Jst.wA,f271];exact yj rfl rfl
    ·have g:((s[st.p].toNat:Int)==(c.toNat:Int))=false:=by rw[zaT];simpa using f
     rw[a]at d;simp[aC,dJ,wF,qe,zO,a,b,g,f,d,QK,f271];exact yj rfl (by simp;rfl)
   ·rw[a]at d;simp[aC,dJ,wF,qe,zO,a,b,d,QK,f271];exact yj rfl (by simp;rfl)
  ·simp[aC,dJ,wF,qe,zO,a,ZR a,d,QK,f271];exact yj rfl (by simp;rfl)
theorem Kf{s:za}{st:Jst}(c:UInt8)(h:st.p<=s.length):st.p<=(QK s st c).2.p/\(QK s st c).2.p<=s.length:=by
 unfold QK;split
 ·rename_i a;have:=(zd.1 a.2).1;simp only[Jst.wA];omega
 ·simp only[Jst.fail];split<;>exact⟨zk _,h⟩
noncomputable abbrev Cwj:Ctx:=qf prog [(271,Oe)]
theorem zcY:Gd Cwj:=qD mixed ⟨V6,trivial⟩
noncomputable abbrev wdS:AM.Spec:=mJ aS (fun _ _ w=>w.length<=1048576) (fun s st w=>Cf s w st) (fun _ _ _=>.qZ [])
theorem mg{s:za}{st:Jst}(w:za){Y:Hp}{id Z:Nat}(a:Y id=some (wo s st))(hs:s.length<=1048576)(Y':st.p<=s.length)(b:w.length<=1048576):wdS [.ref id 0 0,str w] Y Z=some (.qZ [],zI Y id (some (wo s (Cf s w st))),Z):=Zx D8 (fun _=>rfl) w a hs Y' b
theorem HY:zh prog 255 wdS:=
 yU (code:=_) zcY ⟨func255,by kernel_rfl,rfl,by kernel_rfl⟩ TJ _ fun cs az cs' r h=>by
  obtain⟨s,st,w,rfl,rfl,hs,Y,o,rfl,rfl⟩:=Qf h;refine⟨by simp[aS,f255],?_⟩;clear h;simp[aS];refine qu (fun k σ Y Z=>σ 0=.ref 0 0 0/\σ 1=str w/\σ 6=int w.length/\σ 7=int k/\Z=1/\∃a,Y=wF TJ (zO s a)/\a.p<=s.length/\Cf s (w.drop k) a=Cf s w st) w.length ⟨by simp,by simp,by simp,by simp,rfl,st,rfl,Y,rfl⟩ ?_;rintro k σ Y _ t ⟨f,g,i,j,rfl,a,rfl,Y',b⟩;by_cases d:k<w.length
  ·have q:=q8 k;obtain⟨c,l⟩:=yb (w[k]);have e:Oe [.ref 0 0 0,.v (.int .u8 c.toNat)] (wF TJ (zO s a)) 1=some (q6 (QK s a c).1,zI (wF TJ (zO s a)) 0 (some (wo s (QK s a c).2)),1):=Vo c rfl hs Y';have m:=Kf (s:=s) c Y';rw[zg d,l,Cf]at b;cases n:(QK s a c).1
   ·rw[n]at e b;simp at b;simp[f,g,i,j,d,l,e,f255];rw[b];exact yj rfl (by simp)
   ·rw[n]at e b;simp at b;simp[f,g,i,j,d,l,e,q,f255];exact⟨by omega,_,by simp[wF,yx],m.2,b⟩
  ·obtain rfl:k=w.length:=by omega
   rw[zp]at b;simp[f,g,i,j,d,f255];rw[<-b];exact yj rfl rfl
theorem wu8(n:Nat)(h:n<256):IntKind.u8.wrap (n:Int)=n:=by have a:(n:Int) % 256=n:=Int.emod_eq_of_lt (by omega) (by omega);simp[IntKind.wrap,IntKind.bits,IntKind.signed];omega
theorem YH(c:UInt8):jP c=(decide (48<=c.toNat)&&decide (c.toNat<=57)):=by simp[jP,wH]
theorem Fy(c:UInt8):c.toNat<256:=c.toNat_lt
theorem Zc(N:Nat)(st:Jst)(k:Nat)(x:Int):(st.fail N k x).p=st.p:=by unfold Jst.fail;split<;>rfl
theorem zbb(s:za)(e:Nat):∀(l:za) (n m:Nat) (st:Jst),st.p<=(lP s e l n m st).2.2.p/\(lP s e l n m st).2.2.p<=st.p+l.length/\(lP s e l n m st).1<(n+1)*10 ^ (e-m)\/e<m
 |[],n,m,st=>by
  by_cases f:e<m
  ·exact .inr f
  ·refine .inl ?_;simp only[lP,zf,xU];have j:n+1<=(n+1)*10 ^ (e-m):=Nat.le_mul_of_pos_right _ (Nat.pow_pos (by omega));split<;>(try rw[Zc])<;>exact⟨zk _,zk _,by omega⟩
 |c::l,n,m,st=>by
  by_cases f:e<m
  ·exact .inr f
  ·refine .inl ?_;have j:n+1<=(n+1)*10 ^ (e-m):=Nat.le_mul_of_pos_right _ (Nat.pow_pos (by omega));rw[lP];split
   ·rename_i i;split
    ·rename_i g;refine⟨?_,?_,?_⟩
     ·simp only[Zc];omega
     ·simp only[Zc];omega
     ·simp only;omega
    ·rename_i g;rcases zbb s e l (n*10+(c.toNat-48)) (m+1) st.wA with⟨a,b,d⟩|h
     ·simp only[Jst.wA]at a b d⊢;refine⟨by omega,by simp;omega,wV d ?_⟩;rw[YH]at i;simp at i;have k:e-m=(e-(m+1))+1:=by omega
      rw[k,s8,cA (10 ^ _) 10,<-Nat.mul_assoc];exact qA _ (by omega)
     ·omega
   ·split<;>(try simp only[Zc])<;>refine⟨zk _,by omega,by omega⟩
theorem zbc(s:za)(a:Nat):∀(l:za) (n m:Nat) (st:Jst),m<=a->m<=(lP s a l n m st).2.1/\(lP s a l n m st).2.1<=a
 |[],n,m,st,h=>by simp only[lP];exact⟨zk _,h⟩
 |c::l,n,m,st,h=>by
  rw[lP];split
  ·split
   ·exact⟨zk _,h⟩
   ·have:=zbc s a l (n*10+(c.toNat-48)) (m+1) st.wA (by omega);omega
  ·exact⟨zk _,h⟩
noncomputable abbrev Cdj:Ctx:=qf prog [(254,Vm),(253,Vn)]
theorem zcZ:AM.Good Cdj (fun g=>[253].contains g):=qI mixed ⟨xD,by simp,xE,fun _=>xC _ _,trivial⟩
def aN(n:Nat):zb:=[int n]
theorem zc0(a b:Nat)(h:aN a=aN b):a=b:=by simp only[aN,zi,zF]at h;have:=qE h;omega
noncomputable abbrev dgS:AM.Spec:=mJ aN (fun _ _ n=>n<=12) (fun s st n=>(b4 s n st).2.2) (fun s st n=>.qZ [int (b4 s n st).1,int (b4 s n st).2.1])
theorem A1{s:za}{st:Jst}(n:Nat){Y:Hp}{id Z:Nat}(a:Y id=some (wo s st))(hs:s.length<=1048576)(Y':st.p<=s.length)(b:n<=12):dgS [.ref id 0 0,int n] Y Z=some (.qZ [int (b4 s n st).1,int (b4 s n st).2.1],zI Y id (some (wo s (b4 s n st).2.2)),Z):=Zx zc0 (fun _=>rfl) n a hs Y' b
theorem HZ:zh prog 276 dgS:=
 yU (code:=_) zcZ ⟨func276,by kernel_rfl,rfl,by kernel_rfl⟩ TJ _ fun cs az cs' r h=>by
  obtain⟨s,st,a,rfl,rfl,hs,Y,E,rfl,rfl⟩:=Qf h;refine⟨by simp[aN,f276],?_⟩;clear h;simp[aN];refine qu (fun k σ Y Z=>σ 0=.ref 0 0 0/\σ 1=int a/\Z=1/\∃n q,σ 4=int (n:Nat)/\σ 5=int k/\q=st.p+k/\Y=wF TJ (zO s ⟨q,st.e,st.i⟩)/\q<=s.length/\k<=a/\n<10 ^ k/\lP s a (s.drop q) n k ⟨q,st.e,st.i⟩=b4 s a st) a ⟨by simp,by simp,rfl,0,st.p,by simp,by simp,rfl,rfl,Y,by omega,by simp,rfl⟩ ?_;rintro k σ Y _ T ⟨v,w,rfl,n,q,x,y,U,rfl,z,L,F,G⟩;have H:n<1000000000000:=wV F (zM (mY (by omega) (show k<=12 by omega)) (by decide));have d:Vn [.ref 0 0 0] (wF TJ (zO s ⟨q,st.e,st.i⟩)) 1=some (dJ (jD s ⟨q,st.e,st.i⟩),wF TJ (zO s ⟨q,st.e,st.i⟩),1):=mf rfl hs z;have m:Vm [.ref 0 0 0,int q,int 10] (wF TJ (zO s ⟨q,st.e,st.i⟩)) 1=some (.qZ [],zI (wF TJ (zO s ⟨q,st.e,st.i⟩)) 0 (some (wo s (Jst.fail s.length ⟨q,st.e,st.i⟩ q 10))),1):=vK q 10 rfl hs z (by omega);obtain⟨c,D⟩:=yb (jD s ⟨q,st.e,st.i⟩);rw[D]at d;simp only[wF,qe,zO,dJ,ze,zf,zu,Nat.reduceAdd]at d m;have I:=Fy c;have g:jP c=false->b4 s a st=(n,k,if k=0 then Jst.fail s.length ⟨q,st.e,st.i⟩ q 10 else⟨q,st.e,st.i⟩):=fun hd=>by
   rw[<-G];by_cases f:q<s.length
   ·have o:s[q]=c:=by simpa[jD,f]using D
    rw[zg f,o,lP,hd];simp
   ·rw[List.drop_eq_nil_iff.2 (by omega),lP]
  have j:jP c=true->q<s.length/\b4 s a st=if k=a then(n,k,Jst.fail s.length ⟨q,st.e,st.i⟩ q 10)else lP s a (s.drop (q+1)) (n*10+(c.toNat-48)) (k+1) ⟨q+1,st.e,st.i⟩:=fun hd=>by
   have f:q<s.length:=by
    refine EC fun F=>?_
    have:c=0:=by rw[<-D,jD,qY (by simp;omega)];rfl
    rw[this]at hd;exact absurd hd (by decide)
   have o:s[q]=c:=by simpa[jD,f]using D
   refine⟨f,?_⟩;rw[<-G,zg f,o,lP,hd];simp[Jst.wA]
  rw[YH]at g j;by_cases J:48<=c.toNat
  ·have t:(48:Int)<=c.toNat:=by omega
   by_cases K:c.toNat<=57
   ·have A:(c.toNat:Int)<=57:=by omega
    obtain⟨f,b⟩:=j (by simp[J,K]);by_cases B:k=a
    ·subst B;rw[zl rfl]at b;simp[v,w,x,y,wF,qe,zO,d,m,t,A,b,f276];exact yj rfl rfl
    ·rw[zj B]at b;have C:((k:Int)==(a:Int))=false:=by simp;omega
     have M:=wN ((n:Int)*10);have N:IntKind.u8.wrap ((c.toNat:Int)-48)=((c.toNat-48:Nat):Int):=by rw[show(c.toNat:Int)-48=((c.toNat-48:Nat):Int) by omega];exact wu8 _ (by omega)
     have P:=wN ((c.toNat-48:Nat):Int);have Q:i6.wrap ((n:Int)*10+((c.toNat-48:Nat):Int))=((n*10+(c.toNat-48):Nat):Int):=by rw[wM (by omega) (by omega)];omega
     have R:=q8 k;have S:=q8 q;simp[v,w,x,y,wF,qe,zO,d,m,t,A,C,M,N,P,Q,R,S,f276];refine⟨by omega,n*10+(c.toNat-48),by omega,by rw[show(q:Int)+1=st.p+(k+1) by omega],by omega,by omega,by rw[s8];omega,?_⟩;rw[show st.p+(k+1)=q+1 by omega];exact b.symm
   ·have A:¬(c.toNat:Int)<=57:=by omega
    have b:=g (by simp[K]);by_cases l:k=0
    ·subst l;simp[v,w,x,y,wF,qe,zO,d,m,t,A,b,f276];exact yj rfl rfl
    ·have u:((k:Int)==0)=false:=by simp;omega
     simp[v,w,x,y,wF,qe,zO,d,m,t,A,b,l,u,f276];exact yj rfl rfl
  ·have t:¬(48:Int)<=c.toNat:=by omega
   have b:=g (by simp[J]);by_cases l:k=0
   ·subst l;simp[v,w,x,y,wF,qe,zO,d,m,t,b,f276];exact yj rfl rfl
   ·have u:((k:Int)==0)=false:=by simp;omega
    simp[v,w,x,y,wF,qe,zO,d,m,t,b,l,u,f276];exact yj rfl rfl
theorem Ea{s:za}{st:Jst}(c:Nat)(h:st.p<=s.length):st.p<=(b4 s c st).2.2.p/\(b4 s c st).2.2.p<=s.length/\(b4 s c st).1<10 ^ c/\(b4 s c st).2.1<=c:=by
 have e:=zbc s c (s.drop st.p) 0 0 st (by omega);rcases zbb s c (s.drop st.p) 0 0 st with⟨a,b,d⟩|h1
 ·simp at b d;exact⟨a,by unfold b4;omega,by unfold b4;omega,e.2⟩
 ·omega
noncomputable abbrev Cnj:Ctx:=qf prog [(254,Vm),(253,Vn),(276,dgS)]
theorem zc1:AM.Good Cnj (fun g=>[253].contains g):=qI mixed ⟨xD,by simp,xE,fun _=>xC _ _,HZ,by simp,trivial⟩
noncomputable abbrev nmSj:AM.Spec:=mJ aU (fun _ st _=>st.p+1<=1048576) (fun s st _=>(Xg s st).2) (fun s st _=>.agg (Xg s st).1.V)
theorem Ye{s:za}{st:Jst}{c:UInt8}(h:jD s st=c)(a:c≠0):st.p<s.length:=by
 refine EC fun b=>a ?_
 rw[<-h,jD,qY (by omega)];rfl
theorem Zy{s:za}{st:Jst}{Y:Hp}{Z:Nat}(a:Y 0=some (wo s st))(hs:s.length<=1048576)(Y':st.p<=s.length):Vn [.ref 0 0 0] Y Z=some (.v (.int .u8 (jD s st).toNat),Y,Z):=mf a hs Y'
def Wi:Blk:=⟨112,5,false,[[int 0,int 0,str [],.nil,.nil]]⟩
theorem nf{c:UInt8}(k:UInt8)(h:¬c=k):((c.toNat:Int)==(k.toNat:Int))=false:=by rw[zaT];simpa using h
abbrev uV:O->O:=HX [fun x=>x,fun x=>x,fun x=>x,Rx 5,Rx 6]
theorem Qy:aO uV:=.agg fun u a=>by
 simp only[zx,wu,or_false]at a;rcases a with rfl|rfl|rfl|rfl|rfl
 ·exact .id
 ·exact .id
 ·exact .id
 ·exact .nz 5
 ·exact .nz 6
theorem Fz{s:za}{st:Jst}(h:st.p<=s.length):st.p<=(Vf s st).2.p/\(Vf s st).2.p<=s.length/\(Vf s st).1<1000000000000:=by
 unfold Vf;split
 ·rename_i a;have b:=Ye a (by decide);refine⟨?_,?_,by simp⟩<;>simp only<;>split<;>simp only[Zc,Jst.wA]<;>omega
 ·have:=Ea (s:=s) 12 h;exact⟨this.1,this.2.1,this.2.2.1⟩
theorem pow3{n m:Nat}(h:n<1000)(a:m<=3):n*10 ^ (3-m)<1000000:=by
 have:m=0\/m=1\/m=2\/m=3:=by omega
 rcases this with rfl|rfl|rfl|rfl<;>simp<;>omega
theorem A2{s:za}{st:Jst}(n:Nat)(h:st.p<=s.length):st.p<=(Qx s n st).2.p/\(Qx s n st).2.p<=s.length/\(Qx s n st).1<n+1000000:=by
 unfold Qx;split
 ·rename_i a;have c:=Ye a.2 (by decide);have:=Ea (s:=s) (st:=st.wA) 3 (by simp only[Jst.wA];omega);have b:=pow3 this.2.2.1 this.2.2.2;simp only[Jst.wA]at this b⊢;exact⟨by omega,this.2.1,by omega⟩
 ·exact⟨zk _,h,by simp only;omega⟩
theorem Eb:zh prog 259 nmSj:=
 yU (code:=_) zc1 ⟨func259,by kernel_rfl,rfl,by kernel_rfl⟩ TJ _ fun cs az cs' r h=>by
  obtain⟨s,st,⟨⟩,rfl,rfl,hs,Y,W,rfl,rfl⟩:=Qf h;refine⟨by simp[aU,f259],?_⟩;clear h;refine q9 (fun σ Y Z=>σ 0=.ref 0 0 0/\σ 2=.ref 1 0 0/\Y 0=some (wo s st)/\Y 1=some Wi/\Z=2) (by simp[aU,wF,qe,zO,Wi,zc]) ?_;rintro σ Y1 _ ⟨o,q,d,l,rfl⟩;refine q9 (fun σ' Y Z=>σ' 0=.ref 0 0 0/\σ' 2=.ref 1 0 0/\σ' 3=q6 (decide (jD s st=45))/\Y 0=some (wo s st)/\Y 1=some Wi/\Z=2) ?_ ?_
  ·have g:=Zy (Z:=2) d hs Y;by_cases u:jD s st=45
   ·rw[u]at g;simp[o,q,g,d,l,u]
   ·have this:(((jD s st).toNat:Int)==45)=false:=nf 45 u;simp[o,q,g,d,l,u,this]
  clear o q d l σ Y1;rintro σ Y1 _ ⟨o,q,t,d,l,rfl⟩;obtain⟨i,y⟩:=yb (if jD s st=45 then st.wA else st);have A:i.p<=s.length:=by
   rw[<-y];split
   ·rename_i u;have:=Ye u (by decide);simp only[Jst.wA];omega
   ·exact Y
  refine q9 (fun σ' Y Z=>σ' 0=.ref 0 0 0/\σ' 2=.ref 1 0 0/\σ' 3=q6 (decide (jD s st=45))/\Y 0=some (wo s i)/\Y 1=some Wi/\Z=2) ?_ ?_
  ·simp only[qe,zO,ze,zf,zu,Nat.reduceAdd]at d⊢;by_cases u:jD s st=45
   ·have E:=wN ((st.p:Int)+1);rw[zl u]at y;simp[o,q,t,d,l,u,<-y,E,Jst.wA,zc]
   ·rw[zj u]at y;simp[o,q,t,d,l,u,<-y]
  clear o q t d l σ Y1;rintro σ Y1 _ ⟨o,q,t,d,l,rfl⟩;refine q9 (fun σ' Y Z=>σ' 0=.ref 0 0 0/\σ' 2=.ref 1 0 0/\σ' 3=q6 (decide (jD s st=45))/\σ' 4=int 0/\Y 0=some (wo s i)/\Y 1=some Wi/\Z=2) (by simp[o,q,t,d,l]) ?_;clear o q t d l σ Y1;rintro σ Y1 _ ⟨o,q,t,v,d,l,rfl⟩;obtain⟨a,R⟩:=yb (Vf s i);have J:=Fz (s:=s) A;rw[R]at J;refine q9 (fun σ' Y Z=>σ' 0=.ref 0 0 0/\σ' 2=.ref 1 0 0/\σ' 3=q6 (decide (jD s st=45))/\σ' 4=int a.1/\Y 0=some (wo s a.2)/\Y 1=some Wi/\Z=2) ?_ ?_
  ·have g:=Zy (Z:=2) d hs A;by_cases u:jD s i=48
   ·have hl:=Ye u (by decide);have E:=wN ((i.p:Int)+1);rw[u]at g;obtain⟨c,N⟩:=yb (jD s i.wA);have B:zI Y1 0 (some (wo s i.wA)) 0=some (wo s i.wA):=by simp
    have z:=Zy (Z:=2) B hs (by simp only[Jst.wA];omega);have g3:=vK (Z:=2) i.wA.p 10 B hs (by simp only[Jst.wA];omega) (by simp only[Jst.wA];omega);rw[N]at z;have w:Vf s i=(0,if jP c=true then i.wA.fail s.length i.wA.p 10 else i.wA):=by rw[Vf,zl u,N]
    rw[R,YH]at w;simp only[qe,zO,Jst.wA,ze,zf,zu,Nat.reduceAdd,jo,qO]at d z g3⊢;by_cases X:48<=c.toNat
    ·have S:(48:Int)<=c.toNat:=by omega
     by_cases c2:c.toNat<=57
     ·have d2:(c.toNat:Int)<=57:=by omega
      simp only[X,c2,zgY,gh,qh]at w;simp[o,q,t,v,d,l,g,z,g3,E,S,d2,w,zc,Jst.wA]
     ·have d2:¬(c.toNat:Int)<=57:=by omega
      simp only[X,c2,zgY,zas,Bool.and_false,zv,qz]at w;simp[o,q,t,v,d,l,g,z,E,S,d2,w,zc,Jst.wA]
    ·have S:¬(48:Int)<=c.toNat:=by omega
     simp only[X,zas,kV,zv,qz]at w;simp[o,q,t,v,d,l,g,z,E,S,w,zc,Jst.wA]
   ·have K:(((jD s i).toNat:Int)==48)=false:=nf 48 u;have w:Vf s i=((b4 s 12 i).1,(b4 s 12 i).2.2):=by rw[Vf,zj u]
    have z:=A1 (Z:=2) 12 d hs A (by omega);simp only[qO]at z;rw[R]at w;simp[o,q,t,v,l,g,z,K,w,zc]
  clear o q t v d l σ Y1;rintro σ Y1 _ ⟨o,q,t,v,d,l,rfl⟩;obtain⟨n,f⟩:=a;simp only at J v d;have hw0:i6.wrap ((n:Int)*1000)=((n*1000:Nat):Int):=by rw[wM (by omega) (by omega)];omega
  refine q9 (fun σ' Y Z=>σ' 0=.ref 0 0 0/\σ' 2=.ref 1 0 0/\σ' 3=q6 (decide (jD s st=45))/\σ' 4=int (n*1000:Nat)/\Y 0=some (wo s f)/\Y 1=some Wi/\Z=2) (by simp[o,q,t,v,d,l,hw0]) ?_;clear o q t v d l σ Y1;rintro σ Y1 _ ⟨o,q,t,v,d,l,rfl⟩;have G:=J.2.1;obtain⟨b,C⟩:=yb (Qx s (n*1000) f);have hbl:=A2 (s:=s) (n*1000) G;rw[C]at hbl;refine q9 (fun σ' Y Z=>σ' 0=.ref 0 0 0/\σ' 2=.ref 1 0 0/\σ' 3=q6 (decide (jD s st=45))/\σ' 4=int b.1/\Y 0=some (wo s b.2)/\Y 1=some Wi/\Z=2) ?_ ?_
  ·have g:=Zy (Z:=2) d hs G;by_cases L:f.e=0
   ·by_cases u:jD s f=46
    ·have hl:=Ye u (by decide);have E:=wN ((f.p:Int)+1);rw[u]at g;have x:Qx s (n*1000) f=(n*1000+(b4 s 3 f.wA).1*10 ^ (3-(b4 s 3 f.wA).2.1),(b4 s 3 f.wA).2.2):=by rw[Qx,zl ⟨L,u⟩]
     rw[C]at x;have H:f.wA.p<=s.length:=by simp only[Jst.wA];omega
     have F:=Ea (s:=s) (st:=f.wA) 3 H;obtain⟨m,k,M,hd⟩:∃m k M,b4 s 3 f.wA=(m,k,M):=⟨_,_,_,rfl⟩;rw[hd]at x F;simp only at x F;have hm3:=pow3 F.2.2.1 F.2.2.2;have B:zI Y1 0 (some (wo s f.wA)) 0=some (wo s f.wA):=by simp
     have z:=A1 (Z:=2) 3 B hs H (by omega);rw[hd]at z;simp only[qe,zO,Jst.wA,ze,zf,zu,Nat.reduceAdd,jo,qO]at d z⊢;rw[L]at z;simp[o,q,t,v,d,l,g,z,E,L];refine qu (fun j σ' Y Z=>σ' 0=.ref 0 0 0/\σ' 2=.ref 1 0 0/\σ' 3=q6 (decide (jD s st=45))/\σ' 4=int (n*1000:Nat)/\σ' 6=int (m*10 ^ j:Nat)/\σ' 7=int (k+j:Nat)/\Y 0=some (wo s M)/\Y 1=some Wi/\Z=2) (3-k) ⟨by simp[o],by simp[q],by simp[t],by simp[v],by simp,by simp,by simp[qe,zO],by simp[zc,l],by simp⟩ ?_;clear g z d B l o q t v;rintro j σ Y1 _ hj ⟨o,q,t,v,T,U,d,l,rfl⟩;have hmj:m*10 ^ j<1000000:=Nat.lt_of_le_of_lt (Nat.mul_le_mul_left _ (mY (by omega) hj)) hm3;by_cases hlt:k+j<3
     ·have D:((k+j:Nat):Int)<3:=by omega
      have I:i6.wrap (((m*10 ^ j:Nat):Int)*10)=((m*10 ^ (j+1):Nat):Int):=by rw[wM (by omega) (by omega),s8,<-Nat.mul_assoc];omega
      have w2:i6.wrap (((k+j:Nat):Int)+1)=((k+(j+1):Nat):Int):=by rw[wM (by omega) (by omega)];omega
      obtain⟨x1,P⟩:=yb ((m*10 ^ (j+1):Nat):Int);obtain⟨y1,hy1⟩:=yb ((k+(j+1):Nat):Int);rw[P]at I;rw[hy1]at w2;generalize ((m*10 ^ j:Nat):Int)=x0 at I T;generalize ((k+j:Nat):Int)=y0 at w2 U D;simp[o,q,t,v,T,U,D,I,w2,d,l];exact⟨by omega,by rw[<-P];simp,by omega⟩
     ·obtain rfl:j=3-k:=by omega
      have D:¬((k+(3-k):Nat):Int)<3:=by omega
      have I:i6.wrap (((n*1000:Nat):Int)+((m*10 ^ (3-k):Nat):Int))=((n*1000+m*10 ^ (3-k):Nat):Int):=by rw[wM (by omega) (by omega)];omega
      simp only[x];generalize ((n*1000+m*10 ^ (3-k):Nat):Int)=x2 at I⊢;generalize ((m*10 ^ (3-k):Nat):Int)=x0 at I T;generalize ((n*1000:Nat):Int)=x1 at I v;generalize ((k+(3-k):Nat):Int)=y0 at U D;simp[o,q,t,v,T,U,D,I,d,l];rfl
    ·have K:(((jD s f).toNat:Int)==46)=false:=nf 46 u;have x:Qx s (n*1000) f=(n*1000,f):=by rw[Qx,zj (fun h=>u h.2)]
     rw[C]at x;simp only[qe,zO,ze,zf,zu,Nat.reduceAdd]at d⊢;simp[o,q,t,v,d,l,g,K,L,x]
   ·have x:Qx s (n*1000) f=(n*1000,f):=by rw[Qx,zj (fun h=>L h.1)]
    rw[C]at x;simp only[qe,zO,ze,zf,zu,Nat.reduceAdd]at d⊢;simp[o,q,t,v,d,l,g,L,ZR L,x]
  clear o q t v d l σ Y1;rintro σ Y1 _ ⟨o,q,t,v,d,l,rfl⟩;have Q:Xg s st=(DT (if jD s st=45 then -(b.1:Int)else b.1),b.2):=by simp only[Xg,y,R,C]
  rw[Q];simp only[Wi]at l;by_cases u:jD s st=45
  ·have E:=wN (-(b.1:Int));simp[o,q,t,v,l,u,E,DT,qi,qJ,f259];exact wc rfl (by rw[zc _ _ _ _ (by decide)];exact d) Qy rfl
  ·simp[o,q,t,v,l,u,DT,qi,qJ,f259];exact wc rfl (by rw[zc _ _ _ _ (by decide)];exact d) Qy rfl
noncomputable def FTf (pre:za->Prop) (out:za->O):zb->Option O:=qt (α:=za) (fun s=>[str s]) pre out
theorem mh(pre:za->Prop)(out:za->O)(s:za)(Y:Hp)(Z:Nat)(h:pre s)(c:(out s).flat=true):hP (FTf pre out) [str s] Y Z=some (out s,Y,Z):=
 aK s _ _ rfl (fun a b e=>by simpa using e) h (.inl c)
noncomputable abbrev C00:Ctx:=qf prog []
theorem Ec:Gd C00:=qI mixed trivial
noncomputable abbrev FA:AM.Spec:=hP (FTf (fun s=>qS s=true) fun _=>q6 true)
theorem po:zh prog 81 FA:=
 Z3 Ec func81 false [] fun l f=>by
  refine⟨by simp[f81],_,zs rfl ?_,qP _⟩;simp only[qS,zn,YG]at f;obtain⟨⟨⟨n,o⟩,_⟩,j⟩:=f;have d:(l==[])=false:=by cases l<;>simp_all
  simp;refine qu (fun k σ Y Z=>σ 0=str l/\σ 6=int l.length/\σ 7=int k) l.length ⟨by simp,by simp,by simp⟩ ?_;rintro k σ Y Z p ⟨g,h,i⟩;by_cases a:k<l.length
  ·have m:=q8 k;have e:=zP.1 j l[k] (zo a);obtain⟨c,b⟩:=yb (l[k]);rw[b]at e;simp only[Wn]at e;simp[g,h,i,a,b,e,m];omega
  ·obtain rfl:k=l.length:=by omega
   simp[g,h,i,d,f81]
theorem Jo(s:za)(Y:Hp)(Z:Nat)(h:qS s=true):FA [str s] Y Z=some (q6 true,Y,Z):=mh _ _ s Y Z h rfl
noncomputable abbrev bytS:AM.Spec:=hP (FTf (fun s=>Qw s=true) fun _=>q6 true)
theorem ay{s:za}(h:Qw s=true):wC 33 126 s=true/\1<=s.length/\s.length<=40:=by simp only[Qw,K1,zn,YG]at h;obtain⟨⟨a,b⟩,c,_⟩:=h;exact⟨c,by omega,by omega⟩
theorem H2:zh prog 85 bytS:=
 Z3 Ec func85 false [] fun l g=>by
  refine⟨by simp[f85],_,zs rfl ?_,qP _⟩;obtain⟨h,m,n⟩:=ay g;have b:(l==[])=false:=by cases l<;>simp_all
  simp;refine qu (fun k σ Y Z=>σ 0=str l/\σ 5=int l.length/\σ 6=int k) l.length ⟨by simp,by simp,by simp⟩ ?_;rintro k σ Y Z o ⟨c,d,e⟩;by_cases a:k<l.length
  ·have i:=q8 k;have j:=zP.1 h l[k] (zo a);have f:=ik 33 126 l[k];simp only[qO]at f;simp[c,d,e,a,j,f,i];omega
  ·obtain rfl:k=l.length:=by omega
   simp[c,d,e,b,f85]
theorem mi(s:za)(Y:Hp)(Z:Nat)(h:Qw s=true):bytS [str s] Y Z=some (q6 true,Y,Z):=mh _ _ s Y Z h rfl
def NumW(s:za):Prop:=∃n,kL n/\s=wi n
theorem FB:∀(l:za) (n m:Nat),(∀c∈l,jP c=true)->n<10 ^ m->l.foldl Xh n<10 ^ (m+l.length)
 |[],n,m,_,h=>by simpa using h
 |c::l,n,m,hd,h=>by
  have a:=hd c (by simp);have b:c.toNat-48<10:=by simp only[jP,zn,z6,wH]at a;have:(57:UInt8).toNat=57:=rfl;omega
  have d:=FB l (Xh n c) (m+1) (fun x e=>hd x (by simp[e])) (by rw[s8];unfold Xh;omega);rw[List.foldl_cons,ze,show m+(l.length+1)=m+1+l.length by omega];exact d
theorem Ed{n:Int}(h:kL n):∃c l,wi n=c::l/\(0<l.length->c≠48):=by
 unfold wi;by_cases a:n.toNat=0
 ·rw[a,Go.PrLaw.dec_lt (by decide)];exact⟨_,_,rfl,fun h=>by simp at h⟩
 ·obtain⟨c,l,e,b,_⟩:=lR _ n.toNat (PO _) (by omega);exact⟨c,l,e,fun _=>b⟩
noncomputable abbrev H3:AM.Spec:=hP (FTf NumW fun s=>.qZ [int (HS s),q6 true])
theorem dK:zh prog 86 H3:=
 Z3 Ec func86 false [] fun l ⟨n,w,h9⟩=>by
  subst h9;refine⟨by simp[f86],_,zs rfl ?_,qP _⟩;obtain⟨c,t,d,C⟩:=Ed w;have f:=kS w;have a:=fun c=>AF (n:=n) c
  obtain⟨l,D⟩:=yb (wi n);rw[D]at d f a⊢;have q:(l==[])=false:=by rw[d];rfl
  have r:¬(10:Int)<l.length:=by omega
  have g:0<l.length:=by rw[d];simp
  have h:l[0]=c:=by simp[d]
  have i:(decide ((1:Int)<l.length)&&((c.toNat:Int)==48))=false:=by
   cases hd:decide ((1:Int)<l.length)
   ·rfl
   ·rw[z6]at hd;have:=C (by rw[d]at hd;simp at hd;omega);have s:¬(c.toNat:Int)=48:=fun e=>this (yg.1 (by show c.toNat=48;omega))
    simpa using s
  simp[q,r,g,h,i];refine qu (fun k σ Y Z=>σ 0=str l/\σ 24=int l.length/\σ 25=int k/\σ 4=int ((l.take k).foldl Xh 0:Nat)) l.length ⟨by simp,by simp,by simp,by simp⟩ ?_;rintro k σ Y Z P ⟨z,j,m,p⟩;by_cases b:k<l.length
  ·have E:=q8 k;obtain⟨x,u⟩:=yb (l[k]);have hd:=a x (by rw[<-u];exact zo b);simp only[jP,zn,z6,wH]at hd;have F:(48:UInt8).toNat=48:=rfl;have G:(57:UInt8).toNat=57:=rfl;have H:¬(x.toNat:Int)<48:=by omega
   have I:¬(57:Int)<x.toNat:=by omega
   have o:=FB (l.take k) 0 0 (fun y J=>a y (zgX J)) (by simp);have A:(10:Nat) ^ (0+(l.take k).length)<=10 ^ 10:=mY (by omega) (by rw[fE];omega);obtain⟨v,B⟩:=yb ((l.take k).foldl Xh 0);rw[B]at p o;have K:=wN ((v:Int)*10);have L:IntKind.u8.wrap ((x.toNat:Int)-48)=((x.toNat-48:Nat):Int):=by rw[show(x.toNat:Int)-48=((x.toNat-48:Nat):Int) by omega];exact wu8 _ (by omega)
   have M:=wN ((x.toNat-48:Nat):Int);have N:i6.wrap ((v:Int)*10+((x.toNat-48:Nat):Int))=((v*10+(x.toNat-48):Nat):Int):=by rw[wM (by omega) (by omega)];omega
   simp[z,j,m,p,b,u,H,I,K,L,M,N,E];refine⟨by omega,?_⟩;rw[qb b,List.foldl_append,B,u];rfl
  ·obtain rfl:k=l.length:=by omega
   rw[wq]at p;simp[z,j,m,p,HS,jB,AM.freeze,zz,z7,qn,f86]
theorem Vp(n:Int)(Y:Hp)(Z:Nat)(h:kL n):H3 [str (wi n)] Y Z=some (.qZ [int n,q6 true],Y,Z):=by rw[H3,mh NumW _ _ Y Z ⟨n,h,rfl⟩ rfl,Vi h.1]
theorem Of{n:Int}{c:UInt8}(h:jP c=false):c ∉ wi n:=fun a=>by rw[AF c a]at h;cases h
theorem Og{c:UInt8}{a b:za}(h:c ∉ a):Lib.cut (a++c::b) [c]=(a,b,true):=by have d:=Vg c a b h;unfold Lib.cut;rw[d,zl (by omega)];simp
def TwoW(a:za×za):Prop:=∃x y c,kL x/\kL y/\jP c=false/\a=(wi x++c::wi y,[c])
def Oh(a:za×za):O:=.qZ [int (HS (Lib.cut a.1 a.2).1),int (HS (Lib.cut a.1 a.2).2.1),q6 true]
noncomputable def H4:zb->Option O:=qt (α:=za×za) (fun a=>[str a.1,str a.2]) TwoW Oh
noncomputable abbrev Ctwo:Ctx:=qf prog [(86,H3),(150,hP (WY nq fun _ _=>True))]
theorem Oi:Gd Ctwo:=qD mixed ⟨dK,iq,trivial⟩
theorem mj:zh prog 119 (hP H4):=
 Z3 Oi func119 false [] fun _ ⟨x,y,c,e,f,i,h9⟩=>by
  subst h9;refine⟨by simp[f119],_,zs rfl ?_,qP _⟩;have g:zD=268435456:=rfl;have l:=kS e;have l2:=kS f;have a:=Og (b:=wi y) (Of (n:=x) i);have d:=fun Y Z=>im (wi x++c::wi y) [c] Y Z (by rw[zt,ze];omega) (by simp;omega)
  rw[a]at d;have n1:=fun Y Z=>Vp x Y Z e
  have j:=fun Y Z=>Vp y Y Z f
  obtain⟨X,h⟩:=yb (wi x++c::wi y);have k:Oh (X,[c])=.qZ [int x,int y,q6 true]:=by unfold Oh;rw[<-h,a,Vi e.1,Vi f.1]
  rw[h]at d⊢;simp[d,n1,j,k,jB,AM.freeze,zz,z7,qn,f119]
theorem pq(x y:Int)(c:UInt8)(Y:Hp)(Z:Nat)(d:kL x)(f:kL y)(g:jP c=false):hP H4 [str (wi x++c::wi y),str [c]] Y Z=some (.qZ [int x,int y,q6 true],Y,Z):=by
 have a:=Og (b:=wi y) (Of (n:=x) g);have e:Oh (wi x++c::wi y,[c])=.qZ [int x,int y,q6 true]:=by unfold Oh;rw[a,Vi d.1,Vi f.1]
 rw[<-e];exact aK (wi x++c::wi y,[c]) _ _ rfl rI ⟨x,y,c,d,f,g,rfl⟩ (.inl rfl)
end Go.Q
namespace Go.AM
variable{dr:Prop}
def eM(Y:Hp):List zb->Option (List zb×Hp)
 |[]=>some ([],Y)
 |c::l=>(qm Y c).bind fun p=>(eM p.2 l).map fun q=>(p.1::q.1,q.2)
theorem Wj:∀{xs ys:zb} {Y Y1:Hp},qm Y xs=some (ys,Y1)->ys.length=xs.length
 |[],ys,Y,Y1,h=>by
  simp only[qm]at h;injection h with h
  injection h with a _;subst a;rfl
 |x::l,ys,Y,Y1,h=>by
  simp only[qm]at h;split at h
  ·split at h
   ·rename_i r c b;injection h with h
    injection h with a _;subst a;simp[Wj b]
   ·cases h
  ·cases h
section
variable{P:Program}{w:World}{G:Nat->GI}{Z:Nat}
theorem Vq:∀{rows d:List zb} {Y Y1:Hp} {S:Nat->Prop} (us:Nat->Nat->Value) (_:Inv P w S G Y Z),eM Y rows=some (d,Y1) ->
  (∀(i j:Nat) (c:zb) (e:O),rows[i]?=some c->c[j]?=some e->qg w S G Z e (us i j)) ->
  ∃S',kd dr P Y Z S G w Y1 Z S' G w/\d.length=rows.length/\(∀(i j:Nat) (c:zb) (e:O),d[i]?=some c->c[j]?=some e->wG w S' e (us i j)) /\
   ∀(i:Nat) (c f:zb),rows[i]?=some c->d[i]?=some f->f.length=c.length
 |[],d,Y,Y1,S,us,g,h,n=>by
  simp only[eM]at h;injection h with h
  injection h with r s;subst r;subst s;exact⟨S,.refl g,rfl,fun i j c e h=>by simp at h,fun i c f h=>by simp at h⟩
 |c::l,d,Y,Y1,S,us,g,h,n=>by
  simp only[eM]at h;obtain⟨⟨ys,r⟩,o,h⟩:=zL.1 h;obtain⟨⟨l',s⟩,v,h⟩:=zJ h;injection h with x p
  subst x;subst p;have y:Zip (qg w S G Z) c ((List.range c.length).map (us 0)):=⟨by simp,fun j e u a b=>by have k:=(zd.1 a).1;simp[k]at b;subst b;exact n 0 j c e rfl a⟩
  obtain⟨E,m,z,_,_⟩:=ZY (dr:=dr) g o y;have A:=m.same g;obtain⟨B,t,p,C,D⟩:=Vq (fun i j=>us (i+1) j) m.inv v (fun i j f e a b=>(n (i+1) j f e (by simpa using a) b).mono A (zk _) (fun _ _=>rfl));refine⟨B,m.trans t,by simp[p],fun i j f e a b=>?_,fun i f q a b=>?_⟩
  ·cases i with
   |zero=>simp at a;subst a;have k:=(zd.1 b).1;rw[Wj o]at k;exact(z.2 j e (us 0 j) b (by simp[k])).mono (t.same m.inv)
   |succ i=>exact C i j f e (by simpa using a) b
  ·cases i with
   |zero=>simp at a b;subst a;subst b;exact Wj o
   |succ i=>exact D i f q (by simpa using a) (by simpa using b)
def Vr(Y:Hp):O->Option (O×Hp)
 | .own id 0 n=>match Y id with
  |some b=>if b.arr=true then qn Y (.own id 0 n)else if n=b.es.length then(eM (zI Y id none) b.es).map fun p=>(.sl b.s p.1,p.2)else none
  |none=>none
 |x=>qn Y x
theorem FD{S:Nat->Prop}{Y:Hp}(f:Inv P w S G Y Z){id:Nat}{b:Blk}(h:Y id=some b)(k:0<(G id).s) :
  ∃(cur:Array Value) (us:Nat->Nat->Value),w.heap[(G id).g]?=some (.cells cur b.e (0,0))/\cur.size=(G id).z/\∀(i j:Nat) (c:zb) (d:O),b.es[i]?=some c->c[j]?=some d->cur[i*(G id).s+j]?=some (us i j)/\kF w S G Z b.arr d (us i j):=by
 obtain⟨cur,l,m,n⟩:=(f.live id b h).row k;refine⟨cur,fun i j=>(cur[i*(G id).s+j]?).getD undef,l,m,fun i j c d a b=>?_⟩;obtain⟨u,o,p⟩:=n i j c d a b;simp only[o,vx];exact⟨trivial,p⟩
theorem ml{S:Nat->Prop}{Y:Hp}(e:Inv P w S G Y Z){x y:O}{Y1:Hp}{u:Value}(h:Vr Y x=some (y,Y1))(p:qg w S G Z x u) :
  ∃S',kd dr P Y Z S G w Y1 Z S' G w/\wG w S' y u:=by
 unfold Vr at h;split at h
 ·rename_i id n;split at h
  case h_2=>cases h
  rename_i b q;split at h
  ·obtain⟨S',k,c,_⟩:=xK (dr:=dr) e h p;exact⟨S',k,c⟩
  split at h
  case isFalse=>cases h
  rename_i I;obtain⟨⟨rows,h2⟩,J,h⟩:=zJ h;injection h with K L
  subst K;subst L;have B:=p.xl;obtain⟨cap,a1,a2,M,a4,rfl⟩:=p.vO;obtain⟨cur,us,N,r2,C⟩:=FD e q B;have r:=kd.kill (dr:=dr) e q;have Q:=r.same e;obtain⟨D,E,l2,R,T⟩:=Vq (dr:=dr) us r.inv J (fun i j c F a b=>(C i j c F a b).2.2.1.mono Q (zk _) (fun _ _=>rfl));have f:=(e.live id b q).len B;have d:∀(i:Nat) (t:zb),rows[i]?=some t->∃c,b.es[i]?=some c/\t.length=c.length:=fun i t l=>by have U:=(zd.1 l).1;refine⟨b.es[i]'(by omega),zm (by omega),T i _ _ (zm (by omega)) l⟩
  refine⟨D,r.trans E,?_⟩;rw[(e.live id b q).bs];have v:wG w D (.sl (G id).s rows) (.slice (some ⟨(G id).g,0*(G id).s,none⟩) rows.length cap):=by
   refine wG.sl (s:=(G id).s) us (by simp) (by omega) M (fun c W=>?_) (fun i j c F a X=>?_) R
   ·obtain⟨i,z⟩:=Qk W;obtain⟨m,A,H⟩:=d i c z;rw[H];exact f m (zE A)
   ·obtain⟨m,A,H⟩:=d i c a;have hj:j<m.length:=by have:=(zd.1 X).1;omega
    obtain⟨h4,h5⟩:=C i j m m[j] A (zm hj);refine⟨_,rfl,E.kO _ (.inr rfl),?_,h5.2.2⟩;have o:(⟨(G id).g,0*(G id).s,none⟩:Addr).add (i*(G id).s+j)=⟨(G id).g,i*(G id).s+j,none⟩:=by unfold Addr.add;split<;>simp<;>omega
    rw[o,cell_of_row w _ _ cur _ _ N];exact h4
  rwa [l2,<-I]at v
 ·obtain⟨S',k,c,_⟩:=xK (dr:=dr) e h p;exact⟨S',k,c⟩
end
theorem kd.zg9{P:Program}{w:World}{G:Nat->GI}{Z:Nat}{S:Nat->Prop}{Y:Hp}(a:Inv P w S G Y Z){id:Nat}{b f:Blk}(d:Y id=some b)(g:kb P w S G Z (G id) f):kd dr P Y Z S G w (zI Y id (some f)) Z S G w:=
 (kd.refl a).na d (a.top id b d) g (a.apart id b d) fun k c h e i=>e (a.inj k id c b h d i)
def Kg(Y:Hp):O->Hp
 | .own id 0 _=>match Y id with
  |some b=>zI Y id (some ⟨b.e,b.s,false,b.es⟩)
  |none=>Y
 |_=>Y
def Vs(Y:Hp):O->Option Hp
 | .own id 0 n=>match Y id with
  |some b=>if b.arr=true then some Y else if n=b.es.length/\0<b.s then(eM Y b.es).bind fun p=>(p.2 id).map fun _=>zI p.2 id (some ⟨b.e,b.s,true,p.1⟩)else none
  |none=>none
 |_=>some Y
section
variable{P:Program}{w:World}{G:Nat->GI}{Z:Nat}
theorem mm{S:Nat->Prop}{Y Y1:Hp}(f:Inv P w S G Y Z){x:O}(h:Vs Y x=some Y1):∃S',kd dr P Y Z S G w Y1 Z S' G w:=by
 unfold Vs at h;split at h
 ·rename_i id n;split at h
  case h_2=>cases h
  rename_i b q;split at h
  ·injection h with h;subst h;exact⟨S,.refl f⟩
  split at h
  case isFalse=>cases h
  rename_i F;obtain⟨⟨rows,X⟩,H,h⟩:=zL.1 h;obtain⟨B,g,h⟩:=zJ h;subst h;have l:=f.live id b q;have m:0<(G id).s:=by rw[<-l.bs];exact F.2
  obtain⟨cur,us,I,J,C⟩:=FD f q m;obtain⟨K,t,l2,D,L⟩:=Vq (dr:=dr) us f H (fun i j c r a b=>(C i j c r a b).2.2.1);refine⟨K,t.na q (f.top id b q) ?_ (t.inv.apart id B g) fun k c M u N=>u (t.inv.inj k id c B M g N)⟩;have d:∀(i:Nat) (v:zb),rows[i]?=some v->∃c,b.es[i]?=some c/\v.length=c.length:=fun i v o=>by have Q:=(zd.1 o).1;refine⟨b.es[i]'(by omega),zm (by omega),L i _ _ (zm (by omega)) o⟩
  refine⟨l.bs,fun m=>⟨l.size m,fun c R=>?_,by rw[l2];exact l.fit m,cur,I,J,fun i j c r a y=>?_⟩,fun e=>by omega⟩
  ·obtain⟨i,z⟩:=Qk R;obtain⟨p,A,E⟩:=d i c z;rw[E];exact l.len m p (zE A)
  ·obtain⟨p,A,E⟩:=d i c a;have T:j<p.length:=by have:=(zd.1 y).1;omega
   obtain⟨U,W⟩:=C i j p p[j] A (zm T);exact⟨us i j,U,fun _=>D i j c r a y,.c (D i j c r a y),W.2.2⟩
 ·injection h with h;subst h;exact⟨S,.refl f⟩
end
variable{dr:Prop}{C:Ctx}{N:Nat}{pf:FuncId->Bool}
def Kp(a:Array Oper)(b:Array Bool):Prop:=∀(i:Nat) (o:Oper),b[i]?=some true->a[i]?=some o->∀e∈o.after,Region.binds .any e=true->b[e.on]?=some true
def Oj(a:Array Oper):Bool:=(List.range a.size).all fun i=>match a[i]? with
 |some o=>o.after.all fun e=>decide (e.on<i)
 |none=>true
structure Des (d:Nat->Nat) (v:Nat->O) (n:Nat) (σ0:Nat->O) (ls:Array Bool) (σ:Nat->O):Prop where
 done:∀j,j<n->ls[j]?=some true->σ (d j)=v j
 rest:∀t,(∀j,j<n->d j≠t)->σ t=σ0 t
theorem FE{b:Array Bool}{i j:Nat}(h:(b.setIfInBounds i true)[j]?=some true):j=i\/b[j]?=some true:=by
 by_cases a:i=j
 ·exact .inl a.symm
 ·rw[yi a]at h;exact .inr h
theorem sH{b:Array Bool}{i j:Nat}(h:b[j]?=some true):(b.setIfInBounds i true)[j]?=some true:=by
 by_cases a:i=j
 ·subst a;have c:=(zU.1 h).1;rw[Y3 c]
 ·rw[yi a];exact h
theorem Des.put{d:Nat->Nat}{v:Nat->O}{n:Nat}{b σ:Nat->O}{f:Array Bool}(h:Des d v n b f σ)(hd:∀i j,i<n->j<n->d i=d j->i=j){i:Nat}(g:i<n):Des d v n b (f.setIfInBounds i true) (zI σ (d i) (v i)):=by
 refine⟨fun j k m=>?_,fun t l=>?_⟩
 ·by_cases a:j=i
  ·subst a;simp[zI]
  ·have c:d j≠d i:=fun e=>a (hd j i k g e)
   rw[zc _ _ _ _ c];exact h.done j k ((FE m).resolve_left a)
 ·rw[zc _ _ _ _ (fun e=>l i g e.symm)];exact h.rest t l
theorem Kp.put{c:Array Oper}{d:Array Bool}(h:Kp c d){i:Nat}(n:i∈Region.ready .any c d):Kp c (d.setIfInBounds i true):=by
 intro j o f g e k l;rcases FE f with rfl|f
 ·obtain⟨_,o',a,p⟩:=mem_ready.1 n;rw[g]at a;injection a with a;subst a;have:=p e k l;refine sH ?_;rw[wU]at this;cases m:d[e.on]? with
  |none=>rw[m]at this;cases this
  |some b=>rw[m]at this;rw[show b=true from this]
 ·exact sH (h j o f g e k l)
theorem H5{a:Array Oper}(k:Oj a=true){ls:Array Bool}(hs:ls.size=a.size)(h:Region.ready .any a ls=[]):∀i,i<a.size->ls[i]?=some true:=by
 intro i
 induction i using Nat.strongRecOn with
 |_ i l=>
  intro d;cases f:ls[i]? with
  |none=>rw[Array.getElem?_eq_none_iff]at f;omega
  |some b=>
   cases b with
   |true=>rfl
   |false=>
    have g:a[i]?=some a[i]:=jf d;have c:i∈Region.ready .any a ls:=mem_ready.2 ⟨by rw[wU,f];rfl,a[i],g,fun e m _=>by
     have j:=zP.1 k i (yK.2 d);rw[g]at j;have n:=Array.all_eq_true_iff_forall_mem.1 j e m;have o:e.on<i:=by simpa using n
     rw[wU,l e.on o (by omega)];rfl⟩
    rw[h]at c;cases c
theorem Wp.zaE(J:kl dr C pf)(L:C.P.follows .mixedOrders=true){id n:Nat}{b:Array Oper}{st:St}{K:Exit->St->Prop}(Q:b.size=n+1)(R:Oj b=true)(d:Nat->Nat)(v:Nat->O)(hd:∀i j,i<n->j<n->d i=d j->i=j)(S:∀i,i<n->d i<N)(t:∀i,i<n->∃o,b[i]?=some o/\o.dst=some (d i))
  (M:Array Bool->Hp->Nat->Prop) (T:M (Array.replicate b.size false) st.Y st.Z)
  (g:∀(c:Array Bool) (σ:Nat->O) (Y:Hp) (Z i:Nat),i<n->Kp b c->c[n]?=some false->i∈Region.ready .any b c->Des d v n st.σ c σ->M c Y Z->∃o Y' Z',b[i]?=some o/\yQ C b o ⟨σ,Y,Z⟩=some ⟨zI σ (d i) (v i),Y',Z'⟩/\M (c.setIfInBounds i true) Y' Z')
  (h:∀(c:Array Bool) (σ:Nat->O) (Y:Hp) (Z:Nat),Kp b c->n∈Region.ready .any b c->Des d v n st.σ c σ->M c Y Z->(∀i,i<n->c[i]?=some true)/\∀l,(∀a,K .normal a->kJ dr C N b l a (vy K))->kJ dr C N b (n::l) ⟨σ,Y,Z⟩ (vy K)) :
  Wp dr C N (.region id b true) st K:=by
 refine Wp.zau L (fun c a=>((∀j,j<n+1->c[j]?=some true)/\K .normal a)\/(c[n]?=some false/\Kp b c/\Des d v n st.σ c a.σ/\M c a.Y a.Z)) (.inr ⟨by rw[Q];simp,fun i o m=>by simp[Qs]at m,⟨fun j _ F=>by simp[Qs]at F,fun _ _=>rfl⟩,T⟩) ?_ ?_
 ·intro c a i hs u m l G;have k:=bh m;have w:i<n+1:=by have:=(zU.1 k).1;omega
  rcases u with⟨p,H⟩|⟨p,y,z,q⟩
  ·rw[p i w]at k;cases k
  ·by_cases r:i=n
   ·subst r;obtain⟨U,W⟩:=h c a.σ a.Y a.Z y m z q;exact W l fun A X=>G A (.inl ⟨fun j F=>by
     by_cases B:j=i
     ·subst B;rw[Y3 (by omega)]
     ·exact sH (U j (by omega)),X⟩)
   ·have e:i<n:=by omega
    obtain⟨o,Y',Z',I,he,D⟩:=g c a.σ a.Y a.Z i e y p m z q;obtain⟨o2,f,E⟩:=t i e;rw[I]at f;injection f with f;subst f;refine kJ.cons J I (fun x s=>by rw[E]at s;injection s with s;subst s;exact S i e) he (G _ (.inr ⟨?_,y.put m,z.put hd e,D⟩));rw[yi r];exact p
 ·intro c a hs u hr;rcases u with⟨_,H⟩|⟨p,_⟩
  ·exact H
  ·have:=H5 R hs hr n (by omega);rw[p]at this;cases this
variable{dr:Prop}{C:Ctx}{N:Nat}{pf:FuncId->Bool}
def ZL(dr:Prop)(P:Program)(f:FuncId)(args:zb)(Y:Hp)(Z:Nat)(R:O->Hp->Nat->Prop):Prop:=
 ∀(w:World) (S:Nat->Prop) (G:Nat->GI) (us:List Value),Inv P w S G Y Z->Zip (qg w S G Z) args us->Calls P f us.toArray w fun e a=>∃x Y' Z' v S' G',R x Y' Z'/\e=.returned v/\kd dr P Y Z S G w Y' Z' S' G' a/\qg a S' G' Z' x v
theorem Ol{c:Array Oper}{d:Array Bool}{i:Nat}{o:Oper}(h:i∈Region.ready .any c d)(g:c[i]?=some o)(e:Edge)(j:e∈o.after)(k:Region.binds .any e=true):d[e.on]?=some true:=by
 obtain⟨_,o',a,l⟩:=mem_ready.1 h;rw[g]at a;injection a with a;subst a;have:=l e j k;rw[wU]at this;cases f:d[e.on]? with
 |none=>rw[f]at this;cases this
 |some b=>rw[f]at this;rw[show b=true from this]
def Om(a:Array Oper):Bool:=(List.range (a.size-1)).all fun i=>(List.range a.size).any fun k=>decide (i<k)&&match a[k]? with
 |some o=>o.after.any fun e=>e.on==i&&Region.binds .any e
 |none=>false
theorem On{a:Array Oper}{g:Array Bool}{n:Nat}(y:a.size=n+1)(c:Om a=true)(r:Kp a g)(s:n∈Region.ready .any a g):∀i,i<n->g[i]?=some true:=by
 have j:∀d i,n-i=d->i<n->g[i]?=some true:=by
  intro d
  induction d using Nat.strongRecOn with
  |_ d t=>
   intro i hd m;have u:=zP.1 c i (yK.2 (by omega));obtain⟨k,v,b⟩:=List.any_eq_true.1 u;simp only[zn,z6]at b;obtain⟨w,b⟩:=b;have x:=yK.1 v;cases h:a[k]? with
   |none=>rw[h]at b;cases b
   |some o=>
    rw[h]at b;obtain⟨e,p,f⟩:=Array.any_eq_true'.1 b;simp only[zn,w7]at f;obtain⟨f,q⟩:=f;by_cases l:k=n
    ·subst l;rw[<-f];exact Ol s h e p q
    ·rw[<-f];exact r k o (t (n-k) (by omega) k rfl (by omega)) h e p q
 exact fun i m=>j _ i rfl m
section
variable{f:FuncId}{fn:Func}{code:Code}
theorem QT(i:XP C pf f fn code)(j:Bool)(T:List Nat)(F:zb->Option O)(U:∀args r,F args=some r->args.length<=fn.ntmps/\Wp dr C fn.ntmps code ⟨kM args,fun _=>none,0⟩ (Xb C.P fn (zaX r))):jl dr C.P f (yS j T F):=by
 refine⟨⟨fn,i.func,i.name,by rw[i.body];rfl⟩,?_⟩;intro args Y Z r Y' Z' h w S G vs L W;unfold yS at h;split at h
 ·rename_i X Y1 s;split at h
  ·rename_i r0 t;obtain⟨hn,hW⟩:=U _ r0 t;obtain⟨S1,q,u,y⟩:=yW (dr:=dr) L s W;refine(Yv i.func i.body hW (Y7 (fun _=>⟨0,0,0⟩) q.inv.st q.inv.aH) (Z2 u).closed hn).mono fun e M hh=>?_
   obtain⟨x,hpe,nxe,v,S',G',⟨r1,l,z⟩,N,k,hx⟩:=hh;have Q:Fr dr w (fun _=>False) M:=⟨k.fr.os,k.fr.tape,k.fr.output,k.fr.size,k.fr.drawn,fun b d _=>k.fr.block b d vI⟩;obtain⟨⟨r2,hpf⟩,A,m⟩:=zJ l;simp only at m;subst m;obtain⟨S2,R,B⟩:=vH (dr:=dr) k.inv A hx;have D:=z _ _ _ B;have n:∀b,S2 b->S1 b\/(w.heap.size<=b/\b<M.heap.size):=by
    intro b d;have o:=R.inv.st b d;rcases R.from_ b d with h1|⟨id,blk,h1,rfl⟩|h1
    ·rcases k.from_ b h1 with a|a|a
     ·exact .inl a
     ·exact(vI a).elim
     ·exact .inr ⟨a,o⟩
    ·rcases k.own id blk h1 with a|a
     ·exact(vI a).elim
     ·exact .inr ⟨a,o⟩
    ·exact absurd h1 (by omega)
   split at h
   ·rename_i g;injection h with h
    injection h with E h;injection h with H I;subst E;subst H;subst I;refine⟨v,_,G,N,kd.outer L Q,.c ?_⟩;rcases g with J|K
    ·exact bd D J
    ·have p:=y K;exact D.mono fun b d=>⟨by rw[<-p];exact n b d,rfl⟩
   ·split at h
    ·injection h with h;injection h with E h;injection h with H I;subst E;subst H;subst I;exact⟨v,_,G,N,q.trans (kd.outer q.inv Q),.c (D.mono fun b d=>⟨n b d,rfl⟩)⟩
    ·cases h
  ·cases h
 ·cases h
end
variable{dr:Prop}{C:Ctx}{N:Nat}
theorem Wp.ghost{c:Code}{st:St}{Y1:Hp}{K:Exit->St->Prop}(e:∀(w:World) (S:Nat->Prop) (G:Nat->GI),Inv C.P w S G st.Y st.Z->∃S',kd dr C.P st.Y st.Z S G w Y1 st.Z S' G w)(h:Wp dr C N c ⟨st.σ,Y1,st.Z⟩ K):Wp dr C N c st K:=by intro f g L i j n0 a w Q l ⟨S,G,b⟩ m;obtain⟨S',k⟩:=e w S G b.inv;exact h f g L i j n0 a w Q l ⟨S',G,b.step (dst:=none) (u:=.bool true) k (x:=.v (.bool true)) (.c (.v rfl)) (fun d hd=>by cases hd)⟩ m
theorem Wp.shut{c:Code}{σ:Nat->O}{Y Y1:Hp}{Z:Nat}{K:Exit->St->Prop}{x:O}(a:Vs Y x=some Y1)(h:Wp dr C N c ⟨σ,Y1,Z⟩ K):Wp dr C N c ⟨σ,Y,Z⟩ K:=
 Wp.ghost (fun _ _ _ b=>mm b a) h
theorem nQ{P:Program}{w:World}{S:Nat->Prop}{G:Nat->GI}{Y:Hp}{Z:Nat}(f:Inv P w S G Y Z)(x:O):kd dr P Y Z S G w (Kg Y x) Z S G w:=by
 unfold Kg;split
 ·rename_i id n;split
  ·rename_i b g;have d:=f.live id b g;refine kd.zg9 f g ⟨d.bs,fun e=>⟨d.size e,d.len e,d.fit e,?_⟩,fun e=>⟨(d.I4 e).row,(d.I4 e).PR⟩⟩;obtain⟨cur,k,l,m⟩:=d.row e;refine⟨cur,k,l,fun i j c o a p=>?_⟩;obtain⟨u,q,r⟩:=m i j c o a p;exact⟨u,q,fun h=>by simp at h,r.2⟩
  ·exact .refl f
 ·exact .refl f
theorem Wp.opened{c:Code}{σ:Nat->O}{Y:Hp}{Z:Nat}{K:Exit->St->Prop}(x:O)(h:Wp dr C N c ⟨σ,Kg Y x,Z⟩ K):Wp dr C N c ⟨σ,Y,Z⟩ K:=
 Wp.ghost (fun _ S _ a=>⟨S,nQ a x⟩) h
def aA(Y:Hp)(id i j:Nat)(u:O->O):Option Hp:=(Y id).bind fun b=>if b.arr=false/\0<b.s then(b.es[i]?).bind fun cs=>(cs[j]?).bind fun x=>(Vr Y x).bind fun p=>if(p.2 id).isSome=true then some (zI p.2 id (some ⟨b.e,b.s,false,b.es.set i (cs.set j (u p.1))⟩))else none else none
theorem sI{P:Program}{w:World}{S:Nat->Prop}{G:Nat->GI}{Y Y1:Hp}{Z id i j:Nat}{u:O->O}(K:aO u)(r:Inv P w S G Y Z)(h:aA Y id i j u=some Y1):∃S',kd dr P Y Z S G w Y1 Z S' G w:=by
 unfold aA at h;obtain⟨b,t,h⟩:=zL.1 h;split at h
 case isFalse=>cases h
 rename_i z;obtain⟨ha,hs⟩:=z;obtain⟨cs,d,h⟩:=zL.1 h;obtain⟨x,D,h⟩:=zL.1 h;obtain⟨⟨y,Y2⟩,hd,h⟩:=zL.1 h;simp only at h;split at h
 case isFalse=>cases h
 rename_i A;injection h with h
 subst h;obtain⟨E,n⟩:=Option.isSome_iff_exists.1 A;have f:=r.live id b t;have m:0<(G id).s:=by rw[<-f.bs];exact hs
 obtain⟨cur,L,M,F⟩:=f.row m;obtain⟨H,N,I⟩:=F i j cs x d D;obtain⟨S',k,Q⟩:=ml (dr:=dr) r hd I.2.1;have R:=k.same r;refine⟨S',k.na t (r.top id b t) ?_ (k.inv.apart id E n) fun T B U C W=>C (k.inv.inj T id B E U n W)⟩;have X:(G id).s=b.s:=f.bs.symm;refine kb.kG m f.bs ⟨f.size m,fun c z=>?_,by simpa using f.fit m,cur,L,M,fun i' j' B g a l=>?_⟩
 ·rcases KB z with h1|h1
  ·exact f.len m c h1
  ·rw[h1,List.length_set];exact f.len m cs (zE d)
 ·have o:∀c g,b.es[i']?=some c->c[j']?=some g->∃u,cur[i'*(G id).s+j']?=some u/\kF w S' G Z false g u:=fun c g h1 h2=>by obtain⟨v,v1,J⟩:=F i' j' c g h1 h2;exact⟨v,v1,(fun e=>by cases e),J.2.1.mono R (zk _) (fun _ _=>rfl),J.2.2⟩
  simp only at a;by_cases p:i'=i
  ·subst p;rw[WE (zd.1 d).1]at a;injection a with a
   subst a;by_cases q:j'=j
   ·subst q;rw[WE (zd.1 D).1]at l;injection l with l
    subst l;exact⟨H,N,(fun e=>by cases e),.c (K w S' y H Q),I.2.2⟩
   ·rw[Qj (fun e=>q e.symm)]at l;exact o cs g d l
  ·rw[Qj (fun e=>p e.symm)]at a;exact o B g a l
theorem Wp.close{c:Code}{σ:Nat->O}{Y Y1:Hp}{Z:Nat}{K:Exit->St->Prop}{id i j:Nat}{u:O->O}(a:aO u)(b:aA Y id i j u=some Y1)(h:Wp dr C N c ⟨σ,Y1,Z⟩ K):Wp dr C N c ⟨σ,Y,Z⟩ K:=
 Wp.ghost (fun _ _ _ d=>sI a d b) h
theorem Wp.frozen{c:Code}{σ:Nat->O}{Y Y1:Hp}{Z:Nat}{K:Exit->St->Prop}{t:Nat}{y:O}{u:O->O}(g:aO u)(i:AM.freeze Y (σ t)=some (y,Y1))(h:Wp dr C N c ⟨zI σ t (u y),Y1,Z⟩ K):Wp dr C N c ⟨σ,Y,Z⟩ K:=by
 intro j l L m n n0 a w Q o ⟨S,G,b⟩ p;obtain⟨S',k,q⟩:=vH (dr:=dr) b.inv i (b.vR t);have f:=b.step (dst:=none) (u:=.bool true) k (x:=.v (.bool true)) (.c (.v rfl)) (fun d hd=>by cases hd);refine h j l L m n n0 a w Q o ⟨S',G,{f with vR:=fun t'=>?_}⟩ p;by_cases e:t'=t
 ·subst e;simpa using qg.c (G:=G) (Z:=Z) (g w S' y _ q)
 ·show qg w S' G Z (zI σ t (u y) t') _;rw[zc _ _ _ _ e];exact f.vR t'
variable{dr:Prop}{C:Ctx}{N:Nat}{pf:FuncId->Bool}
def xk(a:Array Oper)(i:Nat):Option Tmp:=match a[i]? with
 |some o=>o.dst
 |none=>none
def A3(a:Array Oper)(i j:Nat):Bool:=match a[i]? with
 |some o=>o.after.any fun e=>e.on==j&&Region.binds .any e
 |none=>false
def zgy(a:Array Oper):Bool:=(List.range a.size).all fun i=>match a[i]? with
 |some o=>(o.looksAt a).all fun t=>(List.range (a.size-1)).all fun j=>xk a j != some t||A3 a i j
 |none=>true
def dstB(N n:Nat)(a:Array Oper):Bool:=(List.range n).all fun i=>match xk a i with
 |some d=>decide (d<N)&&(List.range n).all fun j=>i==j||xk a j != some d
 |none=>false
def aD(n:Nat)(c:Array Oper):List Nat->Bool
 |[]=>true
 |[a]=>decide (a<n)
 |a::b::l=>decide (a<n)&&decide (a<b)&&A3 c b a&&aD n c (b::l)
def qB(N n:Nat)(cs:List Nat)(a:Array Oper):Bool:=decide (a.size=n+1)&&Oj a&&Om a&&zgy a&&dstB N n a&&aD n a cs
theorem pt{a:Array Oper}{d:Array Bool}{i j:Nat}(h:i∈Region.ready .any a d)(b:A3 a i j=true):d[j]?=some true:=by obtain⟨_,o,f,_⟩:=mem_ready.1 h;unfold A3 at b;rw[f]at b;obtain⟨e,g,c⟩:=Array.any_eq_true'.1 b;simp only[zn,w7]at c;rw[<-c.1];exact Ol h f e g c.2
theorem WN{n:Nat}{c:Array Oper}:∀{cs:List Nat},aD n c cs=true->(∀i∈cs,i<n)/\(∀k a b,cs[k]?=some a->cs[k+1]?=some b->a<b/\A3 c b a=true)
 |[],_=>⟨by simp,by simp⟩
 |[a],h=>⟨by simpa[aD]using h,by simp⟩
 |a::b::l,h=>by
  simp only[aD,zn,z6]at h;obtain⟨⟨⟨f,g⟩,j⟩,m⟩:=h;obtain⟨o,p⟩:=WN m;refine⟨fun i hi=>?_,fun k x y d e=>?_⟩
  ·rcases zx.1 hi with rfl|hi
   ·exact f
   ·exact o i hi
  ·cases k with
   |zero=>simp at d e;subst d;subst e;exact⟨g,j⟩
   |succ k=>exact p k x y (by simpa using d) (by simpa using e)
theorem A4{n:Nat}{d:Array Oper}{cs:List Nat}(h:aD n d cs=true):∀(m k a b:Nat),cs[k]?=some a->cs[k+1+m]?=some b->a<b:=by
 intro m
 induction m with
 |zero=>exact fun k a b e c=>((WN h).2 k a b e c).1
 |succ m g=>intro k a b e c;have i:=(zd.1 c).1;have f:cs[k+1+m]?=some cs[k+1+m]:=zm (by omega);have:=g k a _ e f;have:=((WN h).2 _ _ b f c).1;omega
theorem H6{n:Nat}{b:Array Oper}{cs:List Nat}(h:aD n b cs=true){j k a:Nat}(d:cs[j]?=some a)(e:cs[k]?=some a):j=k:=by
 rcases Nat.lt_trichotomy j k with c|c|c
 ·obtain⟨m,rfl⟩:∃m,k=j+1+m:=⟨k-j-1,by omega⟩;have:=A4 h m j a a d e;omega
 ·exact c
 ·obtain⟨m,rfl⟩:∃m,j=k+1+m:=⟨j-k-1,by omega⟩;have:=A4 h m k a a e d;omega
theorem Wp.zaF(hg:kl dr C pf)(hm:C.P.follows .mixedOrders=true){id:Nat}{b:Array Oper}{st:St}{K:Exit->St->Prop}(n:Nat)(cs:List Nat)(F:qB N n cs b=true)(c:Nat->O)(q:Nat->Hp×Nat)
  (X:∀t,(∀j,j<n->xk b j≠some t)->c t=st.σ t) (h0:q 0=(st.Y,st.Z))
  (hq:∀i o,i<n->b[i]?=some o->i ∉ cs->∀k,k<=cs.length->jL C b o c (q k).1 (q k).2=some (c (o.dst.getD 0),(q k).1,(q k).2))
  (hc:∀k i o,cs[k]?=some i->b[i]?=some o->jL C b o c (q k).1 (q k).2=some (c (o.dst.getD 0),(q (k+1)).1,(q (k+1)).2))
  (hl:∀l,(∀st',K .normal st'->kJ dr C N b l st' (vy K))->kJ dr C N b (n::l) ⟨c,(q cs.length).1,(q cs.length).2⟩ (vy K)) :
  Wp dr C N (.region id b true) st K:=by
 simp only[qB,zn,z6]at F;obtain⟨⟨⟨⟨⟨hn,hb⟩,hcov⟩,I9⟩,hds⟩,I⟩:=F;have hop:∀i,i<n+1->∃o,b[i]?=some o:=fun i s=>⟨_,jf (by omega)⟩
 have m:∀i,i<n->∃d,xk b i=some d/\d<N/\∀j,j<n->xk b j=some d->j=i:=fun i s=>by
  have u:=zP.1 hds i (yK.2 s);cases hd:xk b i with
  |none=>rw[hd]at u;cases u
  |some d=>
   rw[hd]at u;simp only[zn,z6]at u;refine⟨d,rfl,u.1,fun j f hjd=>?_⟩;have B:=zP.1 u.2 j (yK.2 f);simp only[qW,w7,zar]at B;rcases B with B|B
   ·exact B.symm
   ·exact absurd hjd B
 have hdo:∀{i o},b[i]?=some o->xk b i=o.dst:=fun{i o} r=>by unfold xk;rw[r]
 have G:∀i,i<n->∃o,b[i]?=some o/\o.dst=some ((xk b i).getD 0):=fun i s=>by obtain⟨o,r⟩:=hop i (by omega);obtain⟨d,hd,_,_⟩:=m i s;refine⟨o,r,?_⟩;rw[<-hdo r,hd];rfl
 have J:∀{H:Array Bool} {σ:Nat->O} {i:Nat} {o:Oper},i<n+1->b[i]?=some o->i∈Region.ready .any b H->Des (fun i=>(xk b i).getD 0) (fun i=>c ((xk b i).getD 0)) n st.σ H σ->∀(Y:Hp) (Z:Nat),jL C b o σ Y Z=jL C b o c Y Z:=fun{H σ i o} s r L M Y Z=>by
  refine ZC fun t ht=>?_
  have u:=zP.1 I9 i (yK.2 (by omega));rw[r]at u;have B:=zP.1 u t ht;by_cases w:∃j,j<n/\xk b j=some t
  ·obtain⟨j,f,D⟩:=w;have Q:=zP.1 B j (yK.2 (by omega));simp only[qW,zar]at Q;have R:=M.done j f (pt L (Q.resolve_left fun h=>h D));simp only[D,vx]at R;exact R
  ·have x:∀j,j<n->xk b j≠some t:=fun j f e=>w ⟨j,f,e⟩
   rw[X t x];refine M.rest t fun j f e=>?_
   obtain⟨d,hd,_,_⟩:=m j f;rw[hd]at e;exact x j f (by rw[hd];exact jy some e)
 refine Wp.zaE hg hm hn hb (fun i=>(xk b i).getD 0) (fun i=>c ((xk b i).getD 0)) (fun i j s f h=>?_) (fun i s=>?_) G (fun H Y Z=>∃k,k<=cs.length/\q k=(Y,Z)/\∀j i,cs[j]?=some i->(H[i]?=some true↔j<k)) ⟨0,jS _,h0,fun j i _=>⟨fun h=>by simp[Qs]at h,fun h=>by omega⟩⟩ ?_ ?_
 ·obtain⟨d,hd,_,hu⟩:=m j f;obtain⟨d',hd',_,_⟩:=m i s;refine hu i s ?_;simp only[hd,hd',vx]at h;rw[hd',h]
 ·obtain⟨d,hd,u,_⟩:=m i s;show(xk b i).getD 0<N;rw[hd];exact u
 ·rintro H σ Y Z i s hcl hnn L M ⟨k,hk,y,U⟩;obtain⟨o,r⟩:=hop i (by omega);have hL:=J (by omega) r L M;have hod:o.dst=some ((xk b i).getD 0):=by obtain⟨o',E,h⟩:=G i s;rw[r]at E;injection E with E;subst E;exact h
  have hgd:o.dst.getD 0=(xk b i).getD 0:=by rw[hdo r]
  have S:=bh L;have hsz:i<H.size:=(zU.1 S).1;by_cases T:i∈cs
  ·obtain⟨v,g⟩:=Qk T;have hkk:v=k:=by
    have u:¬v<k:=fun h=>by rw[(U v i g).2 h]at S;cases S
    have B:¬k<v:=fun h=>by obtain⟨p,rfl⟩:∃p,v=p+1:=⟨v-1,by omega⟩;have hl2:=(zd.1 g).1;have Q:cs[p]?=some cs[p]:=zm (by omega);have R:=(U p _ Q).1 (pt L ((WN I).2 p _ i Q g).2);omega
    omega
   subst hkk;have he:=hc v i o g r;rw[y]at he;refine⟨o,(q (v+1)).1,(q (v+1)).2,r,?_,v+1,(zd.1 g).1,rfl,fun j a W=>?_⟩
   ·rw[yv,hL Y Z,he,hgd,hod];rfl
   ·by_cases z:a=i
    ·subst z;have:=H6 I W g;rw[Y3 hsz];exact⟨fun _=>by omega,fun _=>rfl⟩
    ·rw[yi (fun e=>z e.symm),U j a W];refine⟨fun h=>by omega,fun h=>?_⟩;rcases Nat.lt_or_ge j v with f|f
     ·exact f
     ·have:j=v:=by omega
      subst this;rw[W]at g;injection g with g
      exact absurd g z
  ·have he:=hq i o s r T k hk;rw[y]at he;refine⟨o,Y,Z,r,?_,k,hk,y,fun j a W=>?_⟩
   ·rw[yv,hL Y Z,he,hgd,hod];rfl
   ·have z:a≠i:=by rintro rfl;exact T (zE W)
    rw[yi (fun e=>z e.symm)];exact U j a W
 ·rintro H σ Y Z hcl L M ⟨k,hk,y,U⟩;have A:=On hn hcov hcl L;refine⟨A,?_⟩;have hσe:σ=c:=by
   funext t;by_cases w:∃j,j<n/\xk b j=some t
   ·obtain⟨j,f,D⟩:=w;have R:=M.done j f (A j f);simp only[D,vx]at R;exact R
   ·have x:∀j,j<n->xk b j≠some t:=fun j f e=>w ⟨j,f,e⟩
    rw[X t x];refine M.rest t fun j f e=>?_
    obtain⟨d,hd,_,_⟩:=m j f;rw[hd]at e;exact x j f (by rw[hd];exact jy some e)
  have hke:k=cs.length:=by
   rcases Nat.lt_or_ge k cs.length with h|h
   ·have Q:cs[k]?=some cs[k]:=zm h;have R:=(U k _ Q).1 (A _ ((WN I).1 _ (zo h)));omega
   ·omega
  subst hke;rw[y]at hl;rw[hσe];exact hl
def VD:List Nat->zb->(Nat->O)->Nat->O
 |d::ds,v::vs,σ=>VD ds vs (zI σ d v)
 |_,_,σ=>σ
@[simp]theorem dL(d:Nat)(ds:List Nat)(v:O)(vs:zb)(σ:Nat->O):VD (d::ds) (v::vs) σ=VD ds vs (zI σ d v):=rfl
@[simp]theorem B8(vs:zb)(σ:Nat->O):VD [] vs σ=σ:=by cases vs<;>rfl
theorem ZH{t:Nat}:∀(ds:List Nat) (vs:zb) (σ:Nat->O),t ∉ ds->VD ds vs σ t=σ t
 |[],vs,σ,_=>by rw[B8]
 |d::ds,[],σ,_=>rfl
 |d::ds,v::vs,σ,h=>by rw[dL,ZH ds vs _ (fun e=>h (by simp[e])),zc _ _ _ _ (fun e=>h (by simp[e]))]
theorem FF:∀(ds:List Nat) (vs:zb) (σ:Nat->O) (i d:Nat),ds.Nodup->ds.length<=vs.length->ds[i]?=some d->VD ds vs σ d=(vs[i]?).getD (.qZ [])
 |[],_,_,i,d,_,_,h=>by simp at h
 |a::ds,[],_,_,_,_,h,_=>by simp at h
 |a::ds,v::vs,σ,0,d,b,_,h=>by simp at h;subst h;rw[dL,ZH ds vs _ (zbu.1 b).1];simp
 |a::ds,v::vs,σ,i+1,d,b,c,h=>by rw[dL,FF ds vs _ i d (zbu.1 b).2 (by simpa using c) (by simpa using h)];simp
def pB(N n:Nat)(cs ds:List Nat)(a:Array Oper):Bool:=qB N n cs a&&decide ((List.range n).map (xk a)=ds.map some)&&decide ds.Nodup&&a.all fun o=>o.guard.isNone
theorem Wp.YM(A:kl dr C pf)(B:C.P.follows .mixedOrders=true){id:Nat}{b:Array Oper}{st:St}{K:Exit->St->Prop}(n:Nat)(cs ds:List Nat)(a:pB N n cs ds b=true)(vs:zb)(L:vs.length=n)(c:Nat->Hp×Nat)(D:c 0=(st.Y,st.Z))
  (E:∀i o,i<n->b[i]?=some o->i ∉ cs->∀k,k<=cs.length->zS C (get (VD ds vs st.σ)) (c k).1 (c k).2 o.op=some ((vs[i]?).getD (.qZ []),(c k).1,(c k).2))
  (F:∀k i o,cs[k]?=some i->b[i]?=some o->zS C (get (VD ds vs st.σ)) (c k).1 (c k).2 o.op=some ((vs[i]?).getD (.qZ []),(c (k+1)).1,(c (k+1)).2))
  (G:∀l,(∀m,K .normal m->kJ dr C N b l m (vy K))->kJ dr C N b (n::l) ⟨VD ds vs st.σ,(c cs.length).1,(c cs.length).2⟩ (vy K)) :
  Wp dr C N (.region id b true) st K:=by
 simp only[pB,zn,z6]at a;obtain⟨⟨⟨a,p⟩,u⟩,v⟩:=a;have H:ds.length=n:=by have:=jy List.length p;simpa using this.symm
 have q:∀i,i<n->xk b i=ds[i]?:=fun i g=>by
  have:=jy (fun l=>l[i]?) p;simp only[qq,xG g,zY]at this;cases z:ds[i]? with
  |none=>rw[z]at this;cases this
  |some d=>rw[z]at this;injection this
 have r:∀{i:Nat} {o:Oper},b[i]?=some o->o.guard=none:=fun{i o} e=>by have:=WH.1 v o (Yo e);simpa using this
 have h:∀{i:Nat} {o:Oper},i<n->b[i]?=some o->VD ds vs st.σ (o.dst.getD 0)=(vs[i]?).getD (.qZ []):=fun{i o} g e=>by
  have w:=q i g;unfold xk at w;rw[e]at w;have f:ds[i]?=some ds[i]:=zm (by omega);have I:o.dst=some ds[i]:=by rw[<-f];exact w
  rw[I];exact FF ds vs st.σ i _ u (by omega) f
 have x:∀k i,cs[k]?=some i->i<n:=fun k i j=>by simp only[qB,zn]at a;exact(WN a.2).1 i (zE j)
 refine Wp.zaF A B n cs a (VD ds vs st.σ) c (fun t J=>ZH ds vs _ fun s=>?_) D (fun i o g e y k j=>?_) (fun k i o j e=>?_) G
 ·obtain⟨i,g⟩:=Qk s;have:=(zd.1 g).1;exact J i (by omega) ((q i (by omega)).trans g)
 ·rw[jm (r e),h g e];exact E i o g e y k j
 ·rw[jm (r e),h (x k i j) e];exact F k i o j e
theorem kJ.last(e:kl dr C pf){a:Array Oper}{n:Nat}{o:Oper}{st:St}{K:Exit->St->Prop}{r:O×Hp×Nat}(f:a[n]?=some o)(c:o.guard=none)(hd:∀d,o.dst=some d->d<N)(g:zS C (get st.σ) st.Y st.Z o.op=some r)(h:K .normal ⟨put st.σ o.dst r.1,r.2.1,r.2.2⟩) :
  ∀l,(∀b,K .normal b->kJ dr C N a l b (vy K))->kJ dr C N a (n::l) st (vy K):=fun l i=>
 kJ.cons e f hd (by rw[yv,jm c,g];rfl) (i _ h)
theorem kJ.pU{i:Array Oper}{j g:Nat}{d:Option Tmp}{b:Array Operand}{ts:Array TypeId}{ty:TypeId}{p:String}{o:Array Edge}{q:Option (Nat×Bool)}{l:List Nat}{st:St}{K:St->Prop}{vs:zb}{R:O->Hp->Nat->Prop}
  (z:i[j]?=some ⟨d,.call ⟨.value (.func g),b,ts⟩,ty,p,o,q⟩) (A:Region.wanted ⟨d,.call ⟨.value (.func g),b,ts⟩,ty,p,o,q⟩ (xr i st.σ)=true) (hd:∀x,d=some x->x<N) (B:∃fn,C.P.funcs[g]?=some fn/\(fn.name== "runtime.NumGoroutine")=false/\fn.body.isNone=false) (k:wK (b.toList.map (get st.σ))=some vs)
  (r:ZL dr C.P g vs st.Y st.Z R) (h:∀x Y' Z',R x Y' Z'->kJ dr C N i l ⟨put st.σ d x,Y',Z'⟩ K):kJ dr C N i (j::l) st K:=by
 intro D E L F H n0 a w Q hs I;simp only[wpOpsIn,z];obtain⟨S,G,n⟩:=hs;rw[bb n.vR,zl A];have s:∀c,(Op.call ⟨.value (.func g),b,ts⟩:Op)≠.defer c:=fun c r=>by cases r
 refine⟨fun f _=>trivial,?_⟩;rw[Oper.semAt_eq _ _ _ s];obtain⟨fn,J,M,T⟩:=B;have U:Zip (qg w S G st.Z) vs ((b.map a.eval).toList):=by rw[Array.toList_map];exact ZM (fun y pv W=>Yp n.vR W) k
 have t:¬fn.name= "runtime.NumGoroutine":=by simpa using M
 have u:¬fn.body=none:=by intro h;simp[h]at T
 have m:(execOp a.eval ⟨d,.call ⟨.value (.func g),b,ts⟩,ty,p,o,q⟩).run C.P w=.ok (.enter g (b.map a.eval)) w:=by simp[execOp,resolve,Act.eval,Deferred.ofValue,invoke,callFunc,J,t,u,-bind_pure_comp]
 rw[m];refine⟨fun h=>by simp[Fence.wide]at h,Xl.2 ((r w S G _ n.inv U).mono fun e X hh=>?_)⟩;obtain⟨x,Y',Z',v,S',G',hR,rfl,hk,hx⟩:=hh;exact h x Y' Z' hR D E L F H n0 _ X Q ⟨S',G',n.step hk hx hd⟩ I
theorem ZL.Lc{f:FuncId}{fn:Func}{code:Code}(a:C.P.funcs[f]?=some fn)(b:fn.body=some code){args:zb}{Y:Hp}{Z:Nat}{R:O->Hp->Nat->Prop}(c:args.length<=fn.ntmps)(d:Wp dr C fn.ntmps code ⟨kM args,Y,Z⟩ (Xb C.P fn R)):ZL dr C.P f args Y Z R:=
 fun _ _ _ _ e g=>Yv a b d e g c
end Go.AM
namespace Go.Q
theorem H7(b:Nat)(cb:Array Value)(w:World)(hb:w.heap[b]?=some (.cells cb 38 (0,0)))(hcb:cb[1]?=some (.slice none 0 0)) :
  Calls prog 14 #[.pointer (some ⟨b,0,none⟩)] w fun e w'=>e=.returned (.string .empty)/\w'=w.drew:=by
 have c1:w.drew.cell? ⟨b,1,none⟩=some (.slice none 0 0):=by have:w.drew.heap[b]?=some (.cells cb 38 (0,0)):=hb;rw[Lib.cell_of_heap this];exact hcb
 have hSD:(Builtin.unsafeSliceData_ #[36] 83 #[.slice none 0 0]).run prog w.drew=.ok (.pointer none) w.drew:=Lib.run_unsafeSliceData_nil _ _ _ _ _;have hUS:(Builtin.unsafeString_ #[83,3] 9 #[.pointer none,.int .i64 0]).run prog w.drew=.ok (.string .empty) w.drew:=Lib.run_unsafeString_none _ _ _ _ _;have hmixed:=mixed
 go_enter func14,Tryz.ntmps14
 go_wp2
 go_region_o
 all_goals (go_wp2;go_ret;exact⟨rfl,rfl⟩)
open Classical in
noncomputable def pw:AM.Spec:=fun args Y Z=>if∃id,args=[.ref id 0 0]/\Y id=some (Wo 38)then some (str [],Y,Z)else C4 args Y Z
theorem EI:zh prog 14 pw:=by
 refine⟨⟨_,func14,by kernel_rfl,by kernel_rfl⟩,?_⟩;intro args Y Z r Y' Z' h w S G vs b j;unfold pw at h;split at h
 case isFalse=>exact dT.2 args Y Z r Y' Z' h w S G vs b j
 rename_i l;obtain⟨id,rfl,m⟩:=l;injection h with h
 injection h with n h;injection h with o p;subst n;subst o;subst p;obtain⟨u,us,rfl,k,d⟩:=j.jr;have f:us=[]:=wI (by simpa using d.1.symm);subst f;have i:=k.Qn;obtain⟨hid,rfl⟩:=k.kW;simp only[Nat.zero_mul,xU];have a:=b.live id _ m;obtain⟨cur,q,B,t⟩:=a.row i;obtain⟨C,x,y⟩:=t 0 1 [.v (.pointer none),.nil] .nil rfl rfl;have z:(G id).s=2:=a.bs.symm;obtain rfl:=y.2.1.xV;refine(H7 (G id).g cur w q (by simpa using x)).mono fun e D A=>?_
 obtain⟨rfl,rfl⟩:=A;exact⟨_,_,_,rfl,kd.drew b,.c (.v rfl)⟩
theorem Oo(Y:Hp)(Z id:Nat)(h:Y id=some (Wo 38)):yc Sb f13 [.ref id 0 0] Y Z=some (int 0,Y,Z):=by
 unfold yc;rw[zl (by simp[f13])];obtain⟨x,Y',Z',a,b,c,d⟩:∃x Y' Z',yR Sb f13 [.ref id 0 0] Y Z=some (x,Y',Z')/\x=int 0/\Y'=Y/\Z'=Z:=by have e:Y id=some ⟨38,2,false,[[.v (.pointer none),.nil]]⟩:=h;refine wB rfl ?_;simp[e,f13]
 rw[a,b,c,d]
theorem TL{id:Nat}{Y:Hp}{Z:Nat}{cur:za}(B:pS TB UB id Y Z cur):yc Sb f13 [.ref id 0 0] Y Z=some (int cur.length,Y,Z):=by
 obtain⟨_,⟨rfl,h⟩|⟨m,_,_,_,h,_⟩⟩:=B
 ·exact Oo Y Z id h
 ·exact EZ Y Z id m _ h
theorem TM{id:Nat}{Y:Hp}{Z:Nat}{cur:za}(B:pS TB UB id Y Z cur):∃Y',pw [.ref id 0 0] Y Z=some (str cur,Y',Z):=by
 obtain⟨_,⟨rfl,h⟩|⟨m,d,_,b,h,c⟩⟩:=B
 ·exact⟨Y,by unfold pw;rw[zl ⟨id,rfl,h⟩]⟩
 ·refine⟨zI (zI Y m none) id none,?_⟩;unfold pw;rw[zj (fun⟨id',e,a⟩=>by injection e with e _;injection e with e _ _;subst e;rw[h]at a;injection a with a;simp[vl,Wo]at a)]
  exact iw Y Z id m cur h c b d
def mn(n:Nat):Code->Option Code
 | .region i e d=>if i=n then some (.region i e d)else none
 | .seq a b=>match mn n a with
  |some c=>some c
  |none=>mn n b
 | .cond _ a b=>match mn n a with
  |some c=>some c
  |none=>mn n b
 | .block _ b=>mn n b
 | .loop b=>mn n b
 |_=>none
def Vt(n:Nat):Code->Option Code
 | .block i b=>if i=n then some (.block i b)else Vt n b
 | .seq a b=>match Vt n a with
  |some c=>some c
  |none=>Vt n b
 | .cond _ a b=>match Vt n a with
  |some c=>some c
  |none=>Vt n b
 | .loop b=>Vt n b
 |_=>none
noncomputable abbrev Qg:Code:=Tryz.f4.body.getD .skip
noncomputable abbrev Jp:Ctx:=qf prog [(7,hP (FBk fun b=>int (yT b))),(8,E3),(11,hP FIt),(12,GC lE),(13,yc Sb f13),(14,pw)]
theorem vQ:kl False Jp g0F:=qD mixed ⟨pT.lax,Dg,nb.lax,B7.lax,pR.lax,EI.lax,trivial⟩
theorem zgz(x:yp){σ:Nat->O}{Y:Hp}{Z id j:Nat}{cur:za}{K:Exit->St->Prop}(y:σ 6=.fn (.func 8) [] [.ref id 0 0])(z:σ 7=.fn (.func 11) [] [])(A:σ 9=.ref j 0 0)(s:j<Z)(f:Y j=some ⟨48,3,false,[x.V]⟩)
  (C:0<=x.rest/\x.rest<=4000000000) (B:pS TB UB id Y Z cur) (g:cur.length+(aL [Zn,x.name,x.we,wi x.rest]).length<=140737488355328)
  (D:∀σ' Y' Z',(∀t,t<39->σ' t=σ t)->pS TB UB id Y' Z' (cur++aL [Zn,x.name,x.we,wi x.rest])->Z<=Z'->(∀j b,j<Z->j≠id->Y j=some b->b.e≠UB->Y' j=some b)->K .normal ⟨σ',Y',Z'⟩) :
  Wp False Jp Tryz.f4.ntmps ((mn 10 Qg).getD .skip) ⟨σ,Y,Z⟩ K:=by
 have u:=vQ;have hit:=fun Y Z=>Z7 x.rest Y Z C.1 (by omega)
 have h:¬j=Z:=by omega
 simp only[yp.V]at f;refine Wp.YM u mixed 10 [9] [39,40,41,42,43,44,45,46,47,48] (by kernel_rfl) [.fn (.func 8) [] [.ref id 0 0],.ref j 0 0,str x.name,.ref j 0 1,str x.we,.fn (.func 11) [] [],.ref j 0 2,int x.rest,str (wi x.rest),.own Z 0 4] rfl (fun k=>match k with|0=>(Y,Z)|_=>(zI Y Z (some ⟨9,1,true,zA [Zn,x.name,x.we,wi x.rest]⟩),Z+1)) rfl ?_ ?_ ?_
 ·intro i o w a l k c;have w:i=0\/i=1\/i=2\/i=3\/i=4\/i=5\/i=6\/i=7\/i=8\/i=9:=by omega
  have c:k=0\/k=1:=by simp at c;omega
  rcases w with rfl|rfl|rfl|rfl|rfl|rfl|rfl|rfl|rfl|rfl<;>(injection a with a;subst a)<;>first
   |exact absurd (by decide) l
   |(rcases c with rfl|rfl<;>simp[y,z,A,f,h,hit,wi])
 ·intro k i o c a;have m:k=0/\i=9:=by
   have:=(zd.1 c).1;have n:k=0:=by simp at this;omega
   subst n;simp at c;omega
  obtain⟨rfl,rfl⟩:=m;injection a with a;subst a;simp[zy,zR,zw,zA,Zn]
 ·have p:=B.kO (Y':=zI Y Z (some ⟨9,1,true,zA [Zn,x.name,x.we,wi x.rest]⟩)) (Z':=Z+1) (by omega) (fun j s=>by rw[zc _ _ _ _ (by omega)]);obtain⟨hp3,nx3,E,F,J,G⟩:=W0 p (v:=.own Z 0 4) (xs:=[Zn,x.name,x.we,wi x.rest]) (e:=9) (.inr ⟨Z,by omega,rfl,by simp⟩) (by simp) g;refine kJ.last u rfl rfl (fun d hd=>by simp at hd;subst hd;decide) (r:=(.qZ [],hp3,nx3)) ?_ ?_
  ·simp;exact E
  ·exact D (zI (VD [39,40,41,42,43,44,45,46,47,48] _ σ) (39+10) (.qZ [])) hp3 nx3 (fun t L=>by rw[zc _ _ _ _ (by omega),ZH _ _ _ (by simp;omega)]) F (by omega) (fun j b s q H I=>G j b (by omega) q (by rw[zc _ _ _ _ (by omega)];exact H) I)
theorem zgA(x:y7){σ:Nat->O}{Y:Hp}{Z id j:Nat}{cur:za}{K:Exit->St->Prop}(y:σ 6=.fn (.func 8) [] [.ref id 0 0])(z:σ 7=.fn (.func 11) [] [])(A:σ 11=.ref j 0 0)(s:j<Z)(f:Y j=some ⟨50,4,false,[x.V]⟩)
  (C:0<=x.buckets/\x.buckets<=4000000000) (B:pS TB UB id Y Z cur) (g:cur.length+(aL [xQ,x.name,x.we,wi x.buckets]).length<=140737488355328)
  (D:∀σ' Y' Z',(∀t,t<58->σ' t=σ t)->pS TB UB id Y' Z' (cur++aL [xQ,x.name,x.we,wi x.buckets])->Z<=Z'->(∀j b,j<Z->j≠id->Y j=some b->b.e≠UB->Y' j=some b)->K .normal ⟨σ',Y',Z'⟩) :
  Wp False Jp Tryz.f4.ntmps ((mn 15 Qg).getD .skip) ⟨σ,Y,Z⟩ K:=by
 have u:=vQ;have hit:=fun Y Z=>Z7 x.buckets Y Z C.1 (by omega)
 have h:¬j=Z:=by omega
 simp only[y7.V]at f;refine Wp.YM u mixed 10 [9] [58,59,60,61,62,63,64,65,66,67] (by kernel_rfl) [.fn (.func 8) [] [.ref id 0 0],.ref j 0 0,str x.name,.ref j 0 1,str x.we,.fn (.func 11) [] [],.ref j 0 2,int x.buckets,str (wi x.buckets),.own Z 0 4] rfl (fun k=>match k with|0=>(Y,Z)|_=>(zI Y Z (some ⟨9,1,true,zA [xQ,x.name,x.we,wi x.buckets]⟩),Z+1)) rfl ?_ ?_ ?_
 ·intro i o w a l k c;have w:i=0\/i=1\/i=2\/i=3\/i=4\/i=5\/i=6\/i=7\/i=8\/i=9:=by omega
  have c:k=0\/k=1:=by simp at c;omega
  rcases w with rfl|rfl|rfl|rfl|rfl|rfl|rfl|rfl|rfl|rfl<;>(injection a with a;subst a)<;>first
   |exact absurd (by decide) l
   |(rcases c with rfl|rfl<;>simp[y,z,A,f,h,hit,wi])
 ·intro k i o c a;have m:k=0/\i=9:=by
   have:=(zd.1 c).1;have n:k=0:=by simp at this;omega
   subst n;simp at c;omega
  obtain⟨rfl,rfl⟩:=m;injection a with a;subst a;simp[zy,zR,zw,zA,xQ]
 ·have p:=B.kO (Y':=zI Y Z (some ⟨9,1,true,zA [xQ,x.name,x.we,wi x.buckets]⟩)) (Z':=Z+1) (by omega) (fun j s=>by rw[zc _ _ _ _ (by omega)]);obtain⟨hp3,nx3,E,F,J,G⟩:=W0 p (v:=.own Z 0 4) (xs:=[xQ,x.name,x.we,wi x.buckets]) (e:=9) (.inr ⟨Z,by omega,rfl,by simp⟩) (by simp) g;refine kJ.last u rfl rfl (fun d hd=>by simp at hd;subst hd;decide) (r:=(.qZ [],hp3,nx3)) ?_ ?_
  ·simp;exact E
  ·exact D (zI (VD [58,59,60,61,62,63,64,65,66,67] _ σ) (58+10) (.qZ [])) hp3 nx3 (fun t L=>by rw[zc _ _ _ _ (by omega),ZH _ _ _ (by simp;omega)]) F (by omega) (fun j b s q H I=>G j b (by omega) q (by rw[zc _ _ _ _ (by omega)];exact H) I)
end Go.Q
namespace Go.AM
theorem vc{Y:Hp}{Z e s id:Nat}{v:O}{xs:List zb}{b:Blk}(h:qR Y Z e s v xs)(c:Y id=some b)(d:b.arr=false):∀n,v≠.own id 0 n:=by
 rintro n rfl;rcases h with⟨h,_⟩|⟨id',_,h,a⟩
 ·cases h
 ·injection h with f _ _;subst f;rw[c]at a;injection a with a;subst a;cases d
def xX(n0:Nat)(Y:Hp)(Z e s:Nat)(v:O)(xs:List zb):Prop:=qR Y Z e s v xs/\∀id n,v=.own id 0 n->n0<=id
theorem xX.nil(n0:Nat)(Y:Hp)(Z e s:Nat):xX n0 Y Z e s .nil []:=⟨.nil Y Z e s,fun _ _ h=>by cases h⟩
theorem Jq{n0:Nat}{Y:Hp}{Z e s:Nat}{v:O}{xs:List zb}(h:xX n0 Y Z e s v xs)(Y':Hp){j:Nat}(a:j<n0):vB v Y' j=Y' j:=qK h.1 Y' j fun n e=>by have:=h.2 j n e;omega
theorem xX.kO{n0:Nat}{Y Y':Hp}{Z Z' e s:Nat}{v:O}{xs:List zb}(h:xX n0 Y Z e s v xs)(c:Z<=Z')(a:∀id n,v=.own id 0 n->Y' id=Y id):xX n0 Y' Z' e s v xs:=by
 refine⟨?_,h.2⟩;rcases h.1 with⟨rfl,rfl⟩|⟨id,d,rfl,b⟩
 ·exact .inl ⟨rfl,rfl⟩
 ·exact .inr ⟨id,by omega,rfl,by rw[a id _ rfl];exact b⟩
theorem mo{Y:Hp}{Z e s:Nat}{v:O}{xs:List zb}(h:qR Y Z e s v xs):∃y,Vr Y v=some (y,vB v Y)/\Rx s y=.sl s xs:=by
 rcases h with⟨rfl,rfl⟩|⟨id,_,rfl,a⟩
 ·exact⟨.nil,rfl,rfl⟩
 ·exact⟨.sl s xs,by simp[Vr,a,qn,vB],rfl⟩
theorem Kh{Y:Hp}{Z id e s d a j:Nat}{cs:zb}{v:O}{xs:List zb}(b:Y id=some ⟨e,s,false,[cs]⟩)(f:0<s)(g:cs[j]?=some v)(c:qR Y Z d a v xs) :
  aA Y id 0 j (Rx a)=some (zI (vB v Y) id (some ⟨e,s,false,[cs.set j (.sl a xs)]⟩)):=by
 obtain⟨y,h,i⟩:=mo c;have k:=qK c Y id (vc c b rfl);unfold aA;rw[b];simp[f,g,h,i,k,b]
end Go.AM
namespace Go.Q
theorem aE(Y:Hp)(r:zb)(rows:List zb):y8 prog Y 39 (.sl 1 (r::rows)) (some (some (int 1))) none=some (.sl 1 rows):=by simp[y8,jZ]
noncomputable abbrev Cphz:Ctx:=qf prog [(86,H3),(119,hP H4)]
theorem FG:Gd Cphz:=qD mixed ⟨dK,mj,trivial⟩
noncomputable abbrev TN:Code:=f84.body.getD .skip
noncomputable abbrev phzN:Nat:=f84.ntmps
def TQ(p:yk)(k n0:Nat)(a:Hp)(x:O)(st:St):Prop:=st.σ 0=x/\st.σ 6=q6 true/\st.σ 7=.ref n0 0 0/\n0<st.Z/\(∀j,j<n0->st.Y j=a j)/\∃v,st.Y n0=some ⟨64,2,false,[[int p.at_,v]]⟩/\xX n0 st.Y st.Z 66 2 v ((p.qw.take k).map ki)
def PhzL(p:yk)(n0:Nat)(a:Hp)(x:O)(n:Nat)(st:St):Prop:=∃k,k+n=p.qw.length/\TQ p k n0 a x st/\st.σ 26=.sl 1 (zA (p.qw.map Qc))/\st.σ 27=int p.qw.length/\st.σ 28=int k
theorem TR(p:yk)(hs:∀s∈p.qw,kL s.1/\kL s.2)(N:p.qw.length<=100){n0:Nat}{r:Hp}{x:O}{σ:Nat->O}{Y:Hp}{Z:Nat}(E:TQ p 0 n0 r x ⟨σ,Y,Z⟩)(b:σ 26=.sl 1 (zA (p.qw.map Qc)))(a:σ 27=int p.qw.length)(d:σ 28=int 0) :
  Wp True Cphz phzN ((Vt 0 TN).getD .skip) ⟨σ,Y,Z⟩ (fun e u=>e=.normal/\TQ p p.qw.length n0 r x u):=by
 have F:=FG;refine Wp.block (Wp.loop (PhzL p n0 r x) p.qw.length ⟨0,by simp,E,b,a,d⟩ ?_);clear E b a d σ Y Z;rintro n ⟨σ,Y,Z⟩ ⟨k,H,⟨w,y,o,m,f,v,q,g⟩,b,a,d⟩;simp only at w y o m f q g b a d;by_cases h:k<p.qw.length
 case neg=>
  obtain rfl:k=p.qw.length:=by omega
  refine Wp.of F ?_;simp[a,d];exact⟨by simp[w],by simp[y],by simp[o],m,f,v,q,g⟩
 obtain⟨s,i⟩:=yb (p.qw[k]);obtain⟨I,J⟩:=hs s (by rw[<-i];exact zo h);have z:(zA (p.qw.map Qc)).length=p.qw.length:=by simp[zA]
 have A:∀Y Z,hP H4 [str (Qc s),str [45]] Y Z=some (.qZ [int s.1,int s.2,q6 true],Y,Z):=fun Y Z=>pq s.1 s.2 45 Y Z I J rfl
 have K:=q8 k;have B:=vc g.1 q rfl;obtain⟨ys,l⟩:=yb ((p.qw.take k).map ki);have L:ys.length=k:=by rw[<-l];simp;omega
 rw[l]at g;have C:=qR.jc (P:=prog) (t:=62) (c:=ki s) g.1 el62 sz66 by66 ze66 rfl (by omega) (by unfold maxLen;omega) (by omega);have D:=fun Y'=>qK g.1 Y' n0 B
 refine Wp.of F ?_;simp[y,o,b,a,d,h,i,z,A,q,ki,K,C,D,qi,qJ,zy,zR,zw,show¬n0=Z by omega,show¬n0=Z+1 by omega];have M:(p.qw.take (k+1)).map ki=ys++[ki s]:=by rw[qb h,yZ,l,i];rfl
 refine⟨n-1,by omega,k+1,by omega,⟨by simp[w],by simp,by simp[o],by show n0<Z+2;omega,fun j G=>?_,.own (Z+1) 0 (ys.length+1),by simp,?_⟩,by simp[b],by simp[a],by simp⟩
 ·show zI (zI _ (Z+1) _) n0 _ j=_;rw[zc _ _ _ _ (by omega),zc _ _ _ _ (by omega),Jq g _ G,zc _ _ _ _ (by omega)];exact f j G
 ·rw[M];refine⟨.inr ⟨Z+1,by show Z+1<Z+2;omega,by simp,?_⟩,fun id n e=>by injection e with e _ _;omega⟩;show zI (zI _ (Z+1) _) n0 _ (Z+1)=_;rw[zc _ _ _ _ (by omega)];simp[ki]
def PhzR(p:yk)(m i n0 Z:Nat)(cs:zb)(rows:List zb)(b:List yk)(Y:Hp)(x:O)(Y':Hp)(Z':Nat):Prop:=x=q6 true/\Z<=Z'/\∃a,xX n0 Y' Z' 64 2 a ((b++[p]).map yk.V)/\Y' m=some ⟨58,13,false,rows.set i (cs.set 12 a)⟩/\∀j,j<Z->j≠m->(∀q,cs[12]?=some q->∀n,q≠.own j 0 n)->Y' j=Y j
theorem TS(p:yk)(ha:kL p.at_)(hs:∀s∈p.qw,kL s.1/\kL s.2)(hl:p.qw.length<=100){m i n0:Nat}{Y:Hp}{Z:Nat}{cs:zb}{rows:List zb}{f:List yk}{q:O}(hn0:n0<=Z)(hm:Y m=some ⟨58,13,false,rows⟩)(J:m<Z)(L:rows[i]?=some cs)(w:cs[12]?=some q)(hO:xX n0 Y Z 64 2 q (f.map yk.V))(hpl:f.length<=zD) :
  ZL True prog 84 [.ref m i 0,.sl 1 (zA (wi p.at_::p.qw.map Qc))] Y Z (PhzR p m i n0 Z cs rows f Y):=by
 refine ZL.Lc (C:=Cphz) (fn:=f84) (code:=_) func84 rfl (by simp[f84]) ?_;have l:=FG;have nc:zD=268435456:=rfl;have M:=fun Y Z=>Vp p.at_ Y Z ha
 have N:((p.qw.length:Int)+1==0)=false:=by simp;omega
 refine Wp.cut l (fun σ Y' Z'=>σ 0=.ref m i 0/\σ 1=.sl 1 (zA (wi p.at_::p.qw.map Qc))/\Y=Y'/\Z=Z') (by simp) ?_;rintro σ _ _ ⟨b,d,rfl,rfl⟩;refine Wp.cut l (fun σ Y' Z'=>σ 0=.ref m i 0/\σ 1=.sl 1 (zA (wi p.at_::p.qw.map Qc))/\Y=Y'/\Z=Z') (by simp[b,d,zA,N]) ?_;clear b d σ;rintro σ _ _ ⟨b,d,rfl,rfl⟩;refine Wp.cut l (fun σ Y' Z'=>σ 0=.ref m i 0/\σ 1=.sl 1 (zA (wi p.at_::p.qw.map Qc))/\σ 5=int p.at_/\σ 6=q6 true/\Y=Y'/\Z=Z') (by simp[b,d,zA,M]) ?_;clear b d σ;rintro σ _ _ ⟨b,d,h5,F,rfl,rfl⟩;refine Wp.cut l (fun σ' Y' Z'=>σ' 0=.ref m i 0/\σ' 1=.sl 1 (zA (wi p.at_::p.qw.map Qc))/\σ' 6=q6 true/\σ' 7=.ref Z 0 0/\zI Y Z (some ⟨64,2,false,[[int p.at_,.nil]]⟩)=Y'/\Z+1=Z') (by simp[b,d,h5,F,qi,qJ]) ?_;clear b d h5 F σ;rintro σ _ _ ⟨b,d,F,h7,rfl,rfl⟩;refine Wp.seq (Wp.mono (K:=fun e Q=>e=.normal/\TQ p p.qw.length Z Y (.ref m i 0) Q) ?_ ?_)
 ·refine Wp.cut l (fun σ' Y' Z'=>σ' 0=.ref m i 0/\σ' 6=q6 true/\σ' 7=.ref Z 0 0/\σ' 26=.sl 1 (zA (p.qw.map Qc))/\σ' 27=int p.qw.length/\σ' 28=int 0/\zI Y Z (some ⟨64,2,false,[[int p.at_,.nil]]⟩)=Y'/\Z+1=Z') (by simp[b,d,F,h7,zA,aE]) ?_;rintro R _ _ ⟨G,H,I,S,T,U,rfl,rfl⟩;exact TR p hs hl ⟨G,H,I,by show Z<Z+1;omega,fun j u=>zc _ _ _ _ (by omega),.nil,by simp,by rw[jq];exact .nil _ _ _ _ _⟩ S T U
 rintro e ⟨R,Y2,Xm⟩ ⟨rfl,G,H,I,W,x,v,X,D⟩;simp only at G H I W x X D;simp only[w5];rw[wq]at D;have hmn2:m<Xm:=by omega
 refine Wp.close (aO.nz 2) (Kh (j:=1) X (by decide) rfl D.1) ?_;obtain⟨hp3,g⟩:=yb (zI (vB v Y2) Z (some ⟨64,2,false,[[int p.at_,v].set 1 (.sl 2 (p.qw.map ki))]⟩));simp only[g];have b3:hp3 Z=some ⟨64,2,false,[p.V]⟩:=by rw[<-g];simp[yk.V]
 have f3:∀j,j<Z->hp3 j=Y j:=fun j u=>by rw[<-g,zc _ _ _ _ (by omega),Jq D _ u];exact x j u
 have y:=(f3 m J).trans hm;have a:xX n0 hp3 Xm 64 2 q (f.map yk.V):=hO.kO (by omega) fun id n e=>f3 id (by
  rcases hO.1 with⟨h,_⟩|⟨id',h,h2,_⟩
  ·rw[h]at e;cases e
  ·rw[h2]at e;injection e with e _ _;omega)
 clear g X D x;have hqm:=vc a.1 y rfl;have z:=qR.jc (P:=prog) (t:=56) (c:=p.V) a.1 el56 sz64 by64 ze64 rfl (by omega) (by rw[wx];unfold maxLen;omega) (by rw[wx];omega);have E:=fun Y'=>qK a.1 Y' m hqm
 rw[wx]at z;have hk1:=fun Y'=>qK a.1 Y' Z (vc a.1 b3 rfl)
 have hil:=(zd.1 L).1;have h12l:=(zd.1 w).1;refine Wp.seq (Wp.YM l mixed 10 [6,7] [51,52,53,54,55,56,57,58,59,60] (by kernel_rfl) [.ref m i 0,.ref m i 0,.ref m i 0,.ref m i 12,q,.agg p.V,.own Xm 0 1,.own (Xm+1) 0 (f.length+1),.ref m i 0,.ref m i 12] rfl
  (fun k=>match k with|0=>(hp3,Xm)|1=>(zI hp3 Xm (some ⟨64,2,true,[p.V]⟩),Xm+1)|_=>(zI (vB q (zI hp3 Xm (some ⟨64,2,true,[p.V]⟩))) (Xm+1) (some ⟨64,2,true,f.map yk.V++[p.V]⟩),Xm+2)) rfl ?_ ?_ ?_)
 ·intro j o u A BO k B;have u:j=0\/j=1\/j=2\/j=3\/j=4\/j=5\/j=6\/j=7\/j=8\/j=9:=by omega
  have B:k=0\/k=1\/k=2:=by simp at B;omega
  rcases u with rfl|rfl|rfl|rfl|rfl|rfl|rfl|rfl|rfl|rfl<;>(injection A with A;subst A)<;>first
   |exact absurd (by decide) BO
   |(rcases B with rfl|rfl|rfl<;>simp[G,I,y,L,w,b3,E,hk1,yk.V,show¬m=Xm by omega,show¬m=Xm+1 by omega,show¬Z=Xm by omega,show¬Z=Xm+1 by omega])
 ·intro k j o B A;simp only[yk.V]at z;have RA:k=0/\j=6\/k=1/\j=7:=by
   have:=(zd.1 B).1;have hk2:k=0\/k=1:=by simp at this;omega
   rcases hk2 with rfl|rfl<;>simp at B<;>omega
  rcases RA with⟨rfl,rfl⟩|⟨rfl,rfl⟩<;>(injection A with A;subst A)
  ·simp[yk.V,zy,zR,zw]
  ·simp[yk.V,z]
 ·refine kJ.last l rfl rfl (by simp) (r:=(.qZ [],zI (zI (vB q (zI hp3 Xm (some ⟨64,2,true,[p.V]⟩))) (Xm+1) (some ⟨64,2,true,f.map yk.V++[p.V]⟩)) m (some ⟨58,13,false,rows.set i (cs.set 12 (.own (Xm+1) 0 (f.length+1)))⟩),Xm+2)) (by simp[y,L,E,yk.V,show¬m=Xm by omega,show¬m=Xm+1 by omega,show 13<=cs.length by omega]) ?_
  simp only[w5];refine Wp.of l ?_;simp[H,f84];refine⟨rfl,by omega,.own (Xm+1) 0 (f.length+1),⟨.inr ⟨Xm+1,by omega,by simp,?_⟩,fun id n e=>by injection e with e _ _;omega⟩,by simp,fun j u hjm hqj=>?_⟩
  ·rw[zc _ _ _ _ (by omega)];simp
  ·rw[zc _ _ _ _ hjm,zc _ _ _ _ (by omega),qK a.1 _ j (hqj q w),zc _ _ _ _ (by omega)];exact f3 j u
abbrev TP:TypeId:=216
def zX(s:za)(st:Pst):zb:=[str s,int st.p,int st.d,int st.e,int st.i]
abbrev wR(s:za)(st:Pst):Blk:=qe TP (zX s st)
theorem Ee{s b:za}{st a:Pst}(h:zX s st=zX b a):s=b/\st=a:=by cases st;cases a;simp only[zX,zi,zF]at h;obtain⟨g,c,d,e,f⟩:=h;have c:=qE c;have d:=qE d;have e:=qE e;have f:=qE f;refine⟨wT g,?_⟩;simp only[Pst.mk.injEq];omega
noncomputable def Fpar {b:Type} (encA:b->zb) (pre:za->Pst->b->Prop) (c:za->Pst->b->Pst) (out:za->Pst->b->O):zb->zb->Option (zb×O):=
 pj (α:=za×Pst×b) (fun a=>zX a.1 a.2.1) (fun a=>encA a.2.2) (fun a=>a.1.length<=20000/\a.2.1.p<=a.1.length/\pre a.1 a.2.1 a.2.2) (fun a=>(zX a.1 (c a.1 a.2.1 a.2.2),out a.1 a.2.1 a.2.2))
noncomputable abbrev mP {a:Type} (encA:a->zb) (pre:za->Pst->a->Prop) (b:za->Pst->a->Pst) (out:za->Pst->a->O):AM.Spec:=nP TP (Fpar encA pre b out)
theorem xS{c:Type}{encA:c->zb}{pre:za->Pst->c->Prop}{d:za->Pst->c->Pst}{out:za->Pst->c->O}(f:∀a b,encA a=encA b->a=b)(j:∀b,(encA b).all O.isV=true){s:za}{st:Pst}(b:c){Y:Hp}{id Z:Nat}(k:Y id=some (wR s st))(hs:s.length<=20000)(Y':st.p<=s.length)(h:pre s st b) :
  mP encA pre d out (.ref id 0 0::encA b) Y Z=some (out s st b,zI Y id (some (wR s (d s st b))),Z):=
 sG (j b) k rfl (mc (encC:=fun a:List UInt8×Pst×c=>zX a.1 a.2.1) (encA:=fun a=>encA a.2.2) (a:=(s,st,b)) (fun x y l e=>by obtain⟨m,n,o⟩:=x;obtain⟨q,r,t⟩:=y;obtain⟨g,i⟩:=Ee l;simp only at g i;have e:=f _ _ e;simp only at e;rw[g,i,e]) ⟨hs,Y',h⟩) rfl rfl
theorem kU{c:Type}{encA:c->zb}{pre:za->Pst->c->Prop}{a:za->Pst->c->Pst}{out:za->Pst->c->O}{cs az cs':zb}{r:O}(h:Fpar encA pre a out cs az=some (cs',r)) :
  ∃s st b,cs=zX s st/\az=encA b/\s.length<=20000/\st.p<=s.length/\pre s st b/\cs'=zX s (a s st b)/\r=out s st b:=by
 obtain⟨⟨s,st,b⟩,e,f,⟨g,i,j⟩,d⟩:=pk h;injection d with d k;exact⟨s,st,b,e,f,g,i,j,d,k⟩
noncomputable abbrev mq:AM.Spec:=mP Oc (fun _ _ _=>True) (fun _ st b=>st.fail b.1 b.2) (fun _ _ _=>.qZ [])
theorem Ki{s:za}{st:Pst}(k:Nat)(x:Int){Y:Hp}{id Z:Nat}(a:Y id=some (wR s st))(hs:s.length<=20000)(Y':st.p<=s.length) :
  mq [.ref id 0 0,int k,int x] Y Z=some (.qZ [],zI Y id (some (wR s (st.fail k x))),Z):=xS Fx (fun _=>rfl) (k,x) a hs Y' trivial
theorem Vu:zh prog 182 mq:=
 yU (code:=_) ku ⟨func182,by kernel_rfl,rfl,by kernel_rfl⟩ TP _ fun cs az cs' r h=>by
  obtain⟨s,st,⟨k,x⟩,rfl,rfl,hs,Y,b,rfl,rfl⟩:=kU h;refine⟨by simp[Oc,f182],?_⟩;by_cases a:st.e=0
  ·simp[Oc,wF,qe,zX,a,Pst.fail,f182];exact yj rfl rfl
  ·simp[Oc,wF,qe,zX,a,ZR a,Pst.fail,f182];exact yj rfl rfl
theorem Oq{s:za}{p d i:Nat}{e:Int}(h:s[p]?=some 32):kK s ⟨p,d,e,i⟩=kK s ⟨p+1,d,e,i⟩:=by
 have a:=(zd.1 h).1;have hd:s.drop p=32::s.drop (p+1):=by rw[zg a,(zd.1 h).2]
 simp only[kK,hd,xI,Pst.mv];simp;omega
theorem A5{s:za}{st:Pst}(h:s[st.p]?≠some 32):kK s st=st:=by
 have:(s.drop st.p).takeWhile (·==32)=[]:=by
  cases hd:s.drop st.p with
  |nil=>rfl
  |cons c l=>
   have:s[st.p]?=some c:=by
    have a:(s.drop st.p)[0]?=some c:=by rw[hd];rfl
    simpa using a
   have b:¬c=32:=fun e=>h (by rw[this,e])
   simp[xI,b]
 simp[kK,this,Pst.mv]
theorem vq{s:za}{st:Pst}(h:st.p<=s.length):st.p<=(kK s st).p/\(kK s st).p<=s.length/\(kK s st).e=st.e/\(kK s st).i=st.i/\(kK s st).d=st.d:=by have:=(List.takeWhile_sublist (fun c:UInt8=>c==32) (l:=s.drop st.p)).length_le;simp only[kK,Pst.mv];simp at this;refine⟨by omega,by omega,trivial,trivial,trivial⟩
noncomputable abbrev A6:AM.Spec:=mP aU (fun _ _ _=>True) (fun s st _=>kK s st) (fun _ _ _=>.qZ [])
theorem ca{s:za}{st:Pst}{Y:Hp}{id Z:Nat}(a:Y id=some (wR s st))(hs:s.length<=20000)(Y':st.p<=s.length):A6 [.ref id 0 0] Y Z=some (.qZ [],zI Y id (some (wR s (kK s st))),Z):=xS v8 (fun _=>rfl) () a hs Y' trivial
theorem V7:zh prog 148 A6:=
 yU (code:=_) ku ⟨func148,by kernel_rfl,rfl,by kernel_rfl⟩ TP _ fun cs az cs' r h=>by
  obtain⟨s,st,⟨⟩,rfl,rfl,hs,Y,o,rfl,rfl⟩:=kU h;refine⟨by simp[aU,f148],?_⟩;clear h;simp;refine qu (fun k σ Y Z=>σ 0=.ref 0 0 0/\Z=1/\∃q,q=st.p+k/\Y=wF TP (zX s ⟨q,st.d,st.e,st.i⟩)/\q<=s.length/\kK s ⟨q,st.d,st.e,st.i⟩=kK s st) (s.length-st.p) ⟨by simp[aU],rfl,st.p,rfl,rfl,Y,rfl⟩ ?_;rintro k σ Y _ o ⟨g,rfl,q,w,rfl,t,j⟩;by_cases b:q<s.length
  ·obtain⟨c,l⟩:=yb (s[q]);have f:s[q]?=some c:=by rw[<-l];exact zm b
   have u:=q8 q;by_cases m:c=32
   ·subst m;have a:=Oq (d:=st.d) (e:=st.e) (i:=st.i) f;simp[g,wF,qe,zX,b,l,u,f148];have v:(q:Int)+1=st.p+(k+1):=by omega
    refine⟨by omega,by rw[v],by omega,?_⟩;rw[show st.p+(k+1)=q+1 by omega,<-j,a]
   ·have n:((c.toNat:Int)==32)=false:=nf 32 m;have a:=A5 (s:=s) (st:=⟨q,st.d,st.e,st.i⟩) (by simp only[f,ne_eq,qV];exact m);simp[g,wF,qe,zX,b,l,n,f148];rw[<-j,a];exact yj rfl rfl
  ·have a:=A5 (s:=s) (st:=⟨q,st.d,st.e,st.i⟩) (by rw[qY (by simp only;omega)];simp);simp[g,wF,qe,zX,b,f148];rw[<-j,a];exact yj rfl rfl
theorem TT(c:UInt8):decide (0<=Lib.indexByte [40,41,44,46,124,61,60,62] c)=b6 c:=by rw[D9];simp only[List.contains_cons,List.contains_nil,b6,Bool.or_false,Bool.or_assoc]
theorem H8(c:UInt8)(l:za):jx (c::l)=if([60,61]:za).isPrefixOf (c::l)=true\/([62,61]:za).isPrefixOf (c::l)=true then(c::l).take 2 else if b6 c=true then[c]else(c::l).takeWhile au:=by
 rw[jx];cases l with
 |nil=>simp[List.isPrefixOf]
 |cons x l=>
  simp only[List.isPrefixOf,List.head?_cons,qV,gj,zn,w7,yh,jq];by_cases a:x=61
  ·subst a;by_cases b:c=60
   ·subst b;simp
   ·by_cases d:c=62
    ·subst d;simp
    ·have f:¬60=c:=fun e=>b e.symm
     have g:¬62=c:=fun e=>d e.symm
     simp[b,d,f,g]
  ·have h:¬61=x:=fun e=>a e.symm
   simp[a,h]
noncomputable abbrev Cpk:Ctx:=qf prog [(148,A6),(222,hP (WY L9 fun _ _=>True)),(223,hP (FSB Rq)),(93,hP (F1b Wn))]
theorem zc2:AM.Good Cpk (fun g=>[222,223,93].contains g):=qI mixed ⟨V7,by simp,e8,fun _=>zq _ _,Wc,fun _=>zq _ _,JP,fun _=>zq _ _,trivial⟩
noncomputable abbrev sJ:AM.Spec:=mP aU (fun _ _ _=>True) (fun s st _=>kK s st) (fun s st _=>str (KH s st))
theorem Yf{s:za}{st:Pst}{Y:Hp}{id Z:Nat}(a:Y id=some (wR s st))(hs:s.length<=20000)(Y':st.p<=s.length):sJ [.ref id 0 0] Y Z=some (str (KH s st),zI Y id (some (wR s (kK s st))),Z):=xS v8 (fun _=>rfl) () a hs Y' trivial
theorem Jr:zh prog 200 sJ:=
 yU (code:=_) zc2 ⟨func200,by kernel_rfl,rfl,by kernel_rfl⟩ TP _ fun cs az cs' r h=>by
  obtain⟨s,st,⟨⟩,rfl,rfl,hs,Y,T,rfl,rfl⟩:=kU h;refine⟨by simp[aU,f200],?_⟩;clear h;have Q:zD=268435456:=rfl;obtain⟨i,H⟩:=yb (kK s st);obtain⟨rest,E⟩:=yb (s.drop i.p);have z:=vq (s:=s) Y;have I:rest.length<=20000:=by rw[<-E,List.length_drop];omega
  have J:A6 [.ref 0 0 0] (wF TP (zX s st)) 1=some (.qZ [],zI (wF TP (zX s st)) 0 (some (wR s (kK s st))),1):=ca rfl hs Y;rw[H]at J z;rw[show KH s st=jx rest by rw[KH,H,E]];simp only[H];refine q9 (fun σ Y Z=>σ 0=.ref 0 0 0/\σ 2=str []/\Y=wF TP (zX s st)/\Z=1) (by simp[aU]) ?_;rintro σ _ _ ⟨A,U,rfl,rfl⟩;refine q9 (fun σ Y Z=>σ 0=.ref 0 0 0/\Y 0=some (wR s i)/\Z=1) (by simp[A,J]) ?_;clear A U J σ;rintro σ Y1 _ ⟨A,j,rfl⟩;have u:=j;simp only[qe,zX,ze,zf,zu,Nat.reduceAdd]at u;have K:i.p<=s.length:=z.2.1;refine q9 (fun σ Y Z=>σ 3=str rest/\Y 0=some (wR s i)/\Z=1) ?_ ?_
  ·simp[A,u,K,E];exact⟨qy (by rw[<-E,List.length_drop];omega),rfl⟩
  clear A j u σ Y1;rintro σ Y1 _ ⟨d,j,rfl⟩;cases rest with
  |nil=>simp[d,f200];exact yj rfl j
  |cons c l=>
   have y:∀(Y:Hp) (Z:Nat),hP (WY L9 fun _ _=>True) [str (c::l),.v (.string ⟨#[60,61]⟩)] Y Z=some (q6 (([60,61]:za).isPrefixOf (c::l)),Y,Z):=fun Y Z=>bm (c::l) [60,61] Y Z (by omega) (by decide)
   have B:∀(Y:Hp) (Z:Nat),hP (WY L9 fun _ _=>True) [str (c::l),.v (.string ⟨#[62,61]⟩)] Y Z=some (q6 (([62,61]:za).isPrefixOf (c::l)),Y,Z):=fun Y Z=>bm (c::l) [62,61] Y Z (by omega) (by decide)
   have L:∀(Y:Hp) (Z:Nat),hP (FSB Rq) [.v (.string ⟨#[40,41,44,46,124,61,60,62]⟩),.v (.int .u8 c.toNat)] Y Z=some (int (Lib.indexByte [40,41,44,46,124,61,60,62] c),Y,Z):=fun Y Z=>iu Rq [40,41,44,46,124,61,60,62] c Y Z (by decide) rfl
   have f:=TT c;have b:=H8 c l;obtain⟨R,m⟩:=yb (([60,61]:za).isPrefixOf (c::l));obtain⟨S,n⟩:=yb (([62,61]:za).isPrefixOf (c::l));have F:R=true->2<=(c::l).length:=fun e=>by rw[e]at m;have:=(BL.1 m).length_le;simpa using this
   have l2:S=true->2<=(c::l).length:=fun e=>by rw[e]at n;have:=(BL.1 n).length_le;simpa using this
   rw[m]at y b;rw[n]at B b;cases R
   case true=>
    have F:=F rfl;simp only[true_or,qh]at b;have M:1<=l.length:=by simpa using F
    simp[d,y,M,f200];rw[b];exact yj rfl j
   cases S
   case true=>
    have l2:=l2 rfl;simp only[or_true,qh]at b;have M:1<=l.length:=by simpa using l2
    simp[d,y,B,M,f200];rw[b];exact yj rfl j
   simp only[zv,or_self,qz]at b;cases w:b6 c
   case true=>rw[w]at f b;simp only[qh]at b;simp[d,y,B,L,f,f200];rw[b];exact yj rfl j
   rw[w]at f b;simp only[zv,qz]at b;simp[d,y,B,L,f];rw[b];obtain⟨t,C⟩:=yb (c::l);rw[C]at d I⊢;refine qu (fun k σ Y Z=>σ 3=str t/\σ 4=int k/\Y=Y1/\Z=1/\t.takeWhile au=t.take k++(t.drop k).takeWhile au) t.length ⟨by simp[d],by simp,rfl,rfl,by simp⟩ ?_;clear y B L f b m n F l2 w C d σ;rintro k σ _ _ T ⟨d,N,rfl,rfl,o⟩;by_cases g:k<t.length
   ·obtain⟨x,G⟩:=yb (t[k]);have P:=q8 k;rw[zg g,G,xI (a:=x)]at o;have D:au x=Wn x.toNat:=rfl;cases q:Wn x.toNat
    ·rw[D,q]at o;simp only[zv,qz,wg]at o;simp[d,N,g,G,q,Nat.le_of_lt g,f200];rw[o];exact yj rfl j
    ·rw[D,q]at o;simp only[qh]at o;simp[d,N,g,G,q,P];exact⟨by omega,by rw[o,qb g,G,z8];rfl⟩
   ·obtain rfl:k=t.length:=by omega
    rw[zp,List.takeWhile_nil,wg,wq]at o;simp[d,N,f200];rw[o];exact yj rfl j
noncomputable abbrev Cwr:Ctx:=qf prog [(148,A6),(182,mq)]
theorem zc3:Gd Cwr:=qD mixed ⟨V7,Vu,trivial⟩
noncomputable abbrev A7:AM.Spec:=mP aU (fun _ _ _=>True) (fun s st _=>sy s st) (fun _ _ _=>.qZ [])
theorem Yg{s:za}{st:Pst}{Y:Hp}{id Z:Nat}(a:Y id=some (wR s st))(hs:s.length<=20000)(Y':st.p<=s.length):A7 [.ref id 0 0] Y Z=some (.qZ [],zI Y id (some (wR s (sy s st))),Z):=xS v8 (fun _=>rfl) () a hs Y' trivial
theorem WO:zh prog 149 A7:=
 yU (code:=_) zc3 ⟨func149,by kernel_rfl,rfl,by kernel_rfl⟩ TP _ fun cs az cs' r h=>by obtain⟨s,st,⟨⟩,rfl,rfl,hs,Y,d,rfl,rfl⟩:=kU h;refine⟨by simp[aU,f149],?_⟩;clear h;have a:=vq (s:=s) Y;have b:A6 [.ref 0 0 0] (wF TP (zX s st)) 1=some (.qZ [],zI (wF TP (zX s st)) 0 (some (wR s (kK s st))),1):=ca rfl hs Y;have c:=Ki (Y:=zI (wF TP (zX s st)) 0 (some (wR s (kK s st)))) (id:=0) (Z:=1) (kK s st).p 10 (by simp) hs a.2.1;simp only[wF,qe,zX,ze,zf,zu,Nat.reduceAdd,yx]at b c;simp[aU,wF,qe,zX,b,c,f149];exact yj rfl (by simp[qe,zX,sy])
noncomputable abbrev Ctk:Ctx:=qf prog [(200,sJ)]
theorem zc4:Gd Ctk:=qD mixed ⟨Jr,trivial⟩
noncomputable abbrev A8:AM.Spec:=mP aS (fun _ _ _=>True) (fun s st w=>(vG s st w).2) (fun s st w=>q6 (vG s st w).1)
theorem Zp{s:za}{st:Pst}(w:za){Y:Hp}{id Z:Nat}(a:Y id=some (wR s st))(hs:s.length<=20000)(Y':st.p<=s.length):A8 [.ref id 0 0,str w] Y Z=some (q6 (vG s st w).1,zI Y id (some (wR s (vG s st w).2)),Z):=xS D8 (fun _=>rfl) w a hs Y' trivial
theorem H9(l:za):(jx l).length<=l.length:=by
 unfold jx;split
 ·simp
 ·rename_i c l;split
  ·rename_i h;cases l with
   |nil=>simp at h
   |cons x l=>simp
  ·split
   ·simp
   ·exact(List.takeWhile_sublist _).length_le
theorem mr{s:za}{st:Pst}(h:st.p<=s.length):(kK s st).p+(KH s st).length<=s.length:=by have a:=H9 (s.drop (kK s st).p);have b:=(vq (s:=s) h).2.1;rw[List.length_drop]at a;unfold KH;omega
theorem kN{s:za}{st:Pst}(w:za)(h:st.p<=s.length):st.p<=(vG s st w).2.p/\(vG s st w).2.p<=s.length/\(vG s st w).2.e=st.e/\(vG s st w).2.d=st.d/\((vG s st w).1=true->st.e=0/\st.p+w.length<=(vG s st w).2.p):=by
 have a:=vq (s:=s) h;have c:=mr (s:=s) h;unfold vG;split
 ·exact⟨zk _,h,rfl,rfl,fun e=>by cases e⟩
 ·rename_i f;split
  ·rename_i b;rw[<-b];simp only[Pst.mv];exact⟨by omega,by omega,a.2.2.1,a.2.2.2.2,fun _=>⟨by omega,by omega⟩⟩
  ·exact⟨a.1,a.2.1,a.2.2.1,a.2.2.2.2,fun e=>by cases e⟩
theorem V8:zh prog 176 A8:=
 yU (code:=_) zc4 ⟨func176,by kernel_rfl,rfl,by kernel_rfl⟩ TP _ fun cs az cs' r h=>by
  obtain⟨s,st,w,rfl,rfl,hs,Y,k,rfl,rfl⟩:=kU h;refine⟨by simp[aS,f176],?_⟩;clear h;have j:=vq (s:=s) Y;have f:=mr (s:=s) Y;have d:sJ [.ref 0 0 0] (wF TP (zX s st)) 1=some (str (KH s st),zI (wF TP (zX s st)) 0 (some (wR s (kK s st))),1):=Yf rfl hs Y;simp only[qe,zX,ze,zf,zu,Nat.reduceAdd,wF,yx]at d;by_cases a:st.e=0
  ·rw[a]at d;by_cases b:KH s st=w
   ·have c:vG s st w=(true,(kK s st).mv ((kK s st).p+w.length)):=by simp[vG,a,b]
    rw[c];rw[b]at f;have g:=wN (((kK s st).p:Int)+w.length);simp[aS,wF,qe,zX,a,d,b,g,Pst.mv,f176];exact yj rfl rfl
   ·have c:vG s st w=(false,kK s st):=by simp[vG,a,b]
    rw[c];have i:=QA b;simp[aS,wF,qe,zX,a,d,i,f176];exact yj rfl (by first|rfl|simp[qe,zX])
  ·have c:vG s st w=(false,st):=by simp[vG,a]
   rw[c];simp[aS,wF,qe,zX,a,ZR a,bne,f176];exact yj rfl rfl
noncomputable abbrev Cmu:Ctx:=qf prog [(176,A8),(149,A7)]
theorem zc5:Gd Cmu:=qD mixed ⟨V8,WO,trivial⟩
noncomputable abbrev Ot:AM.Spec:=mP aS (fun _ _ _=>True) (fun s st w=>Xi s st w) (fun _ _ _=>.qZ [])
theorem Js{s:za}{st:Pst}(w:za){Y:Hp}{id Z:Nat}(a:Y id=some (wR s st))(hs:s.length<=20000)(Y':st.p<=s.length):Ot [.ref id 0 0,str w] Y Z=some (.qZ [],zI Y id (some (wR s (Xi s st w))),Z):=xS D8 (fun _=>rfl) w a hs Y' trivial
theorem YI(st:Pst)(k:Nat)(x:Int):(st.fail k x).p=st.p/\(st.fail k x).d=st.d:=by unfold Pst.fail;split<;>exact⟨rfl,rfl⟩
theorem Vv{s:za}{st:Pst}(h:st.p<=s.length):st.p<=(sy s st).p/\(sy s st).p<=s.length/\(sy s st).d=st.d/\(sy s st).e≠0:=by
 have a:=vq (s:=s) h;unfold sy;rw[(YI _ _ _).1,(YI _ _ _).2];refine⟨a.1,a.2.1,a.2.2.2.2,?_⟩;unfold Pst.fail;split
 ·simp
 ·assumption
theorem ZI{s:za}{st:Pst}(w:za)(h:st.p<=s.length):st.p<=(Xi s st w).p/\(Xi s st w).p<=s.length/\(Xi s st w).d=st.d/\((Xi s st w).e=0->st.e=0/\st.p+w.length<=(Xi s st w).p):=by
 have a:=kN (s:=s) w h;have b:=Vv (s:=s) a.2.1;unfold Xi;split
 ·rename_i c;have:=a.2.2.2.2 c;exact⟨a.1,a.2.1,a.2.2.2.1,fun _=>this⟩
 ·exact⟨by omega,b.2.1,by rw[b.2.2.1];exact a.2.2.2.1,fun e=>absurd e b.2.2.2⟩
theorem dM:zh prog 180 Ot:=
 yU (code:=_) zc5 ⟨func180,by kernel_rfl,rfl,by kernel_rfl⟩ TP _ fun cs az cs' r h=>by
  obtain⟨s,st,w,rfl,rfl,hs,Y,e,rfl,rfl⟩:=kU h;refine⟨by simp[aS,f180],?_⟩;clear h;have b:=kN (s:=s) w Y;have a:A8 [.ref 0 0 0,str w] (wF TP (zX s st)) 1=some (q6 (vG s st w).1,zI (wF TP (zX s st)) 0 (some (wR s (vG s st w).2)),1):=Zp w rfl hs Y;have c:=Yg (Y:=zI (wF TP (zX s st)) 0 (some (wR s (vG s st w).2))) (id:=0) (Z:=1) (by simp) hs b.2.1;simp only[wF,qe,zX,ze,zf,zu,Nat.reduceAdd,yx]at a c;unfold Xi;cases d:(vG s st w).1
  ·rw[d]at a;simp[aS,wF,qe,zX,a,c,f180];exact yj rfl (by simp[qe,zX])
  ·rw[d]at a;simp[aS,wF,qe,zX,a,f180];exact yj rfl (by simp[qe,zX])
noncomputable abbrev Cwo:Ctx:=qf prog [(200,sJ),(149,A7),(93,hP (F1b Wn))]
theorem zc6:AM.Good Cwo (fun g=>[93].contains g):=qI mixed ⟨Jr,by simp,WO,by simp,JP,fun _=>zq _ _,trivial⟩
noncomputable abbrev TU:AM.Spec:=mP aU (fun _ _ _=>True) (fun s st _=>(fx s st).2) (fun s st _=>str (fx s st).1)
theorem mu{s:za}{st:Pst}{Y:Hp}{id Z:Nat}(a:Y id=some (wR s st))(hs:s.length<=20000)(Y':st.p<=s.length):TU [.ref id 0 0] Y Z=some (str (fx s st).1,zI Y id (some (wR s (fx s st).2)),Z):=xS v8 (fun _=>rfl) () a hs Y' trivial
theorem sK{s:za}{st:Pst}(h:st.p<=s.length):st.p<=(fx s st).2.p/\(fx s st).2.p<=s.length/\(fx s st).2.d=st.d/\st.p+(fx s st).1.length<=(fx s st).2.p:=by
 have a:=vq (s:=s) h;have c:=mr (s:=s) h;have b:=Vv (s:=s) a.2.1;unfold fx;split
 ·exact⟨by simp only;omega,b.2.1,b.2.2.1.trans a.2.2.2.2,by simp only[zf];omega⟩
 ·simp only[Pst.mv];exact⟨by omega,by omega,a.2.2.2.2,by omega⟩
theorem px:zh prog 179 TU:=
 yU (code:=_) zc6 ⟨func179,by kernel_rfl,rfl,by kernel_rfl⟩ TP _ fun cs az cs' r h=>by
  obtain⟨s,st,⟨⟩,rfl,rfl,hs,Y,u,rfl,rfl⟩:=kU h;refine⟨by simp[aU,f179],?_⟩;clear h;have d:=vq (s:=s) Y;have f:=mr (s:=s) Y;have g:sJ [.ref 0 0 0] (wF TP (zX s st)) 1=some (str (KH s st),zI (wF TP (zX s st)) 0 (some (wR s (kK s st))),1):=Yf rfl hs Y;have k:=Yg (Y:=zI (wF TP (zX s st)) 0 (some (wR s (kK s st)))) (id:=0) (Z:=1) (by simp) hs d.2.1;simp only[qe,zX,ze,zf,zu,Nat.reduceAdd,wF,yx]at g k;unfold fx;obtain⟨a,m⟩:=yb (kK s st);obtain⟨w,q⟩:=yb (KH s st);rw[m]at d;rw[m,q]at f;rw[m]at k;rw[m,q]at g;rw[m,q];have i:a.e=st.e:=d.2.2.1;by_cases j:st.e=0
  ·rw[i,j]at g k;cases w with
   |nil=>rw[zl (.inr rfl)];simp[aU,wF,qe,zX,j,g,k,f179];exact yj rfl (by first|rfl|simp[qe,zX])
   |cons c l=>
    have n:NP (c::l)=Wn c.toNat:=rfl;have t:i6.wrap ((a.p:Int)+((l.length:Int)+1))=(a.p:Int)+((l.length:Int)+1):=wM (by simp at f;omega) (by simp at f;omega);cases b:Wn c.toNat
    ·rw[zl (.inr (by rw[n,b]))];simp[aU,wF,qe,zX,j,g,k,b,f179];exact yj rfl (by first|rfl|simp[qe,zX])
    ·rw[zj (by rw[n,b];simp[j])];simp[aU,wF,qe,zX,g,b,t,Pst.mv,i,j,f179];exact yj rfl (by first|rfl|simp[qe,zX])
  ·have o:¬a.e=0:=by rw[i];exact j
   rw[zl (.inl j)];simp[aU,wF,qe,zX,g,k,o,ZR o,bne,f179];exact yj rfl (by first|rfl|simp[qe,zX])
theorem wu8m(n:Nat):IntKind.u8.wrap (n:Int)=((UInt8.ofNat n).toNat:Int):=by simp[IntKind.wrap,IntKind.bits,IntKind.signed]
theorem or8'(c:UInt8):IntKind.u8.wrap ((c.toNat % 2 ^ IntKind.u8.bits||| 32 % 2 ^ IntKind.u8.bits:Nat):Int)=((c||| 32).toNat:Int):=by
 have h:(c.toNat % 2 ^ IntKind.u8.bits||| 32 % 2 ^ IntKind.u8.bits:Nat)=(c||| 32).toNat:=by rw[UInt8.toNat_or,show(2 ^ IntKind.u8.bits:Nat)=256 from rfl,fF c.toNat_lt];rfl
 rw[h];exact wu8 _ (Fy _)
def Ia:za:=[48,49,50,51,52,53,54,55,56,57,97,98,99,100,101,102]
def dOf(c:UInt8):Int:=if jP c=true then(c.toNat-48:Nat)else if 97<=(c||| 32).toNat/\(c||| 32).toNat<=102 then Lib.indexByte Ia (c||| 32)else -1
theorem TV(c:UInt8):dOf c=match sv c with
  |some d=>(d:Int)
  |none=>-1:=by
 unfold dOf sv;split
 ·rfl
 ·have e:(97<=(c||| 32)/\(c||| 32)<=102)↔(97<=(c||| 32).toNat/\(c||| 32).toNat<=102):=by rw[wH,wH];rfl
  by_cases h:97<=(c||| 32).toNat/\(c||| 32).toNat<=102
  ·rw[zl h,zl (e.2 h)];have a:∀x:UInt8,97<=x.toNat->x.toNat<=102->Lib.indexByte Ia x=((x.toNat-87:Nat):Int):=fun x f g=>by
    have:x.toNat=97\/x.toNat=98\/x.toNat=99\/x.toNat=100\/x.toNat=101\/x.toNat=102:=by omega
    rcases this with h|h|h|h|h|h
    ·obtain rfl:x=97:=yg.1 h;decide
    ·obtain rfl:x=98:=yg.1 h;decide
    ·obtain rfl:x=99:=yg.1 h;decide
    ·obtain rfl:x=100:=yg.1 h;decide
    ·obtain rfl:x=101:=yg.1 h;decide
    ·obtain rfl:x=102:=yg.1 h;decide
   rw[a _ h.1 h.2]
  ·rw[zj h,zj fun b=>h (e.1 b)]
theorem TW{c:UInt8}{d:Nat}(h:sv c=some d):d<16:=by
 unfold sv at h;rw[YH]at h;split at h
 ·rename_i a;simp at a h;omega
 ·split at h
  ·rename_i a;rw[wH,wH]at a;have b:(102:UInt8).toNat=102:=rfl;have e:=Option.some.inj h;omega
  ·cases h
noncomputable abbrev Cej:Ctx:=qf prog [(254,Vm),(253,Vn),(223,hP (FSB Rq))]
theorem zc7:AM.Good Cej (fun g=>[253,223].contains g):=qI mixed ⟨xD,by simp,xE,fun _=>xC _ _,Wc,fun _=>zq _ _,trivial⟩
noncomputable abbrev Ou:AM.Spec:=mJ aU (fun _ _ _=>True) (fun s st _=>(WC s st).2) (fun s st _=>dJ (WC s st).1)
theorem Ib{s:za}{st:Jst}{Y:Hp}{id Z:Nat}(a:Y id=some (wo s st))(hs:s.length<=1048576)(Y':st.p<=s.length):Ou [.ref id 0 0] Y Z=some (dJ (WC s st).1,zI Y id (some (wo s (WC s st).2)),Z):=Zx v8 (fun _=>rfl) () a hs Y' trivial
theorem Ov{s:za}{k n:Nat}{st:Jst}{c:UInt8}{d:Nat}(h:s[st.wA.p]?=some c)(hd:sv c=some d):fw s (k+1) n st=fw s k (n*16+d) st.wA:=by simp[fw,h,hd]
theorem Ow{s:za}{k n:Nat}{st:Jst}(h:(s[st.wA.p]?).bind sv=none):fw s (k+1) n st=(none,st.wA.fail s.length st.wA.p 10):=by rw[fw,h]
theorem Ef:zh prog 272 Ou:=
 yU (code:=_) zc7 ⟨func272,by kernel_rfl,rfl,by kernel_rfl⟩ TJ _ fun cs az cs' r h=>by
  obtain⟨s,st,⟨⟩,rfl,rfl,hs,Y,_,rfl,rfl⟩:=Qf h;refine⟨by simp[aU,f272],?_⟩;clear h;obtain⟨c,T⟩:=yb (jD s st);have g0:=Zy (Y:=wF TJ (zO s st)) (Z:=1) rfl hs Y;rw[T]at g0;have o:=vK (Y:=wF TJ (zO s st)) (id:=0) (Z:=1) st.p 10 rfl hs Y (by omega);refine q9 (fun σ Y Z=>σ 0=.ref 0 0 0/\Y=wF TJ (zO s st)/\Z=1) (by simp[aU]) ?_;rintro σ _ _ ⟨b,rfl,rfl⟩;refine q9 (fun σ' Y Z=>σ' 0=.ref 0 0 0/\σ' 3=dJ c/\Y=wF TJ (zO s st)/\Z=1) (by simp[b,g0,dJ]) ?_;clear b σ;rintro σ _ _ ⟨b,B,rfl,rfl⟩;simp only[wF,qe,zO,dJ,ze,zf,zu,Nat.reduceAdd]at o B⊢;have U:=wN ((st.p:Int)+1);by_cases m:st.p<s.length
  case neg=>
   have t:s.length<=st.p:=by omega
   have G:WC s st=(0,st.fail s.length st.p 10):=by rw[WC,zj (fun h=>m h.1),zl (.inl t)]
   rw[G];simp[b,B,m,t,o,f272];exact wc rfl rfl .id rfl
  have t:¬s.length<=st.p:=by omega
  by_cases C:c=34\/c=92\/c=47
  ·have G:WC s st=(c,st.wA):=by rw[WC,T,zl ⟨m,C⟩]
   rw[G];rcases C with rfl|rfl|rfl
   ·simp[b,B,m,U,Jst.wA,f272];exact wc rfl rfl .id rfl
   ·simp[b,B,m,U,Jst.wA,f272];exact wc rfl rfl .id rfl
   ·simp[b,B,m,U,Jst.wA,f272];exact wc rfl rfl .id rfl
  simp only[not_or]at C;have q1:((c.toNat:Int)==34)=false:=nf 34 C.1;have q2:((c.toNat:Int)==92)=false:=nf 92 C.2.1;have q3:((c.toNat:Int)==47)=false:=nf 47 C.2.2;by_cases W:c=117
  case neg=>
   have q4:((c.toNat:Int)==117)=false:=nf 117 W;have G:WC s st=(0,st.fail s.length st.p 10):=by rw[WC,T,zj (by simp[C]),zl (.inr W)]
   rw[G];simp[b,B,m,t,q1,q2,q3,q4,bne,o,f272];exact wc rfl rfl .id rfl
  have G:WC s st=match(fw s 4 0 st).1 with
    |none=>(0,(fw s 4 0 st).2)
    |some n=>(UInt8.ofNat n,if n<32\/126<n then(fw s 4 0 st).2.fail s.length st.p 10 else(fw s 4 0 st).2):=by
   rw[WC,T,zj (by simp[C]),zj (by simp[W,t])];cases (fw s 4 0 st).1<;>rfl
  rw[G];subst W;refine q9 (fun σ' Y Z=>σ' 0=.ref 0 0 0/\Y=wF TJ (zO s st)/\Z=1) (by simp[b,B,m,t,wF,qe,zO]) ?_;clear b B σ;rintro σ _ _ ⟨b,rfl,rfl⟩;simp only[wF,qe,zO,ze,zf,zu,Nat.reduceAdd];simp[b];refine qu (fun k σ' Y Z=>σ' 0=.ref 0 0 0/\Z=1/\∃n q,σ' 4=int st.p/\σ' 5=int (n:Nat)/\σ' 66=int k/\q=st.p+k/\q<s.length/\n<16 ^ k/\Y=wF TJ (zO s ⟨q,st.e,st.i⟩)/\fw s (4-k) n ⟨q,st.e,st.i⟩=fw s 4 0 st) 4 ⟨by simp[b],by simp,0,st.p,by simp,by simp,by simp,rfl,m,by simp,by simp[wF,qe,zO],rfl⟩ ?_;clear b g0 o U σ;rintro k σ _ _ hk ⟨b,rfl,n,q,j,l,a,hq',hql,hn,rfl,hx⟩;have hn16:n<65536:=wV hn (mY (by omega) hk);have X:=q8 q;by_cases hk4:k<4
  ·have K:(k:Int)<4:=by omega
   have w2:=q8 k;obtain⟨c2,L⟩:=yb (jD s ⟨q+1,st.e,st.i⟩);have g:=Zy (st:=⟨q+1,st.e,st.i⟩) (Y:=wF TJ (zO s ⟨q+1,st.e,st.i⟩)) (Z:=1) rfl hs (by simp only;omega);rw[L]at g;have o:=vK (st:=⟨q+1,st.e,st.i⟩) (Y:=wF TJ (zO s ⟨q+1,st.e,st.i⟩)) (id:=0) (Z:=1) (q+1) 10 rfl hs (by simp only;omega) (by omega);have y:=or8' c2;have f:dOf c2=if jP c2=true then((c2.toNat-48:Nat):Int)else if 97<=(c2||| 32).toNat/\(c2||| 32).toNat<=102 then Lib.indexByte Ia (c2||| 32)else -1:=rfl
   obtain⟨x,D⟩:=yb (c2||| 32);rw[D]at y f;have gi:∀(Y:Hp) (Z:Nat),hP (FSB Rq) [.v (.string ⟨#[48,49,50,51,52,53,54,55,56,57,97,98,99,100,101,102]⟩),.v (.int .u8 x.toNat)] Y Z=some (int (Lib.indexByte Ia x),Y,Z):=fun Y Z=>iu Rq Ia x Y Z (by decide) rfl
   refine q9 (fun σ' Y Z=>(σ' 0=.ref 0 0 0/\σ' 4=int st.p/\σ' 5=int n/\σ' 66=int k)/\σ' 67=q6 true/\Y=wF TJ (zO s ⟨q,st.e,st.i⟩)/\Z=1) (by simp[b,j,l,a,K]) ?_;clear b j l a σ;rintro σ _ _ ⟨⟨b,j,l,a⟩,M,rfl,rfl⟩;refine q9 (fun σ' Y Z=>(σ' 0=.ref 0 0 0/\σ' 4=int st.p/\σ' 5=int n/\σ' 66=int k)/\Y=wF TJ (zO s ⟨q,st.e,st.i⟩)/\Z=1) (by simp[b,j,l,a,M]) ?_;clear b j l a M σ;rintro σ _ _ ⟨⟨b,j,l,a⟩,rfl,rfl⟩;rw[fJ,oo];refine q9 (fun σ' Y Z=>(σ' 0=.ref 0 0 0/\σ' 4=int st.p/\σ' 5=int n/\σ' 66=int k)/\Y=wF TJ (zO s ⟨q+1,st.e,st.i⟩)/\Z=1) (by simp[b,j,l,a,X,wF,qe,zO]) ?_;clear b j l a σ;rintro σ _ _ ⟨⟨b,j,l,a⟩,rfl,rfl⟩;refine q9 (fun σ' Y Z=>(σ' 0=.ref 0 0 0/\σ' 4=int st.p/\σ' 5=int n/\σ' 66=int k)/\σ' 6=int (Lib.indexByte Ia x)/\Y=wF TJ (zO s ⟨q+1,st.e,st.i⟩)/\Z=1) (by simp[b,j,l,a,g,gi,eV,y]) ?_;clear b j l a σ;rintro σ _ _ ⟨⟨b,j,l,a⟩,w,rfl,rfl⟩;refine q9 (fun σ' Y Z=>(σ' 0=.ref 0 0 0/\σ' 4=int st.p/\σ' 5=int n/\σ' 66=int k)/\σ' 6=int (dOf c2)/\Y=wF TJ (zO s ⟨q+1,st.e,st.i⟩)/\Z=1) ?_ ?_
   ·have hlt8:=Fy c2;have hd:=YH c2;by_cases c1:48<=c2.toNat
    ·have E:(48:Int)<=c2.toNat:=by omega
     by_cases c3:c2.toNat<=57
     ·have N:(c2.toNat:Int)<=57:=by omega
      have w3:IntKind.u8.wrap ((c2.toNat:Int)-48)=((c2.toNat-48:Nat):Int):=by rw[show(c2.toNat:Int)-48=((c2.toNat-48:Nat):Int) by omega];exact wu8 _ (by omega)
      have w4:=wN ((c2.toNat-48:Nat):Int);simp[c1,c3]at hd;rw[hd,zl rfl]at f;simp[b,j,l,a,w,g,E,N,w3,w4,f]
     ·have N:¬(c2.toNat:Int)<=57:=by omega
      simp[c1,c3]at hd;rw[hd,zj (by decide)]at f;by_cases P:97<=x.toNat
      ·have z:¬(x.toNat:Int)<97:=by omega
       by_cases Q:x.toNat<=102
       ·have H:¬(102:Int)<x.toNat:=by omega
        rw[zl ⟨P,Q⟩]at f;simp[b,j,l,a,w,g,E,N,z,H,eV,y,f]
       ·have H:(102:Int)<x.toNat:=by omega
        rw[zj (fun h=>Q h.2)]at f;simp[b,j,l,a,w,g,E,N,z,H,eV,y,f]
      ·have z:(x.toNat:Int)<97:=by omega
       rw[zj (fun h=>P h.1)]at f;simp[b,j,l,a,w,g,E,N,z,eV,y,f]
    ·have E:¬(48:Int)<=c2.toNat:=by omega
     simp[c1]at hd;rw[hd,zj (by decide)]at f;by_cases P:97<=x.toNat
     ·have z:¬(x.toNat:Int)<97:=by omega
      by_cases Q:x.toNat<=102
      ·have H:¬(102:Int)<x.toNat:=by omega
       rw[zl ⟨P,Q⟩]at f;simp[b,j,l,a,w,g,E,z,H,eV,y,f]
      ·have H:(102:Int)<x.toNat:=by omega
       rw[zj (fun h=>Q h.2)]at f;simp[b,j,l,a,w,g,E,z,H,eV,y,f]
     ·have z:(x.toNat:Int)<97:=by omega
      rw[zj (fun h=>P h.1)]at f;simp[b,j,l,a,w,g,E,z,eV,y,f]
   clear b j l a w σ;rintro σ _ _ ⟨⟨b,j,l,a⟩,w,rfl,rfl⟩;clear g gi y f D x;have u:=TV c2;have F:∀I,(s[(Jst.wA ⟨q,st.e,st.i⟩).p]?).bind sv=none->I=(Jst.fail s.length ⟨q+1,st.e,st.i⟩ (q+1) 10)->fw s 4 0 st=(none,I):=fun I h1 h2=>by rw[<-hx,show 4-k=(3-k)+1 by omega,Ow h1,h2];rfl
   by_cases hq1:q+1<s.length
   case neg=>
    have A:(s.length:Int)<=q+1:=by omega
    have J:=F _ (by rw[qY (by simp only[Jst.wA];omega)];rfl) rfl;rw[J];simp only[wF,qe,zO,ze,zf,zu,Nat.reduceAdd,jo,qO]at o⊢;simp[b,j,l,a,w,A,o,f272];exact wc rfl rfl .id rfl
   have A:¬(s.length:Int)<=q+1:=by omega
   have R:s[q+1]?=some c2:=by rw[<-L,jD,zm hq1];rfl
   cases S:sv c2 with
   |none=>rw[S]at u;simp only at u;have J:=F _ (by simp only[Jst.wA,R,zW,S]) rfl;rw[J];simp only[wF,qe,zO,ze,zf,zu,Nat.reduceAdd,jo,qO]at o⊢;simp[b,j,l,a,w,A,u,o,f272];exact wc rfl rfl .id rfl
   |some d=>
    rw[S]at u;simp only at u;have hd16:=TW S;have hd0:¬(d:Int)<0:=by omega
    have w3:=wN ((n:Int)*16);have w4:i6.wrap ((n:Int)*16+d)=((n*16+d:Nat):Int):=by rw[wM (by omega) (by omega)];omega
    have hx2:=Ov (s:=s) (k:=3-k) (n:=n) (st:=⟨q,st.e,st.i⟩) R S;simp only[wF,qe,zO,ze,zf,zu,Nat.reduceAdd,jo,qO];simp[b,j,l,a,w,A,u,hd0,w2,w3,w4];refine⟨by omega,n*16+d,by omega,by omega,by rw[s8];omega,by rw[show(q:Int)+1=st.p+(k+1) by omega],?_⟩;rw[show st.p+(k+1)=q+1 by omega,<-hx,show 4-k=(3-k)+1 by omega,hx2];rfl
  ·obtain rfl:k=4:=by omega
   have hr:fw s 4 0 st=(some n,⟨q+1,st.e,st.i⟩):=hx.symm;rw[hr];have o:=vK (st:=⟨q+1,st.e,st.i⟩) (Y:=wF TJ (zO s ⟨q+1,st.e,st.i⟩)) (id:=0) (Z:=1) st.p 10 rfl hs (by simp only;omega) (by omega);have wb:=wu8m n;simp only[wF,qe,zO,ze,zf,zu,Nat.reduceAdd,jo,qO]at o⊢;by_cases n1:n<32
   ·have m1:(n:Int)<32:=by omega
    simp[b,j,l,a,X,m1,n1,o,wb,f272];exact wc rfl rfl .id rfl
   ·have m1:¬(n:Int)<32:=by omega
    by_cases n2:126<n
    ·have m2:(126:Int)<n:=by omega
     simp[b,j,l,a,X,m1,m2,n1,n2,o,wb,f272];exact wc rfl rfl .id rfl
    ·have m2:¬(126:Int)<n:=by omega
     simp[b,j,l,a,X,m1,m2,n1,n2,wb,f272];exact wc rfl rfl .id rfl
end Go.Q
