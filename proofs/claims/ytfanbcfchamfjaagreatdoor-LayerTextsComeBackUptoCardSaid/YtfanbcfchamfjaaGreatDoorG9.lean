/- Lemmas. -/
import Derived.Test.YtfanbcfchamfjaaGreatDoorG8
set_option maxRecDepth 100000
set_option maxHeartbeats 4000000
open Go Proofs Proofs.YtfanbcfchamfjaaGreatDoor Proofs.Tryz RowKit AM SpanLaw Q Zz
open Go.IntKind renaming i64→i6
namespace Go.Q
def K9(op:Int):Bool:=xo op 2 6||op==12
def vE(op:Int):Bool:=xo op 7 11
def Q0(op:Int):Bool:=xo op 3 6
noncomputable abbrev Cwi:Ctx:=qf prog [(70,hP (F3 xo))]
theorem DC:AM.Good Cwi (fun g=>[70].contains g):=qI mixed ⟨Ww,fun _=>zq _ _,trivial⟩
def Cb(f:Int->Bool):zb->Option O
 |[.v (.int .i64 a)]=>some (q6 (f a))
 |_=>none
theorem fT{f:Int->Bool}{args:zb}{r:O}(h:Cb f args=some r):∃a,args=[int a]/\r=q6 (f a):=by
 unfold Cb at h;split at h
 ·injection h with h;exact⟨_,rfl,h.symm⟩
 ·cases h
@[simp]theorem zgo(f:Int->Bool)(a:Int)(Y:Hp)(Z:Nat):hP (Cb f) [.v (.int .i64 a)] Y Z=some (q6 (f a),Y,Z):=wL rfl rfl (.inl rfl)
theorem Ab:zh prog 107 (hP (Cb K9)):=
 kq (fn:=f107) DC (yt func107) false [] _ fun args r h=>by obtain⟨a,rfl,rfl⟩:=fT h;exact⟨by simp[f107],_,zs rfl (by simp[K9,f107]),qP _⟩
theorem YE:zh prog 73 (hP (Cb vE)):=
 kq (fn:=f73) DC (yt func73) false [] _ fun args r h=>by obtain⟨a,rfl,rfl⟩:=fT h;exact⟨by simp[f73],_,zs rfl (by simp[vE,f73]),qP _⟩
theorem Va:zh prog 108 (hP (Cb Q0)):=
 kq (fn:=f108) DC (yt func108) false [] _ fun args r h=>by obtain⟨a,rfl,rfl⟩:=fT h;exact⟨by simp[f108],_,zs rfl (by simp[Q0,f108]),qP _⟩
noncomputable abbrev Cms (n:Nat):Ctx:=qf prog [(42,hP (FCp (fun c=>.qZ [int c.parts,int c.levels]) n))]
theorem se(n:Nat)(c:Cnd)(h:c.parts<=zD/\c.parts<=n+1):zH (Cms n) f42 [.agg c.V]=some (.qZ [int c.parts,int c.levels]):=by
 have hpe:=VT c;have f:=JZ c;have q:=Dj c;have r:=iR c.args;obtain⟨s,w⟩:=h;unfold zD at s;refine zs rfl ?_;simp;refine qu (fun k σ Y Z=>σ 9=.sl 7 (c.args.map Cnd.V)/\σ 10=int c.args.length/\σ 11=int k/\σ 2=int ((1+jE (c.args.take k):Nat):Int)/\σ 3=int (jj (c.args.take k))) c.args.length
  ⟨by simp,by simp,by simp,by simp[jE],by simp[jj]⟩ ?_
 rintro k σ Y Z x ⟨l,d,e,g,i⟩;by_cases a:k<c.args.length
 ·obtain⟨m,t⟩:=zgh a;have y:=iQ (zo a);have u:=q8 k;have o:=oF c.args k;have j:=oF c.args (k+1);have b:=fun Y Z=>My (fun c=>.qZ [int c.parts,int c.levels]) n c.args[k] Y Z ⟨by unfold zD;omega,by omega⟩
  have p:i6.wrap (((1+jE (c.args.take k):Nat):Int)+c.args[k].parts)=((1+jE (c.args.take (k+1)):Nat):Int):=by rw[wM (by omega) (by omega),m];omega
  have v:(if(jj (c.args.take k))<c.args[k].levels then(c.args[k].levels:Int)else jj (c.args.take k))=(jj (c.args.take (k+1)):Int):=by rw[t];split<;>omega
  simp[g,i,l,d,e,a,b,u];exact⟨by omega,by rw[wM (by omega) (by omega),m];omega,v⟩
 ·obtain rfl:k=c.args.length:=by omega
  rw[wq]at g i;have p:i6.wrap ((jj c.args:Int)+1)=(c.levels:Int):=by rw[wM (by omega) (by omega),f];omega
  simp[g,i,l,d,e,p,jB,f42];omega
theorem lz:∀n,zh prog 42 (hP (FCp (fun c=>.qZ [int c.parts,int c.levels]) n)):=by
 intro n
 induction n with
 |zero=>
  exact VW ⟨_,func42,by kernel_rfl,by kernel_rfl⟩ fun args r h=>by obtain⟨c,_,⟨_,e⟩,_⟩:=qc h;have:=oG c;omega
 |succ n a=>have b:Gd (Cms n):=qD mixed ⟨a,trivial⟩;exact Z3 b func42 false [] fun c d=>⟨zM (zk 1) (by decide),_,se n c d,qP _⟩
theorem nF(n:Nat):zh prog 42 (hP (FC (fun c=>.qZ [int c.parts,int c.levels]) n)):=He (zcl _ n) (lz zD)
def w1F(c:Cnd):Bool:=!(c.kind==4)&&(!c.attr.isEmpty||c.op != 0||decide (0<c.jd.length)||!c.pat.isEmpty)
def w2F(c:Cnd):Bool:=c.kind != 5&&!c.name.isEmpty
def w3F(c:Cnd):Bool:=!xo c.kind 1 3&&decide (0<c.args.length)
def w4F(c:Cnd):Bool:=c.kind==4&&!K9 c.op&&decide (0<c.jd.length)
def w5F(c:Cnd):Bool:=c.kind==4&&!vE c.op&&!c.pat.isEmpty
def w6F(c:Cnd):Bool:=c.kind==3&&(c.args.length:Int) != 1
def w7F(c:Cnd):Bool:=c.kind==4&&Q0 c.op&&(c.jd.length:Int) != 1
def Q1(c:Cnd):Bool:=w1F c||w2F c||w3F c||w4F c||w5F c||w6F c||w7F c
noncomputable abbrev Cfo:Ctx:=qf prog [(70,hP (F3 xo)),(107,hP (Cb K9)),(73,hP (Cb vE)),(108,hP (Cb Q0))]
theorem zcH:AM.Good Cfo (fun g=>[70,107,73,108].contains g):=qI mixed ⟨Ww,fun _=>zq _ _,Ab,fun _=>zq _ _,YE,fun _=>zq _ _,Va,fun _=>zq _ _,trivial⟩
@[simp]theorem zgp:yH Cfo 107:=wD (by rfl) (zq _ _)
@[simp]theorem zgq:yH Cfo 73:=wD (by rfl) (zq _ _)
@[simp]theorem zgr:yH Cfo 108:=wD (by rfl) (zq _ _)
theorem lA(c:Cnd)(h:c.cb<=zD):zH Cfo f71 [.agg c.V]=some (int (if Q1 c=true then 3 else 0)):=by
 refine zs rfl ?_;have a:(!(c.kind==4)&&(!c.attr.isEmpty||c.op != 0||decide (0<c.jd.length)||!c.pat.isEmpty))=w1F c:=rfl;have d:(c.kind != 5&&!c.name.isEmpty)=w2F c:=rfl;have f:(!xo c.kind 1 3&&decide (0<c.args.length))=w3F c:=rfl;have i:(c.kind==4&&!K9 c.op&&decide (0<c.jd.length))=w4F c:=rfl;have k:(c.kind==4&&!vE c.op&&!c.pat.isEmpty)=w5F c:=rfl;have m:(c.kind==3&&(c.args.length:Int) != 1)=w6F c:=rfl;have o:(c.kind==4&&Q0 c.op&&(c.jd.length:Int) != 1)=w7F c:=rfl;cases b:w1F c
 case true=>simp[a,b,Q1,f71]
 cases e:w2F c
 case true=>simp[a,b,d,e,Q1,f71]
 cases g:w3F c
 case true=>simp[a,b,d,e,f,g,Q1,f71]
 cases j:w4F c
 case true=>simp[a,b,d,e,f,g,i,j,Q1,f71]
 cases l:w5F c
 case true=>simp[a,b,d,e,f,g,i,j,k,l,Q1,f71]
 cases n:w6F c
 case true=>simp[a,b,d,e,f,g,i,j,k,l,m,n,Q1,f71]
 cases p:w7F c
 case true=>simp[a,b,d,e,f,g,i,j,k,l,m,n,o,p,Q1,f71]
 simp[a,b,d,e,f,g,i,j,k,l,m,n,o,p,Q1,f71]
theorem fl:zh prog 71 (GC fun c=>int (if Q1 c=true then 3 else 0)):=
 kq (fn:=f71) zcH (yt func71) false [] _ fun args r h=>by obtain⟨c,rfl,a,rfl⟩:=iP h;exact⟨by simp[f71],_,lA c a.1,qP _⟩
noncomputable def lB (p:Option Val) (v:Val):Bool:=match p with
 |none=>false
 |some p=>decide (0<=wz p v)
def Nb(op:Int)(v:Val):Bool:=v.kind==0||Q0 op&&v.kind != 2
noncomputable def fm (op:Int):Option Val->List Val->Int
 |_,[]=>0
 |p,v::l=>if v.check=0 then(if Nb op v=true then 6 else if lB p v=true then 8 else fm op (some v) l)else v.check
noncomputable def Yb (op:Int) (l:List Val):Int:=if(100:Int)<l.length then 2 else fm op none l
def ew(l:List Val)(k:Nat):Option Val:=if k=0 then none else l[k-1]?
noncomputable def FIv (f:Int->List Val->O):zb->Option O:=qt (α:=Int×List Val) (fun a=>[int a.1,.sl 5 (a.2.map Val.V)]) (fun a=>kz a.2<=zD) (fun a=>f a.1 a.2)
theorem Nc(f:Int->List Val->O)(op:Int)(l:List Val)(Y:Hp)(Z:Nat)(h:kz l<=zD):hP (FIv f) [int op,.sl 5 (l.map Val.V)] Y Z=some (f op l,Y,Z):=
 aK (op,l) _ _ (by simp) (fun x y e=>by obtain⟨c,d⟩:=x;obtain⟨g,i⟩:=y;simp only[zi,zF]at e;obtain⟨b,a⟩:=e;injection a with _ a;rw[qE b,Jd a]) h (.inr (by simp))
noncomputable abbrev Ccv2:Ctx:=qf prog [(109,GV fun v=>int v.check),(108,hP (Cb Q0)),(110,hP (FCV zD))]
theorem SP:AM.Good Ccv2 (fun g=>[108,110].contains g):=qI mixed ⟨uy,by simp,Va,fun _=>zq _ _,W8 zD,fun _=>zq _ _,trivial⟩
@[simp]theorem zez:yH Ccv2 108:=wD (by rfl) (zq _ _)
theorem dk(op:Int)(l:List Val)(h:kz l<=zD):zH Ccv2 f72 [int op,.sl 5 (l.map Val.V)]=some (int (Yb op l)):=by
 have A:=kf l;unfold zD at h;refine zs rfl ?_;by_cases c:(100:Int)<l.length
 ·have x:Yb op l=2:=by unfold Yb;rw[zl c]
  simp[c,x,f72]
 have x:Yb op l=fm op none l:=by unfold Yb;rw[zj c]
 rw[x];simp[c];refine qu (fun k σ Y Z=>σ 0=int op/\σ 1=.sl 5 (l.map Val.V)/\σ 11=.sl 5 (l.map Val.V)/\σ 12=int l.length/\σ 13=int k/\fm op none l=fm op (ew l k) (l.drop k)) l.length
  ⟨by simp,by simp,by simp,by simp,by simp,by simp[ew]⟩ ?_
 rintro k σ Y Z L ⟨p,q,d,e,f,a⟩;by_cases b:k<l.length
 ·have M:=xh (zo b);have B:=q8 k;have i:=fun Y Z=>fN (fun v=>int v.check) l[k] Y Z (by unfold zD;omega)
  rw[zg b]at a;simp only[fm]at a;have r:ew l (k+1)=some l[k]:=by simp[ew,b]
  have m:(l[k].kind==0||Q0 op&&l[k].kind != 2)=Nb op l[k]:=rfl;by_cases n:l[k].check=0
  case neg=>rw[zj n]at a;have y:=Xo n;simp[p,q,d,e,f,b,i,y,a,f72]
  rw[zl n]at a;cases g:Nb op l[k]
  case true=>rw[g,zl rfl]at a;simp[p,q,d,e,f,b,i,n,m,g,a,f72]
  rw[g,zj (by simp)]at a;by_cases H:k=0
  ·subst H;have I:lB (ew l 0) l[0]=false:=rfl;rw[I,zj (by simp)]at a;simp[p,q,d,e,f,b,i,n,m,g,B];exact⟨by omega,by rw[a,show ew l 1=some l[0]from r];simp⟩
  ·obtain⟨j,rfl⟩:∃j,k=j+1:=⟨k-1,by omega⟩;have u:j<l.length:=by omega
   have J:=xh (zo u);have C:i6.wrap ((j:Int)+1-1)=(j:Int):=by rw[wM (by omega) (by omega)];omega
   have s:=wN (j:Int);have D:((j:Int)+1).toNat=j+1:=by omega
   have E:0<(j:Int)+1:=by omega
   have F:0<=(j:Int)+1:=by omega
   have G:(j:Int)+1<l.length:=by omega
   have t:=fun Y Z=>K6 zD l[j] l[j+1] Y Z ⟨by unfold zD;omega,by unfold zD;omega,by unfold zD;omega⟩
   have z:lB (ew l (j+1)) l[j+1]=decide (0<=wz l[j] l[j+1]):=by simp[ew,u,lB]
   rw[z]at a;by_cases w:0<=wz l[j] l[j+1]
   ·have o:decide (0<=wz l[j] l[j+1])=true:=by simpa using w
    rw[zl o]at a;simp[p,q,d,e,f,b,u,i,n,m,g,B,C,s,D,E,F,G,t,w,a,f72]
   ·have o:¬decide (0<=wz l[j] l[j+1])=true:=by simpa using w
    rw[zj o]at a;have K:=wN ((j:Int)+1+1);simp[p,q,d,e,f,b,u,i,n,m,g,K,C,s,D,E,F,G,t,w];exact⟨by omega,by rw[a,r]⟩
 ·obtain rfl:k=l.length:=by omega
  rw[zp]at a;simp only[fm]at a;simp[p,q,d,e,f,a,f72]
theorem bS:zh prog 72 (hP (FIv fun op l=>int (Yb op l))):=
 Z3 SP func72 false [] fun⟨op,l⟩ a=>⟨by simp[f72],_,dk op l a,qP _⟩
noncomputable def dm (op:Int) (s:za):Int:=if(500:Int)<s.length then 2 else if wC 32 126 s=true then(if op=11 then(YD s).2 else 0)else 1
noncomputable def FIs (f:Int->za->O):zb->Option O:=qt (α:=Int×za) (fun a=>[int a.1,str a.2]) (fun a=>a.2.length<=zD) (fun a=>f a.1 a.2)
theorem Nd(f:Int->za->O)(op:Int)(s:za)(Y:Hp)(Z:Nat)(h:s.length<=zD):hP (FIs f) [int op,str s] Y Z=some (f op s,Y,Z):=
 aK (op,s) _ _ rfl (fun x y e=>by obtain⟨a,b⟩:=x;obtain⟨c,d⟩:=y;simp only[zi,zF]at e;rw[qE e.1,wT e.2]) h (.inr (by simp))
noncomputable abbrev Cpt:Ctx:=qf prog [(111,hP (rQ M9))]
theorem zcI:Gd Cpt:=qD mixed ⟨fk,trivial⟩
theorem bT(op:Int)(s:za)(h:s.length<=zD):zH Cpt f74 [int op,str s]=some (int (dm op s)):=by
 unfold zD at h;refine zs rfl ?_;by_cases a:(500:Int)<s.length
 ·have b:dm op s=2:=by unfold dm;rw[zl a]
  simp[a,b,f74]
 have i:=fun Y Z=>VU M9 s Y Z (by unfold zD;omega)
 simp only[M9]at i;have b:dm op s=if wC 32 126 s=true then(if op=11 then(YD s).2 else 0)else 1:=by unfold dm;rw[zj a]
 simp[a];refine qu (fun k σ Y Z=>σ 0=int op/\σ 1=str s/\σ 12=int s.length/\σ 13=int k/\wC 32 126 s=wC 32 126 (s.drop k)) s.length ⟨by simp,by simp,by simp,by simp,by simp⟩ ?_;rintro k σ Y Z q ⟨l,m,c,d,g⟩;by_cases e:k<s.length
 ·have p:=q8 k;rw[JQ e]at g;have o:=ik 32 126 s[k];simp only[qO]at o;cases n:pr 32 126 s[k]
  ·have g:wC 32 126 s=false:=by rw[g,n];rfl
   rw[g,zj (by simp)]at b;simp[l,m,c,d,e,b,o,n,f74]
  ·simp[l,m,c,d,e,o,n,p];exact⟨e,by rw[g,n];rfl⟩
 ·obtain rfl:k=s.length:=by omega
  have g:wC 32 126 s=true:=by rw[g,zp];rfl
  rw[g,zl rfl]at b;by_cases f:op=11
  ·rw[zl f]at b;subst f;simp[l,m,c,d,i,b,f74]
  ·rw[zj f]at b;have j:=QA f;simp[l,m,c,d,j,b,f74]
theorem aj:zh prog 74 (hP (FIs fun op s=>int (dm op s))):=
 Z3 zcI func74 false [] fun⟨op,s⟩ a=>⟨by simp[f74],_,bT op s a,qP _⟩
def ez(c:Cnd):Bool:=!xo c.kind 1 5
def opC(c:Cnd):Bool:=c.kind==4&&!xo c.op 1 12
def oP(c:Cnd):Bool:=(c.kind==4&&!qS c.attr)||(c.kind==5&&!qS c.name)
def Nf(c:Cnd):Bool:=c.kind==4&&vE c.op
noncomputable def Qu (c:Cnd):Int:=if(ez c||opC c)=true then 4 else if Q1 c=true then 3 else if oP c=true then 5 else if Yb c.op c.jd=0 then(if Nf c=true then dm c.op c.pat else 0)else Yb c.op c.jd
mutual
noncomputable def Cnd.fault:Cnd->Int
 | .mk k a o v p n l=>if Qu (.mk k a o v p n l)=0 then xb l else Qu (.mk k a o v p n l)
noncomputable def xb:List Cnd->Int
 |[]=>0
 |c::l=>if c.fault=0 then xb l else c.fault
end
theorem oQ(c:Cnd):c.fault=if Qu c=0 then xb c.args else Qu c:=by cases c;simp only[Cnd.fault];rfl
theorem eA{l:List Cnd}{k:Nat}(h:k<l.length):xb (l.drop k)=if l[k].fault=0 then xb (l.drop (k+1))else l[k].fault:=by rw[zg h,xb]
noncomputable abbrev Ng (n:Nat):Ctx:=qf prog [(43,hP (FC (fun c=>int c.fault) n)),(70,hP (F3 xo)),(71,GC fun c=>int (if Q1 c=true then 3 else 0)),(58,hP (FS qS)),
 (72,hP (FIv fun op l=>int (Yb op l))),(73,hP (Cb vE)),(74,hP (FIs fun op s=>int (dm op s)))]
@[simp]theorem zeA(n:Nat):yH (Ng n) 70:=wD (by rfl) (zq _ _)
@[simp]theorem zeB(n:Nat):yH (Ng n) 58:=wD (by rfl) (zq _ _)
@[simp]theorem zeC(n:Nat):yH (Ng n) 73:=wD (by rfl) (zq _ _)
theorem fo(n:Nat)(c:Cnd)(h:c.cb<=zD/\c.cb<=n+1):zH (Ng n) f43 [.agg c.V]=some (int c.fault):=by
 have M:=Wr c;have N:=W4 c.args;obtain⟨L,R⟩:=h;have x:=oQ c;have i:=fun Y Z=>J0 (fun c=>int (if Q1 c=true then 3 else 0)) c Y Z L
 have r:=fun Y Z=>Nc (fun op l=>int (Yb op l)) c.op c.jd Y Z (by omega)
 have D:=fun Y Z=>Nd (fun op s=>int (dm op s)) c.op c.pat Y Z (by omega)
 have j:c.attr.length<=zD:=by omega
 have m:c.name.length<=zD:=by omega
 unfold zD at L;refine zs rfl ?_;have v:(!xo c.kind 1 5)=ez c:=rfl;have y:(c.kind==4&&!xo c.op 1 12)=opC c:=rfl;have E:((c.kind==4&&!qS c.attr)||(c.kind==5&&!qS c.name))=oP c:=rfl;have H:(c.kind==4&&vE c.op)=Nf c:=rfl;cases q:ez c
 case true=>simp[v,q,x,Qu,f43]
 cases t:opC c
 case true=>simp[v,q,y,t,x,Qu,f43]
 cases w:Q1 c
 case true=>simp[v,q,y,t,i,w,x,Qu,f43]
 cases z:oP c
 case true=>simp[v,q,y,t,i,w,j,m,E,z,x,Qu,f43]
 by_cases A:Yb c.op c.jd=0
 case neg=>have I:=Xo A;simp[v,q,y,t,i,w,j,m,E,z,r,A,I,x,Qu,f43]
 have o:∀(C:Qu c=0),c.fault=xb c.args:=fun C=>by rw[x,zl C]
 cases F:Nf c
 case false=>
  have C:Qu c=0:=by simp[Qu,q,t,w,z,A,F]
  have p:=o C;simp[v,q,y,t,i,w,j,m,E,z,r,A,H,F];refine qu (fun k σ Y Z=>σ 73=.sl 7 (c.args.map Cnd.V)/\σ 74=int c.args.length/\σ 75=int k/\xb c.args=xb (c.args.drop k)) c.args.length ⟨by simp,by simp,by simp,by simp⟩ ?_;rintro k σ Y Z P ⟨e,f,g,b⟩;by_cases d:k<c.args.length
  ·have Q:=VS (zo d);have J:=q8 k;have a:=fun Y Z=>rP (fun c=>int c.fault) n c.args[k] Y Z ⟨by unfold zD;omega,by omega⟩
   rw[eA d]at b;by_cases u:c.args[k].fault=0
   ·rw[zl u]at b;simp[e,f,g,d,a,u,J];exact⟨by omega,b⟩
   ·rw[zj u]at b;have B:=Xo u;simp[e,f,g,d,a,B,p,b,f43]
  ·obtain rfl:k=c.args.length:=by omega
   rw[zp]at b;have b:xb c.args=0:=by rw[b];rfl
   simp[e,f,g,p,b,f43]
 case true=>
  by_cases G:dm c.op c.pat=0
  case neg=>have K:=Xo G;simp[v,q,y,t,i,w,j,m,E,z,r,A,H,F,D,G,K,x,Qu,f43]
  have C:Qu c=0:=by simp[Qu,q,t,w,z,A,F,G]
  have p:=o C;simp[v,q,y,t,i,w,j,m,E,z,r,A,H,F,D,G];refine qu (fun k σ Y Z=>σ 73=.sl 7 (c.args.map Cnd.V)/\σ 74=int c.args.length/\σ 75=int k/\xb c.args=xb (c.args.drop k)) c.args.length ⟨by simp,by simp,by simp,by simp⟩ ?_;rintro k σ Y Z P ⟨e,f,g,b⟩;by_cases d:k<c.args.length
  ·have Q:=VS (zo d);have J:=q8 k;have a:=fun Y Z=>rP (fun c=>int c.fault) n c.args[k] Y Z ⟨by unfold zD;omega,by omega⟩
   rw[eA d]at b;by_cases u:c.args[k].fault=0
   ·rw[zl u]at b;simp[e,f,g,d,a,u,J];exact⟨by omega,b⟩
   ·rw[zj u]at b;have B:=Xo u;simp[e,f,g,d,a,B,p,b,f43]
  ·obtain rfl:k=c.args.length:=by omega
   rw[zp]at b;have b:xb c.args=0:=by rw[b];rfl
   simp[e,f,g,p,b,f43]
theorem dp:∀n,zh prog 43 (hP (FC (fun c=>int c.fault) n)):=by
 intro n
 induction n with
 |zero=>exact Sl ⟨_,func43,by kernel_rfl,by kernel_rfl⟩
 |succ n a=>
  have b:AM.Good (Ng n) (fun g=>[70,58,73].contains g):=qI mixed ⟨a,by simp,Ww,fun _=>zq _ _,fl,by simp,JR,fun _=>zq _ _,bS,by simp,YE,fun _=>zq _ _,aj,by simp,trivial⟩;exact kq (fn:=f43) b (yt func43) false [] _ fun args r h=>by obtain⟨c,rfl,d,rfl⟩:=iP h;exact⟨zM (zk 1) (by decide),_,fo n c d,qP _⟩
noncomputable def Cnd.check (c:Cnd):Int:=if(decide ((200:Int)<c.parts)||decide ((20:Int)<c.levels))=true then 2 else c.fault
noncomputable abbrev Ccch:Ctx:=qf prog [(43,GC fun c=>int c.fault),(42,GC fun c=>.qZ [int c.parts,int c.levels])]
theorem J6:zh prog 26 (GC fun c=>int c.check):=
 kq (fn:=f26) (qD mixed ⟨dp zD,nF zD,trivial⟩:AM.Good Ccch _) (yt func26) false [] _ fun args r h=>by
  obtain⟨c,rfl,a,rfl⟩:=iP h;have b:=fun Y Z=>J0 (fun c=>int c.fault) c Y Z a.1
  have d:=fun Y Z=>J0 (fun c=>.qZ [int c.parts,int c.levels]) c Y Z a.1
  refine⟨by simp[f26],_,zs rfl ?_,qP _⟩;cases e:(decide ((200:Int)<c.parts)||decide ((20:Int)<c.levels))
  ·simp[b,d,e,f26,Cnd.check]
  ·simp[b,d,e,f26,Cnd.check]
end Go.Q
namespace Go.Q
open Go.RowKit Go.AM Go.PrLaw
def VC:List za:=[[],[104,97,115],[61],[60],[60,61],[62],[62,61],[112,114,101,102,105,120],[115,117,102,102,105,120],[99,111,110,116,97,105,110,115],[108,105,107,101],[118,101,114,115,105,111,110],[111,118,101,114,108,97,112,115]]
def ak(op:Int):za:=(VC[op.toNat]?).getD []
def Qv(l:List Val):za:=if l=[]then[110,101,118,101,114]else Lib.join (l.map Val.show) [32,124,32]
def Kx(c:Cnd):za:=if vE c.op=true then ju c.pat else Qv c.jd
def ZQ(c:Cnd):za:=if c.op=1 then[104,97,115,32,46]++c.attr else[46]++(c.attr++([32]++(ak c.op++([32]++Kx c))))
def vF(k:Int):za:=if k=1 then[97,108,108]else if k=2 then[97,110,121]else[110,111,116]
mutual
def Cnd.show:Cnd->za
 | .mk k a o v p n l=>if k=4 then ZQ (.mk k a o v p n l)else if k=5 then[105,110,32]++n else vF k++([40]++(Lib.join (tk l) [44,32]++[41]))
def tk:List Cnd->List za
 |[]=>[]
 |c::l=>c.show::tk l
end
theorem lC:∀l:List Cnd,tk l=l.map Cnd.show
 |[]=>rfl
 |c::l=>by simp[tk,lC l]
theorem Vb(c:Cnd):c.show=if c.kind=4 then ZQ c else if c.kind=5 then[105,110,32]++c.name else vF c.kind++([40]++(Lib.join (c.args.map Cnd.show) [44,32]++[41])):=by cases c;rw[Cnd.show,lC];rfl
theorem jN(k:Int)(a:za)(o:Int)(v:List Val)(p n:za)(l:List Cnd):(Cnd.mk k a o v p n l).show=if k=4 then ZQ (.mk k a o v p n l)else if k=5 then[105,110,32]++n else vF k++([40]++(Lib.join (l.map Cnd.show) [44,32]++[41])):=Vb _
theorem oR(k:Int)(a:za)(o:Int)(v:List Val)(p n:za)(l:List Cnd):(Cnd.mk k a o v p n l).fault=if Qu (.mk k a o v p n l)=0 then xb l else Qu (.mk k a o v p n l):=oQ _
theorem Ac(k:Int)(a:za)(o:Int)(v:List Val)(p n:za)(l:List Cnd):Qu (.mk k a o v p n l)=if(ez (.mk k a o v p n l)||opC (.mk k a o v p n l))=true then 4 else if Q1 (.mk k a o v p n l)=true then 3 else if oP (.mk k a o v p n l)=true then 5 else if Yb o v=0 then(if Nf (.mk k a o v p n l)=true then dm o p else 0)else Yb o v:=rfl
theorem Nh(k:Int)(a:za)(o:Int)(v:List Val)(p n:za)(l:List Cnd):ez (.mk k a o v p n l)=!xo k 1 5:=rfl
theorem zcJ(k:Int)(a:za)(o:Int)(v:List Val)(p n:za)(l:List Cnd):opC (.mk k a o v p n l)=(k==4&&!xo o 1 12):=rfl
theorem zcK(k:Int)(a:za)(o:Int)(v:List Val)(p n:za)(l:List Cnd):w4F (.mk k a o v p n l)=(k==4&&!K9 o&&decide (0<v.length)):=rfl
inductive eT:Cnd->Prop
 |mk {k o:Int} {a p n:List UInt8} {v:List Val} {l:List Cnd}:1<=k->k<=5->(k=4->1<=o/\o<=12)->(∀x∈v,aM x)->(k=4->K9 o=false->v=[])->(∀x∈l,eT x)->eT (.mk k a o v p n l)
theorem eT.kind{c:Cnd}(h:eT c):1<=c.kind/\c.kind<=5:=by cases h;exact⟨by assumption,by assumption⟩
theorem eT.op{c:Cnd}(h:eT c)(a:c.kind=4):1<=c.op/\c.op<=12:=by cases h with|mk _ _ b _ _ _=>exact b a
theorem eT.jd{c:Cnd}(h:eT c):∀x∈c.jd,aM x:=by cases h with|mk _ _ _ a _ _=>exact a
theorem eT.none{c:Cnd}(h:eT c)(a:c.kind=4)(b:K9 c.op=false):c.jd=[]:=by cases h with|mk _ _ _ _ d _=>exact d a b
theorem eT.args{c:Cnd}(h:eT c):∀x∈c.args,eT x:=by cases h with|mk _ _ _ _ _ a=>exact a
theorem Ff(op:Int):(ak op).length<=8:=by
 unfold ak;by_cases h:op.toNat<13
 ·have a:∀k:Nat,k<13->((VC[k]?).getD []).length<=8:=by decide
  exact a _ h
 ·rw[qY (by simp[VC];omega)];simp
theorem oS(k:Int):(vF k).length<=3:=by
 unfold vF;split
 ·simp
 ·split<;>simp
theorem HC(l:List Val)(h:∀x∈l,aM x):(Qv l).length<=30*kz l+5:=by
 unfold Qv;split
 ·simp
 ·have c:∀l:List Val,(∀x∈l,aM x)->((l.map Val.show).map fun x=>([32,124,32]:za).length+x.length).sum<=30*kz l:=by
   intro l
   induction l with
   |nil=>intro _;simp
   |cons v l e=>
    intro d;have a:=uz v (d v (by simp));have b:=e fun x f=>d x (by simp[f])
    simp only[zG,jT,kz,ze,zf]at b⊢;omega
  have j:=bq [32,124,32] (l.map Val.show);have:=c l h;omega
theorem HD(c:Cnd)(h:∀x∈c.jd,aM x):(ZQ c).length+10<=30*(1+c.attr.length+kz c.jd+c.pat.length):=by
 have a:=Ff c.op;have b:=HC c.jd h;have d:=K2 c.pat;unfold ZQ Kx;split
 ·simp only[zt,ze,zf];omega
 ·split<;>simp only[zt,ze,zf]<;>omega
theorem HE(c:Cnd)(h:eT c):c.show.length+10<=30*c.cb:=by
 induction c using Cnd.ind with
 |h k a o v p n l g=>
  have i:=Wr (.mk k a o v p n l);have m:=HD (.mk k a o v p n l) h.jd;have r:=oS k;rw[jN];simp only[Cnd.attr,Cnd.jd,Cnd.pat,Cnd.name,Cnd.args]at i m;split
  ·omega
  split
  ·simp only[zt,ze,zf];omega
  ·have e:∀l:List Cnd,(∀x∈l,x.show.length+10<=30*x.cb)->((l.map Cnd.show).map fun x=>([44,32]:za).length+x.length).sum<=30*Wm l:=by
    intro l
    induction l with
    |nil=>intro _;simp
    |cons v l q=>
     intro f;have a:=f v (by simp);have b:=q fun x d=>f x (by simp[d])
     simp only[zG,jT,Wm,ze,zf]at b⊢;omega
   have j:=bq [44,32] (l.map Cnd.show);have:=e l fun x d=>g x d (h.args x d)
   simp only[zt,ze,zf];omega
theorem bU(v:Val)(h:v.check=0):v.fault=0:=by
 unfold Val.check at h;split at h
 ·simp at h
 ·exact h
theorem Fg(op:Int):∀(l:List Val) (p:Option Val),fm op p l=0->∀x∈l,aM x
 |[],_,_,x,a=>by cases a
 |v::l,p,h,x,a=>by
  rw[fm]at h;split at h
  case isFalse b=>exact(b h).elim
  rename_i b;split at h
  ·simp at h
  split at h
  ·simp at h
  rcases zx.1 a with rfl|a
  ·exact rK _ (bU _ b)
  ·exact Fg op l _ h x a
theorem sf(c:Cnd)(h:c.fault=0):eT c:=by
 induction c using Cnd.ind with
 |h k a o v p n l t=>
  rw[oR]at h;split at h
  case isFalse d=>exact(d h).elim
  rename_i d;rw[Ac]at d;split at d
  ·simp at d
  rename_i B;split at d
  ·simp at d
  rename_i C;split at d
  ·simp at d
  split at d
  case isFalse g=>exact(g d).elim
  rename_i g;have i:ez (.mk k a o v p n l)=false:=by cases hx:ez (.mk k a o v p n l)<;>simp_all
  have j:opC (.mk k a o v p n l)=false:=by cases hx:opC (.mk k a o v p n l)<;>simp_all
  have m:w4F (.mk k a o v p n l)=false:=by cases hx:w4F (.mk k a o v p n l)<;>simp_all[Q1]
  rw[Nh,Bool.not_eq_false']at i;rw[zcJ]at j;rw[zcK]at m;unfold xo at i;rw[zn]at i;refine .mk (jb i.1) (jb i.2) (fun e=>?_) ?_ (fun e u=>?_) ?_
  ·subst e;have f:(decide (1<=o)&&decide (o<=12))=true:=by
    cases s:xo o 1 12
    ·rw[s]at j;exact absurd j (by decide)
    ·exact s
   rw[zn]at f;exact⟨jb f.1,jb f.2⟩
  ·unfold Yb at g;split at g
   ·simp at g
   ·exact Fg o v none g
  ·subst e;rw[u]at m;cases v with
   |nil=>rfl
   |cons x v=>simp at m
  ·have q:∀l:List Cnd,(∀x∈l,x.fault=0->eT x)->xb l=0->∀x∈l,eT x:=by
    intro l
    induction l with
    |nil=>intro _ _ x hx;cases hx
    |cons y l w=>
     intro a b x hx;rw[xb]at b;split at b
     ·rename_i r;rcases zx.1 hx with rfl|hx
      ·exact a _ (by simp) r
      ·exact w (fun z A=>a z (by simp[A])) b x hx
     ·rename_i r;exact(r b).elim
   exact q l t h
theorem sg(c:Cnd)(h:c.check=0):eT c:=by
 unfold Cnd.check at h;split at h
 ·simp at h
 ·exact sf c h
def FSg:zb->Option O
 |[]=>some (.sl 1 (zA VC))
 |_=>none
theorem eB:zh prog 75 (hP FSg):=
 kq (fn:=f75) ku (yt func75) false [] _ fun args r h=>by
  unfold FSg at h;split at h
  ·injection h with h;subst h;exact⟨by simp[f75],_,zs rfl (by simp[zy,zR,zw,zA,VC,maxLen,jB,AM.freeze,z7,qn,f75]),qP _⟩
  ·cases h
theorem Ad(Y:Hp)(Z:Nat):hP FSg [] Y Z=some (.sl 1 (zA VC),Y,Z):=wL rfl rfl (.inr rfl)
theorem Fh(u:Nat)(h:u<13):(zA VC)[u]?=some [str (ak u)]:=by have a:VC.length=13:=rfl;simp only[zA,qq,ak,Int.toNat_natCast];rw[zm (by omega)];rfl
noncomputable def Ni:zb->Option (za×O):=qt (α:=Cnd) (fun c=>[.agg c.V]) (fun c=>eT c/\c.kind=4/\c.cb<=zD) (fun c=>(ZQ c,.qZ []))
theorem SQ(c:Cnd)(h:eT c/\c.kind=4/\c.cb<=zD):Ni [.agg c.V]=some (ZQ c,.qZ []):=
 qj (V:=fun c:Cnd=>[.agg c.V]) (a:=c) (fun a b e=>by simp only[zi,zF,O.agg.injEq]at e;exact QX e) h
noncomputable abbrev Cpt2:Ctx:=qf prog [(75,hP FSg),(9,vm TB UB Rr),(73,hP (Cb vE)),(76,hP FXs)]
theorem SR:AM.Good Cpt2 (fun g=>[75].contains g):=qI mixed ⟨eB,fun _=>zq _ _,VB,by simp,YE,by simp,uB,by simp,trivial⟩
theorem lD(c:Cnd)(A:eT c)(hk:c.kind=4)(hcb:c.cb<=zD){Y:Hp}{Z:Nat}{l:za}{b0:Blk}{K:Hp->Hp}(hS:Zd TB UB Y Z l b0 K)(hl:l.length+(ZQ c).length<=140737488355328) :
  ox TB UB (yR Cpt2 f44 [.ref 0 0 0,.agg c.V] Y Z) (l++ZQ c) (.qZ []):=by
 refine QV rfl ?_;have hcbe:=Wr c;have hl1:=kf c.jd;unfold zD at hcb;have BZ:=hS.pos;obtain⟨o1,o2⟩:=A.op hk;obtain⟨H0,hH⟩:∃H0,H0=zI Y Z (some ⟨54,7,false,[c.V]⟩):=⟨_,rfl⟩;have P:∀j,j<Z->H0 j=Y j:=fun j hj=>by rw[hH];exact zc _ _ _ _ (by omega)
 have hH1:H0 Z=some ⟨54,7,false,[c.V]⟩:=by rw[hH];simp
 by_cases h1:c.op=1
 ·have ht:ZQ c=[104,97,115,32,46]++c.attr:=by unfold ZQ;rw[zl h1]
  rw[ht]at hl⊢;have hm:5+c.attr.length<=maxLen:=by unfold maxLen;omega
  obtain⟨Y1,t,B1,_⟩:=wsF hS (yJ Z) P ([104,97,115,32,46]++c.attr) (by simp) hl;rw[hH]at t;simp at t;simp[h1,hm,t,f44];exact B1.ends (by simp) (by simp)
 ·obtain⟨u,C⟩:∃u:Nat,c.op=u:=⟨c.op.toNat,by omega⟩;have hul:u<13:=by omega
  obtain⟨SG,D⟩:=yb (zA VC);have hsl:SG.length=13:=by rw[<-D];rfl
  obtain⟨S,E⟩:=yb (ak u);have hsn:S.length<=8:=by rw[<-E];exact Ff _
  have Q:=Fh u hul;rw[D,E]at Q;have R:=Ad;rw[D]at R;obtain⟨tl,F⟩:=yb (Kx c);have ht:ZQ c=[46]++(c.attr++([32]++(S++([32]++tl)))):=by unfold ZQ;rw[zj h1,C,E,F]
  rw[ht]at hl⊢;simp at hl;obtain⟨Y1,t,B1,U⟩:=wsF hS (yJ Z) P ([46]++(c.attr++([32]++(S++[32])))) (by simp) (by simp;omega);have o:Y1 Z=some ⟨54,7,false,[c.V]⟩:=by rw[U Z (zk _) (by omega),hH1]
  rw[hH]at t;simp at t;have mx1:1+c.attr.length<=maxLen:=by unfold maxLen;omega
  have mx2:c.attr.length+1+1<=maxLen:=by unfold maxLen;omega
  have mx3:c.attr.length+1+1+S.length<=maxLen:=by unfold maxLen;omega
  have mx4:c.attr.length+(S.length+1)+1+1<=maxLen:=by unfold maxLen;omega
  have hu1:((u:Int)==1)=false:=qM.2 (by omega);have hu0:(0:Int)<=(u:Int):=by omega
  obtain⟨n1,m1,h,p,W⟩:∃n1 m1 h,eQ TB UB Y1 n1 m1 h/\n1=Z+1+1/\m1=Z+1/\h=l++([46]++(c.attr++([32]++(S++[32])))):=⟨_,_,_,B1,rfl,rfl,rfl⟩;clear B1 U;refine Yw (fun st=>st.σ 0=.ref 0 0 0/\st.σ 3=.ref Z 0 0/\st.Z=Z+1/\st.Y=zI Y Z (some ⟨54,7,false,[c.V]⟩)) (by simp) ?_;rintro⟨σ,Y2,q⟩ ⟨b,f,v,w⟩;simp only at b f v w;subst v;subst w;refine Yw (fun st=>st.σ 0=.ref 0 0 0/\st.σ 3=.ref Z 0 0/\st.Z=Z+1/\st.Y=zI Y Z (some ⟨54,7,false,[c.V]⟩)) (by simp[b,f,C,hu1]) ?_;clear b f σ;rintro⟨σ,Y2,q⟩ ⟨b,f,v,w⟩;simp only at b f v w;subst v;subst w;refine Yw (fun st=>st.σ 0=.ref 0 0 0/\st.σ 3=.ref Z 0 0/\st.Z=n1/\st.Y=Y1) ?_ ?_
  ·simp[b,f,C,hu0,mx1,mx2,mx3,mx4,R,hsl,Q,t,W]
  clear b f σ;rintro⟨σ,Y2,q⟩ ⟨b,f,v,w⟩;simp only at b f v w;subst v;subst w;obtain⟨rfl,rfl,rfl⟩:=W;obtain⟨T,X⟩:∃T,T=l++([46]++(c.attr++([32]++(S++([32]++tl))))):=⟨_,rfl⟩;rw[<-X];have hTl:T.length=l.length+(c.attr.length+(S.length+(tl.length+1)+1)+1):=by rw[X];simp
  have G:c.op=u:=C;refine Yw (fun st=>st.σ 0=.ref 0 0 0/\st.σ 3=.ref Z 0 0/\st.Y Z=some ⟨54,7,false,[c.V]⟩/\∃m cur,eQ TB UB st.Y st.Z m cur/\T=cur++Yx [32,124,32] 0 (c.jd.map Val.show)) ?_ ?_
  ·cases d:vE c.op
   ·have y:tl=Qv c.jd:=by rw[<-F];unfold Kx;rw[d];rfl
    by_cases hv:c.jd=[]
    ·have a:tl=[110,101,118,101,114]:=by rw[y,Qv,zl hv]
     have htll:tl.length=5:=by rw[a];rfl
     obtain⟨Y2,H,I,i⟩:=Rs p [110,101,118,101,114] (by simp) (by simp;omega);have f2:=(i Z (by omega) (by omega) (by omega)).trans o;rw[G]at d;simp[b,f,o,C,d,hv,H];exact⟨f2,_,_,I,by rw[X,a];simp[WK]⟩
    ·have a:tl=Yx [32,124,32] 0 (c.jd.map Val.show):=by rw[y,Qv,zj hv];rfl
     have hvl:((c.jd.length:Int)==0)=false:=qM.2 fun e=>hv (wI (by omega))
     rw[G]at d;simp[b,f,o,C,d,hvl];exact⟨_,_,p,by rw[X,a];simp⟩
   ·have hnv:c.jd=[]:=A.none hk (by simp[vE,xo]at d;simp[K9,xo];omega)
    have a:tl=ju c.pat:=by rw[<-F];unfold Kx;rw[d];rfl
    have hq:=K2 c.pat;have hx:=fun Y Z=>Sg c.pat Y Z (by unfold zD;omega)
    obtain⟨Y2,H,I,i⟩:=Rs p (ju c.pat) (by simp[ju]) (by rw[<-a];simp;omega);have f2:=(i Z (by omega) (by omega) (by omega)).trans o;rw[G]at d;simp[b,f,o,C,d,hx,H,qi,qJ,yP];exact⟨f2,_,_,I,by rw[X,a,hnv];simp[WK]⟩
  clear b f σ p t o;rintro⟨σ,Y2,q⟩ ⟨b,f,o,m,cur,B,g⟩;simp only at b f o B;simp[b,f,o];refine qu (fun k σ Y Z=>σ 0=.ref 0 0 0/\σ 45=.sl 5 (c.jd.map Val.V)/\σ 46=int c.jd.length/\σ 47=int k/\∃m cur,eQ TB UB Y Z m cur/\T=cur++Yx [32,124,32] k ((c.jd.drop k).map Val.show)) c.jd.length ⟨by simp[b],by simp,by simp,by simp,m,cur,B,by simpa using g⟩ ?_;clear b f o B g σ m cur Y2 q;rintro k σ Y Z hkl ⟨b,J,L,M,m,cur,B,g⟩;by_cases r:k<c.jd.length
  ·have hw:=q8 k;have z:=zo r;have hm:=xh z;have s:=A.jd _ z;rw[zg r,zG,JS]at g;obtain⟨x,hx⟩:=yb (c.jd[k]);rw[hx]at g hm s;have hw1:i6.wrap 1=1:=by decide
   have n:=jy List.length g;have hxs:=fun Y Z=>Mp x Y Z s (by unfold zD;omega)
   have hmn:=B.2.2.2;have B':=B.same (Z':=Z+1) (Y':=zI Y Z (some ⟨112,5,false,[x.V]⟩)) (yJ _) (fun j hj=>zc _ _ _ _ (by omega));by_cases N:k=0
   ·subst N;simp at g n;obtain⟨Y2,H,I,_⟩:=Rs B' x.show (rM x s) (by omega);simp[b,J,L,M,r,hx,hxs,H,hw1];exact⟨by omega,_,_,I,by simpa using g⟩
   ·rw[zj N]at g;have hk1:0<k:=by omega
    simp[N]at g n;obtain⟨Y2,H,I,i⟩:=Rs B' [32,124,32] (by simp) (by simp;omega);have f2:Y2 Z=some ⟨112,5,false,[x.V]⟩:=by rw[i Z (by omega) (by omega) (by omega)];simp
    obtain⟨hp3,e3,B3,_⟩:=Rs I x.show (rM x s) (by simp;omega);simp[b,J,L,M,r,hx,hk1,H,f2,hxs,e3,hw];exact⟨by omega,_,_,B3,by simpa using g⟩
  ·obtain rfl:k=c.jd.length:=by omega
   rw[zp,ji,WK,wg]at g;simp[b,J,L,M,f44];exact B.ends g (by omega)
theorem fp:zh prog 44 (vm TB UB Ni):=
 ZE (code:=_) SR ⟨func44,by kernel_rfl,rfl,by kernel_rfl⟩ _ _ Ni fun xs t r h=>by obtain⟨c,rfl,⟨b,d,f⟩,e⟩:=qc h;injection e with g i;subst g;subst i;exact⟨rfl,zM (zk 2) (by decide),fun Y Z l k K j a=>lD c b d f j a⟩
noncomputable def FPr (n:Nat):zb->Option (za×O):=qt (α:=Cnd) (fun c=>[.agg c.V]) (fun c=>eT c/\c.cb<=zD/\c.cb<=n) (fun c=>(c.show,.qZ []))
theorem HF{a b:Cnd}(e:[O.agg a.V]=[.agg b.V]):a=b:=by simp only[zi,zF,O.agg.injEq]at e;exact QX e
theorem Nj(n:Nat)(c:Cnd)(h:eT c/\c.cb<=zD/\c.cb<=n):FPr n [.agg c.V]=some (c.show,.qZ []):=qj (V:=fun c:Cnd=>[.agg c.V]) (a:=c) (fun _ _=>HF) h
theorem Nk{f:FuncId}(a:∃fn,prog.funcs[f]?=some fn/\(fn.name== "runtime.NumGoroutine")=false/\fn.body.isNone=false):zh prog f (vm TB UB (FPr 0)):=by
 refine⟨a,fun args Y Z r Y' Z' h=>?_⟩;unfold vm at h;split at h
 ·split at h
  ·obtain⟨_,_,h⟩:=zL.1 h;obtain⟨_,h,_⟩:=zL.1 h;obtain⟨c,_,b,_⟩:=qc h;have:=iN c;omega
  ·cases h
 ·cases h
theorem fzC(Y:Hp)(c:Cnd):zz Y [.agg c.V]=some ([.agg c.V],Y):=by simp only[zz,Yz]
theorem noC(c:Cnd):([O.agg c.V].all O.noOwn)=true:=by simp only[yC,X5,s9,gh]
theorem prS{Y:Hp}{Z m:Nat}{cur:za}(n:Nat)(c:Cnd)(B:eQ TB UB Y Z m cur)(h:eT c/\c.cb<=zD/\c.cb<=n)(a:cur.length+c.show.length<=140737488355328) :
  ∃Y',vm TB UB (FPr n) [.ref 0 0 0,.agg c.V] Y Z=some (.qZ [],Y',Z+1)/\eQ TB UB Y' (Z+1) Z (cur++c.show)/\∀j,j≠0->j≠m->j≠Z->Y' j=Y j:=
 B.put (Y1:=Y) (fzC Y c) (noC c) (Nj n c h) a
noncomputable abbrev Cpr (n:Nat):Ctx:=qf prog [(27,vm TB UB (FPr n)),(44,vm TB UB Ni),(9,vm TB UB Rr),(45,vm TB UB Sa)]
theorem DD(n:Nat)(c:Cnd)(s:eT c)(I:c.cb<=zD)(hcn:c.cb<=n+1){Y:Hp}{Z:Nat}{l:za}{b0:Blk}{K:Hp->Hp}(J:Zd TB UB Y Z l b0 K)(C:l.length+c.show.length<=140737488355328) :
  ox TB UB (yR (Cpr n) f27 [.ref 0 0 0,.agg c.V] Y Z) (l++c.show) (.qZ []):=by
 refine QV rfl ?_;have hcbe:=Wr c;have hl1:=W4 c.args;have hkd:=s.kind;have BZ:=J.pos;obtain⟨D,E⟩:∃D,D=zI Y Z (some ⟨54,7,false,[c.V]⟩):=⟨_,rfl⟩;have i:∀j,j<Z->D j=Y j:=fun j hj=>by rw[E];exact zc _ _ _ _ (by omega)
 have L:D Z=some ⟨54,7,false,[c.V]⟩:=by rw[E];simp
 by_cases G:c.kind=4
 ·have M:c.show=ZQ c:=by rw[Vb,zl G]
  rw[M]at C⊢;obtain⟨Y1,b,H,_⟩:=J.put (h:=D) (Z':=Z+1) (F:=Ni) (rest:=[.agg c.V]) (yJ _) i (fzC _ c) (noC c) (SQ c ⟨s,G,I⟩) C;rw[E]at b;simp[G,b,f27];exact H.ends (by simp) (by simp)
 unfold zD at I;by_cases W:c.kind=5
 ·have M:c.show=[105,110,32]++c.name:=by rw[Vb,zj G,zl W]
  rw[M]at C⊢;have hm:3+c.name.length<=maxLen:=by unfold maxLen;omega
  obtain⟨Y1,b,H,_⟩:=wsF J (yJ Z) i ([105,110,32]++c.name) (by simp) C;rw[E]at b;simp at b;simp[W,hm,b,f27];exact H.ends (by simp) (by simp)
 obtain⟨X,N⟩:=yb (Lib.join (c.args.map Cnd.show) [44,32]);have hj0:X=Yx [44,32] 0 ((c.args.drop 0).map Cnd.show):=by rw[w8,<-N];rfl
 have M:c.show=vF c.kind++([40]++(X++[41])):=by rw[Vb,zj G,zj W,N]
 have hwl:=oS c.kind;have hwn:vF c.kind++[40]≠[]:=by simp
 rw[M]at C⊢;obtain⟨T,hT⟩:∃T,T=l++(vF c.kind++([40]++(X++[41]))):=⟨_,rfl⟩;have P:T.length=l.length+(vF c.kind++([40]++(X++[41]))).length:=by rw[hT];simp
 rw[<-hT];rw[<-P]at C;simp at P;have t:4<=maxLen:=by unfold maxLen;omega
 obtain⟨H1,e⟩:∃H1,H1=zI D (Z+1) (some ⟨9,1,true,[[.v (.string ⟨#[]⟩)],[.v (.string ⟨#[97,108,108]⟩)],[.v (.string ⟨#[97,110,121]⟩)],[.v (.string ⟨#[110,111,116]⟩)]]⟩):=⟨_,rfl⟩;obtain⟨Y1,b,H,Q⟩:=wsF (h:=H1) (Z':=Z+1+1) J (by omega) (fun j hj=>by rw[e,zc _ _ _ _ (by omega)];exact i j hj) (vF c.kind++[40]) hwn (by simp;omega);have f1:Y1 Z=some ⟨54,7,false,[c.V]⟩:=by rw[Q Z (zk _) (by omega),e,zc _ _ _ _ (by omega),L]
 rw[e,E]at b;refine Yw (fun st=>st.σ 0=.ref 0 0 0/\st.σ 3=.ref Z 0 0/\st.Z=Z+1/\st.Y=zI Y Z (some ⟨54,7,false,[c.V]⟩)) (by simp) ?_;rintro⟨σ,Y2,R⟩ ⟨d,f,p,q⟩;simp only at d f p q;subst p;subst q;have k4':(c.kind==4)=false:=qM.2 G;have k5':(c.kind==5)=false:=qM.2 W;refine Yw (fun st=>st.σ 0=.ref 0 0 0/\st.σ 3=.ref Z 0 0/\st.Z=Z+1/\st.Y=zI Y Z (some ⟨54,7,false,[c.V]⟩)) (by simp[d,f,k4',k5']) ?_;clear d f σ;rintro⟨σ,Y2,R⟩ ⟨d,f,p,q⟩;simp only at d f p q;subst p;subst q;refine Yw (fun st=>st.σ 0=.ref 0 0 0/\st.σ 3=.ref Z 0 0/\st.Z=Z+1+1+1/\st.Y=Y1) ?_ ?_
 ·rcases(by omega:c.kind=1\/c.kind=2\/c.kind=3)with hk|hk|hk
  ·rw[hk]at b;simp[vF]at b;simp[d,f,hk,zy,zR,zw,t,b]
  ·rw[hk]at b;simp[vF]at b;simp[d,f,hk,zy,zR,zw,t,b]
  ·rw[hk]at b;simp[vF]at b;simp[d,f,hk,zy,zR,zw,t,b]
 clear d f σ;rintro⟨σ,Y2,R⟩ ⟨d,f,p,q⟩;simp only at d f p q;subst p;subst q;clear i L E e b Q;simp[d,f,f1];refine qu (fun k σ Y Z=>σ 0=.ref 0 0 0/\σ 29=.sl 7 (c.args.map Cnd.V)/\σ 30=int c.args.length/\σ 31=int k/\∃m cur,eQ TB UB Y Z m cur/\T=cur++(Yx [44,32] k ((c.args.drop k).map Cnd.show)++[41])) c.args.length ⟨by simp[d],by simp,by simp,by simp,_,_,H,by rw[hT,<-hj0];simp⟩ ?_;clear d f f1 H σ J;rintro k σ Y Z hkl ⟨d,u,w,y,m,cur,B,g⟩;by_cases o:k<c.args.length
 ·have hw:=q8 k;have r:=zo o;have hm:=VS r;have z:=s.args _ r;rw[zg o,zG,JS]at g;obtain⟨x,hx⟩:=yb (c.args[k]);rw[hx]at g hm z;have hw1:i6.wrap 1=1:=by decide
  have a:=jy List.length g;have hmn:=B.2.2.2;have B':=B.same (Z':=Z+1) (Y':=zI Y Z (some ⟨54,7,false,[x.V]⟩)) (yJ _) (fun j hj=>zc _ _ _ _ (by omega));by_cases A:k=0
  ·subst A;simp at g a;obtain⟨Y2,S,U,_⟩:=prS n x B' ⟨z,by unfold zD;omega,by omega⟩ (by omega);simp[d,u,w,y,o,hx,S,hw1];exact⟨by omega,_,_,U,by simpa using g⟩
  ·rw[zj A]at g;have hk1:0<k:=by omega
   simp[A]at g a;obtain⟨Y2,S,U,fr2⟩:=Rs B' [44,32] (by simp) (by simp;omega);have f2:Y2 Z=some ⟨54,7,false,[x.V]⟩:=by rw[fr2 Z (by omega) (by omega) (by omega)];simp
   obtain⟨hp3,e3,B3,_⟩:=prS n x U ⟨z,by unfold zD;omega,by omega⟩ (by simp;omega);simp[d,u,w,y,o,hx,hk1,S,f2,e3,hw];exact⟨by omega,_,_,B3,by simpa using g⟩
 ·obtain rfl:k=c.args.length:=by omega
  rw[zp,ji,WK,ye]at g;have a:=jy List.length g;simp at a;obtain⟨Y2,S,U,_⟩:=GZ B 41 41 rfl (by omega);simp[d,u,w,y,S,f27];exact U.ends g (by omega)
theorem Ae:∀n,zh prog 27 (vm TB UB (FPr n)):=by
 intro n
 induction n with
 |zero=>exact Nk ⟨_,func27,by kernel_rfl,by kernel_rfl⟩
 |succ n d=>
  have f:Gd (Cpr n):=qD mixed ⟨d,fp,VB,bn,trivial⟩;exact ZE (code:=_) f ⟨func27,by kernel_rfl,rfl,by kernel_rfl⟩ _ _ (FPr (n+1)) fun xs t r h=>by obtain⟨c,rfl,b,e⟩:=qc h;injection e with g i;subst g;subst i;exact⟨rfl,zM (zk 2) (by decide),fun Y Z l k K j a=>DD n c b.1 b.2.1 b.2.2 j a⟩
noncomputable def vY (c:Cnd):za×Int:=if c.check=0 then(if(20000:Int)<c.show.length then([],2)else(c.show,0))else([],c.check)
noncomputable def lE (c:Cnd):O:=.qZ [str (vY c).1,int (vY c).2]
theorem Nl(c:Cnd)(h:eT c):c.show≠[]:=by
 rw[Vb];split
 ·unfold ZQ;split<;>simp
 split<;>simp
noncomputable abbrev Cprt:Ctx:=qf prog [(26,GC fun c=>int c.check),(27,vm TB UB (FPr zD)),(13,yc Sb f13),(14,C4)]
theorem SS:Gd Cprt:=qD mixed ⟨J6,Ae zD,pR,dT,trivial⟩
theorem DE(c:Cnd)(h:c.cb<=zD):zH Cprt f12 [.agg c.V]=some (lE c):=by
 have a:=fun Y Z=>J0 (fun c=>int c.check) c Y Z h
 refine zs rfl ?_;by_cases b:c.check=0
 ·have d:=sg c b;have k:=HE c d;unfold zD at h;obtain⟨Y1,g,i,l,_⟩:=iy (T:=TB) (U:=UB) (F:=FPr zD) (h:=zI (zI (fun _=>none) 0 (some ⟨54,7,false,[c.V]⟩)) 1 (some ⟨38,2,false,[[.v (.pointer none),.nil]]⟩)) (id:=1) (Z':=2) (rest:=[.agg c.V]) (by rw[qU];rfl) (by omega) (fzC _ c) (noC c) (Nj zD c ⟨d,by unfold zD;omega,by unfold zD;omega⟩) (by omega);have j:=fun Z=>EZ Y1 Z 1 2 c.show.length i
  have m:=fun Z=>iw Y1 Z 1 2 c.show i l (Nl c d) (by omega)
  by_cases e:(20000:Int)<c.show.length
  ·have Y:lE c=.qZ [str [],int 2]:=by unfold lE vY;rw[zl b,zl e]
   simp[a,b,g,j,e,Y,jB,AM.freeze,zz,z7,qn,f12]
  ·have Y:lE c=.qZ [str c.show,int 0]:=by unfold lE vY;rw[zl b,zj e]
   simp[a,b,g,j,m,e,Y,jB,AM.freeze,zz,z7,qn,f12]
 ·have Y:lE c=.qZ [str [],int c.check]:=by unfold lE vY;rw[zj b]
  have f:=Xo b;simp[a,f,Y,jB,AM.freeze,zz,z7,qn,f12]
theorem B7:zh prog 12 (GC lE):=
 kq (fn:=f12) SS (yt func12) false [] _ fun args r h=>by obtain⟨c,rfl,a,rfl⟩:=iP h;exact⟨by simp[f12],_,DE c a.1,qP _⟩
end Go.Q
namespace Go.SpanLaw
abbrev Sp:=Int×Int
def Af:Int->List Sp->Prop
 |_,[]=>True
 |lo,s::l=>lo<s.1/\s.1<s.2/\Af s.2 l
def mem(l:List Sp)(k:Int):Prop:=∃s∈l,s.1<=k/\k<s.2
def skip(x:Int):List Sp->List Sp
 |[]=>[]
 |b::l=>if b.2<=x then skip x l else b::l
def Below(a:Int)(l:List Sp):Prop:=∀s∈l,s.2<=a
def VD(l:List Sp)(f t:Int):List Sp:=match l.getLast? with
 |some s=>if s.2=f then l.dropLast++[(s.1,t)]else l++[(f,t)]
 |none=>[(f,t)]
structure ziX (op:Int->Prop) (at_:Int) (out:List Sp):Prop where
 canon:Af (-1) out
 below:Below at_ out
 holds:∀k,mem out k↔0<=k/\k<at_/\op k
end Go.SpanLaw
namespace Go.Q
abbrev ki(s:Sp):zb:=[int s.1,int s.2]
theorem Nn{a b:Sp}(h:ki a=ki b):a=b:=by simp only[zi,zF,O.v.injEq,Value.int.injEq,true_and]at h;exact Prod.ext h.1 h.2
theorem WM{a b:List Sp}(h:O.sl 2 (a.map ki)=O.sl 2 (b.map ki)):a=b:=by injection h with _ h;exact jJ (fun _ _=>Nn) h
def spR(s:Sp):Bool:=!xo s.1 0 99999||decide ((100000:Int)<s.2)
def spO(p:Option Int)(s:Sp):Bool:=decide (s.2<=s.1)||(match p with
 |none=>false
 |some q=>decide (s.1<=q))
def Rv:Option Int->List Sp->Int
 |_,[]=>0
 |p,s::l=>if spR s then 1 else if spO p s then 8 else Rv (some s.2) l
theorem Np{l:List Sp}{k:Nat}(h:k<l.length)(p:Option Int):Rv p (l.drop k)=if spR l[k]then 1 else if spO p l[k]then 8 else Rv (some l[k].2) (l.drop (k+1)):=by rw[zg h,Rv]
def lF(l:List Sp)(k:Nat):Option Int:=if k=0 then none else(l[k-1]?).map (·.2)
def vJ(l:List Sp):Int:=if(100:Int)<l.length then 2 else Rv none l
theorem Zj:zh prog 56 (hP (F3 xo)):=
 kq (fn:=f56) ku (yt func56) false [] _ fun args r h=>by obtain⟨a,b,c,rfl,rfl⟩:=rH h;exact⟨by simp[f56],_,zs rfl (by simp[f56,xo]),qP _⟩
noncomputable abbrev Cwl:Ctx:=qf prog [(56,hP (F3 xo))]
theorem fq(l:List Sp):zH Cwl f98 [.sl 2 (l.map ki)]=some (int (vJ l)):=by
 refine zs rfl ?_;rw[vJ];by_cases q:(100:Int)<l.length
 ·simp[q,f98]
 simp[q];refine qu (fun k σ Y Z=>σ 0=.sl 2 (l.map ki)/\σ 8=.sl 2 (l.map ki)/\σ 9=int l.length/\σ 10=int k/\Rv none l=Rv (lF l k) (l.drop k)) l.length
  ⟨by simp,by simp,by simp,by simp,by simp[lF]⟩ ?_
 rintro k σ Y Z z ⟨f,g,h,c,a⟩;by_cases b:k<l.length
 ·have A:=q8 k;have en:(!xo l[k].1 0 99999||decide ((100000:Int)<l[k].2))=spR l[k]:=rfl;rw[Np b]at a;cases n:spR l[k]
  case true=>rw[n]at en a;simp[f,g,h,c,b,en,a,f98]
  rw[n]at en;simp only[n,zv,qz]at a;have e:lF l (k+1)=some l[k].2:=by simp[lF,b]
  by_cases w:k=0
  ·subst w;simp only[lF,qh,spO,Bool.or_false]at a;by_cases d:l[0].2<=l[0].1
   ·simp only[d,zgY,qh]at a;simp[f,g,h,c,b,en,d,a,f98]
   ·simp only[d,zas,zv,qz]at a;have x:=wN 1;simp[f,g,h,c,b,en,d,x]
    and_intros<;>first|omega|(rw[a];rw[e];done)|(rw[a];rw[e];simp)
  ·obtain⟨j,rfl⟩:∃j,k=j+1:=⟨k-1,by omega⟩;have o:j<l.length:=by omega
   have r:i6.wrap ((j:Int)+1-1)=(j:Int):=by rw[wM (by omega) (by omega)];omega
   have i:=wN (j:Int);have s:((j:Int)+1).toNat=j+1:=by omega
   have t:0<(j:Int)+1:=by omega
   have u:0<=(j:Int)+1:=by omega
   have v:(j:Int)+1<l.length:=by omega
   have y:=wN ((j:Int)+1+1);have p:lF l (j+1)=some l[j].2:=by simp[lF,o]
   have m:(decide (l[j+1].2<=l[j+1].1)||decide (l[j+1].1<=l[j].2))=spO (some l[j].2) l[j+1]:=rfl;rw[p]at a;cases d:spO (some l[j].2) l[j+1]
   ·rw[d]at m;simp only[d,zv,qz]at a;simp[f,g,h,c,b,o,en,r,i,s,t,u,v,m,y]
    and_intros<;>first|omega|(rw[a];rw[e])
   ·rw[d]at m;simp only[d,qh]at a;simp[f,g,h,c,b,o,en,r,i,s,t,u,v,m,a,f98]
 ·obtain rfl:k=l.length:=by omega
  rw[zp]at a;have a:Rv none l=0:=by rw[a];rfl
  simp[f,g,h,c,a,f98]
noncomputable def FP (out:List Sp->O) (pre:List Sp->Prop):zb->Option O:=qt (α:=List Sp) (fun l=>[.sl 2 (l.map ki)]) pre out
theorem SU(out:List Sp->O)(pre:List Sp->Prop)(l:List Sp)(Y:Hp)(Z:Nat)(h:pre l):hP (FP out pre) [.sl 2 (l.map ki)] Y Z=some (out l,Y,Z):=
 aK l _ _ rfl (fun a b e=>by simp only[zi,zF]at e;exact WM e) h (.inr rfl)
theorem dq:zh prog 98 (hP (FP (fun l=>int (vJ l)) fun _=>True)):=
 Z3 (qI (q:=[56]) mixed ⟨Zj,fun _=>zq _ _,trivial⟩:AM.Good Cwl _) func98 false [] fun l _=>⟨zM (zk 1) (by decide),_,fq l,qP _⟩
theorem oT:∀{l:List Sp} {p:Option Int},Rv p l=0->Af (p.getD (-1)) l/\Below 100000 l/\∀s∈l,0<=s.1
 |[],_,_=>⟨trivial,fun s hs=>absurd hs (by simp),fun s hs=>absurd hs (by simp)⟩
 |s::l,p,h=>by
  simp only[Rv]at h;split at h
  ·cases h
  split at h
  ·cases h
  rename_i c b;obtain⟨d,e,f⟩:=oT h;simp only[spR,xo,qW,Ql,zdF,XO,z6,not_or]at c;simp only[spO,qW,z6,not_or]at b;refine⟨⟨?_,by omega,d⟩,fun x a=>?_,fun x a=>?_⟩
  ·cases p with
   |none=>show -1<s.1;omega
   |some q=>have:=b.2;simp at this;exact this
  ·rcases zx.1 a with rfl|a
   ·omega
   ·exact e x a
  ·rcases zx.1 a with rfl|a
   ·omega
   ·exact f x a
theorem XH{l:List Sp}(h:vJ l=0):Af (-1) l/\Below 100000 l/\(∀s∈l,0<=s.1)/\l.length<=100:=by
 unfold vJ at h;split at h
 ·cases h
 ·obtain⟨a,b,c⟩:=oT h;exact⟨a,b,c,by omega⟩
noncomputable def SV (out:List Sp->List Sp->O) (pre:List Sp->List Sp->Prop):zb->Option O:=qt (α:=List Sp×List Sp) (fun a=>[.sl 2 (a.1.map ki),.sl 2 (a.2.map ki)]) (fun a=>pre a.1 a.2) (fun a=>out a.1 a.2)
theorem Ag(out:List Sp->List Sp->O)(pre:List Sp->List Sp->Prop)(a b:List Sp)(Y:Hp)(Z:Nat)(h:pre a b):hP (SV out pre) [.sl 2 (a.map ki),.sl 2 (b.map ki)] Y Z=some (out a b,Y,Z):=
 aK (a,b) _ _ rfl (fun a b e=>by obtain⟨c,d⟩:=a;obtain⟨f,g⟩:=b;simp only[zi,zF]at e;rw[WM e.1,WM e.2]) h (.inr rfl)
theorem B8(f t:Int):VD [] f t=[(f,t)]:=rfl
end Go.Q
namespace Go.Proofs
open Go.Shelf
end Go.Proofs
namespace Go.Q
theorem bV{α d:Type}{f:α->d}:∀{l:List α} {m:List d},m.Perm (l.map f)->∃l':List α,l'.Perm l/\m=l'.map f:=by
 have e:∀{m n:List d},m.Perm n->∀l:List α,n=l.map f->∃l':List α,l'.Perm l/\m=l'.map f:=by
  intro m n h
  induction h with
  |nil=>intro l c;exact⟨l,.refl _,c⟩
  |cons x _ o=>
   intro l c;cases l with
   |nil=>cases c
   |cons a l=>simp only[zG,zi]at c;obtain⟨l',g,i⟩:=o l c.2;exact⟨a::l',g.cons a,by rw[zG,c.1,i]⟩
  |swap x y r=>
   intro l c
   match l,c with
   |a::b::l,c=>simp only[zG,zi]at c;exact⟨b::a::l,.swap _ _ _,by rw[zG,zG,c.1,c.2.1,c.2.2]⟩
  |trans _ _ j k=>intro l c;obtain⟨p,g,i⟩:=k l c;obtain⟨l2,q,s⟩:=j p i;exact⟨l2,q.trans g,s⟩
 intro l m h;exact e h l rfl
theorem Nq{a b:List Sp}{k:Nat}(c:k<a.length)(d:k<b.length):decide (a.drop k=b.drop k)=(decide (a[k]=b[k])&&decide (a.drop (k+1)=b.drop (k+1))):=by rw[zg c,zg d,<-Bool.decide_and];congr 1;simp only[zi]
theorem binS(x y u v:Int):Qq prog .neq 66 (.agg [int x,int y]) (.agg [int u,int v])=some (q6 (!(decide (x=u)&&decide (y=v)))):=by simp only[Qq,fl66,wS,qh,zY,gj];rfl
theorem zcL{a b:Sp}:decide (a=b)=(decide (a.1=b.1)&&decide (a.2=b.2)):=by simp[Prod.ext_iff]
theorem eC(a b:List Sp)(q:a.length<=zD):zH C0 f53 [.sl 2 (a.map ki),.sl 2 (b.map ki)]=some (q6 (decide (a=b))):=by
 unfold zD at q;refine zs rfl ?_;by_cases j:a.length=b.length
 case neg=>
  have f:((a.length:Int) != (b.length:Int))=true:=by simp;omega
  have l:¬a=b:=fun e=>j (by rw[e])
  simp[f,l,f53]
 have f:((a.length:Int) != (b.length:Int))=false:=by simp[j]
 simp[f];refine qu (fun k σ Y Z=>σ 0=.sl 2 (a.map ki)/\σ 1=.sl 2 (b.map ki)/\σ 12=int a.length/\σ 13=int k/\decide (a=b)=decide (a.drop k=b.drop k)) a.length
  ⟨by simp,by simp,by simp,by simp,by simp⟩ ?_
 rintro k σ Y Z s ⟨m,n,g,h,i⟩;by_cases d:k<a.length
 ·have c:k<b.length:=by omega
  have r:=q8 k;rw[Nq d c,zcL]at i;by_cases o:a[k].1=b[k].1<;>by_cases p:a[k].2=b[k].2<;>simp only[o,p,zgY,zas,gj,vN,Bool.and_false,kV]at i
  ·simp[m,n,g,h,d,c,o,p,r,binS];exact⟨d,by simpa using i⟩
  all_goals simp[m,n,g,h,d,c,o,p,i,binS,f53]
 ·obtain rfl:k=a.length:=by omega
  rw[zp,j,zp]at i;simp[m,n,g,h,i,f53]
theorem si:zh prog 53 (hP (SV (fun a b=>q6 (decide (a=b))) fun a _=>a.length<=zD)):=
 Z3 ku func53 false [] fun⟨a,b⟩ c=>⟨zM (zk 2) (by decide),_,eC a b c,qP _⟩
abbrev Rg:=Int×Int×Int
abbrev kc(r:Rg):zb:=[int r.1,int r.2.1,int r.2.2]
theorem Nr{a b:Rg}(h:kc a=kc b):a=b:=by simp only[zi,zF,O.v.injEq,Value.int.injEq,true_and]at h;exact Prod.ext h.1 (Prod.ext h.2.1 h.2.2)
theorem J7{a b:List Rg}(h:O.sl 3 (a.map kc)=O.sl 3 (b.map kc)):a=b:=by injection h with _ h;exact jJ (fun _ _=>Nr) h
def rgO(a:Int)(r:Rg):Bool:=(r.1 != a)||decide (r.2.1<=r.1)
def rgT(p:Option Int)(r:Rg):Bool:=match p with
 |none=>false
 |some q=>q==r.2.2
def Ns(n:Int):Int->Option Int->List Rg->Int
 |at_,_,[]=>if at_=100000 then 0 else 8
 |at_,p,r::l=>if xo r.2.2 0 (n-1)then(if rgO at_ r then 8 else if(100000:Int)<r.2.1 then 1 else if rgT p r then 7 else Ns n r.2.1 (some r.2.2) l)else 1
theorem Nt{l:List Rg}{k:Nat}(h:k<l.length)(n a:Int)(p:Option Int):Ns n a p (l.drop k)=if xo l[k].2.2 0 (n-1)then(if rgO a l[k]then 8 else if(100000:Int)<l[k].2.1 then 1 else if rgT p l[k]then 7 else Ns n l[k].2.1 (some l[k].2.2) (l.drop (k+1)))else 1:=by rw[zg h,Ns]
def lG(l:List Rg)(k:Nat):Option Int:=if k=0 then none else(l[k-1]?).map (·.2.2)
def Zv(l:List Rg)(n:Int):Int:=if l.length=0 then 9 else if(200:Int)<l.length then 2 else Ns n 0 none l
theorem nG:zh prog 96 (hP (F3 xo)):=
 kq (fn:=f96) ku (yt func96) false [] _ fun args r h=>by obtain⟨a,b,c,rfl,rfl⟩:=rH h;exact⟨by simp[f96],_,zs rfl (by simp[f96,xo]),qP _⟩
noncomputable abbrev Cwf:Ctx:=qf prog [(96,hP (F3 xo))]
theorem dt(l:List Rg)(n:Int)(N:1<=n/\n<=20):zH Cwf f60 [.sl 3 (l.map kc),int n]=some (int (Zv l n)):=by
 refine zs rfl ?_;have g:=wN (n-1);rw[Zv];by_cases v:l.length=0
 ·have:l=[]:=qQ.1 v;subst this;simp[f60]
 have q:¬l=[]:=fun h=>v (by rw[h];rfl)
 have D:((l.length:Int)==0)=false:=by simpa using q
 by_cases E:(200:Int)<l.length
 ·simp[D,v,q,E,f60]
 simp[D,v,q,E];refine qu (fun k σ Y Z=>σ 0=.sl 3 (l.map kc)/\σ 1=int n/\σ 14=.sl 3 (l.map kc)/\σ 15=int l.length/\σ 16=int k/\∃a:Int,σ 5=int a/\Ns n 0 none l=Ns n a (lG l k) (l.drop k)) l.length
  ⟨by simp,by simp,by simp,by simp,by simp,0,by simp,by simp[lG]⟩ ?_
 rintro k σ Y Z P ⟨i,m,d,e,f,a,o,b⟩;by_cases c:k<l.length
 ·have Q:=q8 k;rw[Nt c]at b;cases p:xo l[k].2.2 0 (n-1)
  case false=>rw[p]at b;simp at b;simp[i,m,o,d,e,f,c,g,p,b,f60]
  simp only[p,qh]at b;have r:((l[k].1 != a)||decide (l[k].2.1<=l[k].1))=rgO a l[k]:=rfl;cases z:rgO a l[k]
  case true=>rw[z]at r b;simp only[qh]at b;simp[i,m,o,d,e,f,c,g,p,r,b,f60]
  rw[z]at r;simp only[z,zv,qz]at b;by_cases s:(100000:Int)<l[k].2.1
  ·rw[zl s]at b;simp[i,m,o,d,e,f,c,g,p,r,s,b,f60]
  rw[zj s]at b;have t:lG l (k+1)=some l[k].2.2:=by simp[lG,c]
  by_cases K:k=0
  ·subst K;simp only[lG,qh,rgT,zv,qz]at b;have L:=wN 1;simp[i,m,o,d,e,f,c,g,p,r,s,L];exact⟨c,by rw[b,t];simp⟩
  ·obtain⟨j,rfl⟩:∃j,k=j+1:=⟨k-1,by omega⟩;have A:j<l.length:=by omega
   have F:i6.wrap ((j:Int)+1-1)=(j:Int):=by rw[wM (by omega) (by omega)];omega
   have u:=wN (j:Int);have G:((j:Int)+1).toNat=j+1:=by omega
   have H:0<(j:Int)+1:=by omega
   have I:0<=(j:Int)+1:=by omega
   have J:(j:Int)+1<l.length:=by omega
   have M:=wN ((j:Int)+1+1);have B:lG l (j+1)=some l[j].2.2:=by simp[lG,A]
   have w:(l[j].2.2==l[j+1].2.2)=rgT (some l[j].2.2) l[j+1]:=rfl;rw[B]at b;cases x:rgT (some l[j].2.2) l[j+1]
   ·rw[x]at w;simp only[x,zv,qz]at b;simp[i,m,o,d,e,f,c,A,g,p,r,s,w,F,u,G,H,I,J,M];exact⟨by omega,by rw[b,t]⟩
   ·rw[x]at w;simp only[x,qh]at b;simp[i,m,o,d,e,f,c,A,g,p,r,s,w,F,u,G,H,I,J,b,f60]
 ·obtain rfl:k=l.length:=by omega
  rw[zp,Ns]at b;by_cases y:a=100000
  ·rw[zl y]at b;simp[i,m,o,d,e,f,y,b,f60]
  ·rw[zj y]at b;have C:(a != 100000)=true:=by simpa using y
   simp[i,m,o,d,e,f,C,b,f60]
noncomputable def FRN (out:List Rg->Int->O) (pre:List Rg->Int->Prop):zb->Option O:=qt (α:=List Rg×Int) (fun a=>[.sl 3 (a.1.map kc),int a.2]) (fun a=>pre a.1 a.2) (fun a=>out a.1 a.2)
theorem Nu(out:List Rg->Int->O)(pre:List Rg->Int->Prop)(l:List Rg)(n:Int)(Y:Hp)(Z:Nat)(h:pre l n):hP (FRN out pre) [.sl 3 (l.map kc),int n] Y Z=some (out l n,Y,Z):=
 aK (l,n) _ _ rfl (fun a b e=>by obtain⟨c,d⟩:=a;obtain⟨f,g⟩:=b;simp only[zi,zF]at e;rw[J7 e.1,qE e.2]) h (.inr rfl)
theorem bW:zh prog 60 (hP (FRN (fun l n=>int (Zv l n)) fun _ n=>1<=n/\n<=20)):=
 Z3 (qI (q:=[96]) mixed ⟨nG,fun _=>zq _ _,trivial⟩:AM.Good Cwf _) func60 false [] fun⟨l,n⟩ a=>⟨zM (zk 2) (by decide),_,dt l n a,qP _⟩
def Ah(n:Int):Int->Int->Option Int->List Rg->Prop
 |lo,a,_,[]=>lo=a
 |lo,a,p,r::l=>r.1=lo/\r.1<r.2.1/\r.2.1<=a/\0<=r.2.2/\r.2.2<n/\p≠some r.2.2/\Ah n r.2.1 a (some r.2.2) l
theorem oU:∀{n a:Int} {p:Option Int} {l:List Rg},Ns n a p l=0->Ah n a 100000 p l
 |_,_,_,[],h=>by
  unfold Ns at h;split at h
  ·assumption
  ·cases h
 |n,a,p,r::l,h=>by
  unfold Ns at h;split at h
  case isFalse=>cases h
  rename_i b;split at h
  case isTrue=>cases h
  rename_i c;split at h
  case isTrue=>cases h
  rename_i e;split at h
  case isTrue=>cases h
  rename_i d;simp only[xo,zn,z6]at b;simp only[rgO,qW,zar,ne_eq,z6,not_or,Decidable.not_not]at c;refine⟨c.1,by omega,by omega,b.1,by omega,?_,oU h⟩;rintro rfl;exact d (by simp[rgT])
theorem XI{l:List Rg}{n:Int}(h:Zv l n=0):Ah n 0 100000 none l/\l.length<=200/\0<l.length:=by
 unfold Zv at h;split at h
 ·cases h
 split at h
 ·cases h
 exact⟨oU h,by omega,by omega⟩
structure yp where
 name:List UInt8
 we:List UInt8
 rest:Int
def yp.V(x:yp):zb:=[str x.name,str x.we,int x.rest]
theorem V2{a b:yp}(h:a.V=b.V):a=b:=by cases a;cases b;simp only[yp.V,zi,zF]at h;rw[wT h.1,wT h.2.1,qE h.2.2]
structure y7 where
 name:List UInt8
 we:List UInt8
 buckets:Int
 zr:List (List UInt8)
def y7.V(x:y7):zb:=[str x.name,str x.we,int x.buckets,.sl 1 (zA x.zr)]
theorem fU{a b:y7}(h:a.V=b.V):a=b:=by
 cases a;cases b;simp only[y7.V,zi,zF]at h;obtain⟨d,e,f,c⟩:=h;injection c with _ c
 rw[wT d,wT e,qE f,kC c]
structure yk where
 at_:Int
 qw:List Sp
def yk.V(x:yk):zb:=[int x.at_,.sl 2 (x.qw.map ki)]
theorem bX{a b:yk}(h:a.V=b.V):a=b:=by cases a;cases b;simp only[yk.V,zi,zF]at h;rw[qE h.1,WM h.2]
structure Xp where
 name:List UInt8
 w9:List UInt8
 flag:List UInt8
 cond:Cnd
 we:List UInt8
 ja:List Rg
 zQ:List yk
def Xp.V(x:Xp):zb:=[str x.name,str x.w9,str x.flag]++x.cond.V++[str x.we,.sl 3 (x.ja.map kc),.sl 2 (x.zQ.map yk.V)]
theorem yy(x:Xp):x.V=[str x.name,str x.w9,str x.flag,int x.cond.kind,str x.cond.attr,int x.cond.op,.sl 5 (x.cond.jd.map Val.V),str x.cond.pat,str x.cond.name,.sl 7 (x.cond.args.map Cnd.V),str x.we,.sl 3 (x.ja.map kc),.sl 2 (x.zQ.map yk.V)]:=by unfold Xp.V;rw[qH];rfl
theorem du{a b:Xp}(h:a.V=b.V):a=b:=by
 have e:a.cond.V=b.cond.V:=by rw[yy,yy]at h;simp only[zi,zF]at h;rw[qH,qH];simp only[zi,zF];exact⟨h.2.2.2.1,h.2.2.2.2.1,h.2.2.2.2.2.1,h.2.2.2.2.2.2.1,h.2.2.2.2.2.2.2.1,h.2.2.2.2.2.2.2.2.1,h.2.2.2.2.2.2.2.2.2.1⟩
 have c:=QX e;rw[yy,yy]at h;simp only[zi,zF]at h;obtain⟨f,g,i,_,_,_,_,_,_,_,j,k,d⟩:=h;cases a;cases b;simp only at *;injection d with _ d
 rw[wT f,wT g,wT i,c,wT j,J7 k,jJ (fun _ _=>bX) d]
structure Bk where
 zr:List yp
 holds:List y7
 wP:List Xp
def Bk.V(b:Bk):zb:=[.sl 3 (b.zr.map yp.V),.sl 4 (b.holds.map y7.V),.sl 13 (b.wP.map Xp.V)]
theorem DF{a b:Bk}(h:a.V=b.V):a=b:=by
 cases a;cases b;simp only[Bk.V,zi,zF]at h;obtain⟨c,d,e⟩:=h;injection c with _ c
 injection d with _ d;injection e with _ e;rw[jJ (fun _ _=>V2) c,jJ (fun _ _=>fU) d,jJ (fun _ _=>du) e]
def jh{α:Type}(f:α->Nat)(l:List α):Nat:=(l.map f).sum
theorem jO{α:Type}{f:α->Nat}:∀{l:List α} {x:α},x∈l->f x<=jh f l
 |y::l,x,h=>by
  simp only[jh,zG,jT];rcases zx.1 h with rfl|h
  ·omega
  ·have:=jO (f:=f) h;simp only[jh]at this;omega
theorem yD{α:Type}{f:α->Nat}(a:∀x,1<=f x):∀l:List α,l.length<=jh f l
 |[]=>by simp
 |y::l=>by have:=yD a l;have:=a y;simp only[jh,zG,jT,ze]at *;omega
def yp.cb(x:yp):Nat:=1+x.name.length+x.we.length
def y7.cb(x:y7):Nat:=1+x.name.length+x.we.length+jh (fun s=>1+s.length) x.zr
def yk.cb(x:yk):Nat:=1+x.qw.length
def Xp.cb(x:Xp):Nat:=x.name.length+x.w9.length+x.flag.length+x.cond.cb+x.we.length+x.ja.length+jh yk.cb x.zQ
def Bk.cb(b:Bk):Nat:=jh yp.cb b.zr+jh y7.cb b.holds+jh Xp.cb b.wP
theorem J8(x:yp):1<=x.cb:=by unfold yp.cb;omega
theorem fV(x:y7):1<=x.cb:=by unfold y7.cb;omega
theorem bY(x:yk):1<=x.cb:=by unfold yk.cb;omega
theorem DG(x:Xp):1<=x.cb:=by have:=iN x.cond;unfold Xp.cb;omega
theorem DH(a b:UInt8):a<b\/a=b\/b<a:=by
 rcases Nat.lt_trichotomy a.toNat b.toNat with h|h|h
 ·exact .inl (yA.2 h)
 ·exact .inr (.inl (yg.1 h))
 ·exact .inr (.inr (yA.2 h))
theorem lH(a:UInt8):¬a<a:=fun h=>Nat.lt_irrefl _ (yA.1 h)
theorem Ai{a b:UInt8}(h:a<b):¬b<a:=fun c=>Nat.lt_asymm (yA.1 h) (yA.1 c)
theorem Nv{a b c:UInt8}(h:a<b)(d:b<c):a<c:=yA.2 (Nat.lt_trans (yA.1 h) (yA.1 d))
theorem sj:∀a b:za,jU a b<0↔Op.bytesLess a b=true
 |[],[]=>by simp[jU,Lib.compareBytes,Op.bytesLess]
 |[],_::_=>by simp[jU,Lib.compareBytes,Op.bytesLess]
 |_::_,[]=>by simp[jU,Lib.compareBytes,Op.bytesLess]
 |a::x,b::y=>by
  have d:=sj x y;unfold jU at d⊢;rcases DH a b with h|rfl|h
  ·simp[Lib.compareBytes,Op.bytesLess,h]
  ·simp[Lib.compareBytes,Op.bytesLess,lH,d]
  ·have c:¬a=b:=fun e=>lH b (e ▸ h)
   simp[Lib.compareBytes,Op.bytesLess,h,Ai h,c]
theorem dv:∀a b:za,jU a b=0↔a=b
 |[],[]=>by simp[jU,Lib.compareBytes]
 |[],_::_=>by simp[jU,Lib.compareBytes]
 |_::_,[]=>by simp[jU,Lib.compareBytes]
 |a::x,b::y=>by
  have d:=dv x y;unfold jU at d⊢;rcases DH a b with h|rfl|h
  ·have c:¬a=b:=fun e=>lH b (e ▸ h)
   simp[Lib.compareBytes,h,c]
  ·simp[Lib.compareBytes,lH,d]
  ·have c:¬a=b:=fun e=>lH b (e ▸ h)
   simp[Lib.compareBytes,h,Ai h,c]
theorem lI:∀{a b c:za},Op.bytesLess a b=true->Op.bytesLess b c=true->Op.bytesLess a c=true
 |_,[],_,h,_=>by simp[Op.bytesLess]at h
 |_,_::_,[],_,h=>by simp[Op.bytesLess]at h
 |[],_::_,_::_,_,_=>by simp[Op.bytesLess]
 |a::x,b::y,c::z,e,d=>by
  simp only[Op.bytesLess,qW,z6,zn,w7]at e d⊢;rcases e with e|⟨rfl,e⟩
  ·rcases d with d|⟨rfl,d⟩
   ·exact .inl (Nv e d)
   ·exact .inl e
  ·rcases d with d|⟨rfl,d⟩
   ·exact .inl d
   ·exact .inr ⟨rfl,lI e d⟩
theorem Yc:∀{a b:za},Ca a b=false->Op.bytesLess b a=true
 |[],[],h=>by simp[Ca]at h
 |[],_::_,h=>by simp[Ca,Op.bytesLess]at h
 |_::_,[],_=>by simp[Op.bytesLess]
 |a::x,b::y,h=>by
  simp only[Ca,Op.bytesLess,Ju,XO,zdF,qM]at h;obtain⟨⟨d,c⟩,f⟩:=h;simp only[Op.bytesLess,qW,z6,zn,w7];rcases DH a b with g|rfl|g
  ·exact absurd g d
  ·refine .inr ⟨rfl,Yc ?_⟩;rcases c with c|c
   ·exact absurd rfl c
   ·have:¬x=y:=fun e=>f (by rw[e])
    simp[Ca,c,this]
  ·exact .inl g
def dw(f:Nat->Bool)(lo a:Nat):Nat:=if h:lo<a then(if f ((lo+a)/2)then dw f ((lo+a)/2+1) a else dw f lo ((lo+a)/2))else lo
termination_by a-lo
decreasing_by all_goals omega
theorem HG{f:Nat->Bool}{lo a:Nat}(h:lo<a):dw f lo a=if f ((lo+a)/2)then dw f ((lo+a)/2+1) a else dw f lo ((lo+a)/2):=by rw[dw,dif_pos h]
theorem Nw{f:Nat->Bool}{lo a:Nat}(h:¬lo<a):dw f lo a=lo:=by rw[dw,dif_neg h]
noncomputable def lJ (l:List za) (s:za) (k:Nat):Bool:=match l[k]? with
 |some x=>decide (jU x s<0)
 |none=>false
noncomputable def dx (l:List za) (s:za):Nat×Bool:=(dw (lJ l s) 0 l.length,match l[dw (lJ l s) 0 l.length]? with
 |some x=>jU x s==0
 |none=>false)
theorem DI{l:List za}{s:za}(h:(dx l s).2=true):l[(dx l s).1]?=some s:=by
 unfold dx at h⊢;simp only at h⊢;split at h
 ·rename_i x a;rw[a,(dv x s).1 (by simpa using h)]
 ·cases h
theorem zcM{l:List za}{s:za}(h:(dx l s).2=true):(dx l s).1<l.length:=(zd.1 (DI h)).1
def UpN(l:List za):Prop:=l.Pairwise fun a b=>Op.bytesLess a b=true
theorem Nx(a:za):Op.bytesLess a a=false:=by
 cases h:Op.bytesLess a a with
 |false=>rfl
 |true=>have b:=(sj a a).2 h;have c:=(dv a a).2 rfl;omega
def xA(name a:za):Int:=if qS name=true then(if Ca name a=true then 8 else 0)else 5
noncomputable def Ny (f:za->za->O):zb->Option O:=qt (α:=za×za) (fun a=>[str a.1,str a.2]) (fun a=>a.1.length<=zD) (fun a=>f a.1 a.2)
theorem dy(f:za->za->O)(a b:za)(Y:Hp)(Z:Nat)(h:a.length<=zD)(c:(f a b).flat=true):hP (Ny f) [str a,str b] Y Z=some (f a b,Y,Z):=
 aK (a,b) _ _ rfl rI h (.inl c)
noncomputable abbrev Cnf:Ctx:=qf prog [(58,hP (FS qS))]
theorem Wf:zh prog 54 (hP (Ny fun a b=>int (xA a b))):=
 Z3 (qD mixed ⟨JR,trivial⟩:AM.Good Cnf _) func54 false [] fun⟨a,b⟩ d=>by
  have c:(Op.bytesLess a b||a==b)=Ca a b:=rfl;refine⟨by simp[f54],_,zs rfl ?_,qP _⟩;simp only at d;cases e:qS a
  ·simp[d,e,xA,f54]
  ·cases f:Ca a b
   ·simp[d,e,c,f,xA,f54]
   ·simp[d,e,c,f,xA,f54]
def Qw(s:za):Bool:=xo s.length 1 40&&K1 s
noncomputable abbrev Csl:Ctx:=qf prog [(56,hP (F3 xo)),(120,hP (FS K1))]
@[simp]theorem zgs:yH Csl 120:=wD (by rfl) (zq _ _)
theorem sk:zh prog 89 (hP (FS Qw)):=
 Z3 (qI (q:=[56,120]) mixed ⟨Zj,fun _=>zq _ _,uh,fun _=>zq _ _,trivial⟩:AM.Good Csl _) func89 false [] fun l Y=>⟨by simp[f89],_,zs rfl (by simp[Y,Qw,f89]),qP _⟩
def oV(n:Int):Bool:=xo n 0 4000000000
noncomputable abbrev Ctm:Ctx:=qf prog [(56,hP (F3 xo))]
theorem sn:zh prog 97 (hP (Cb oV)):=
 kq (fn:=f97) (qD mixed ⟨Zj,trivial⟩:AM.Good Ctm _) (yt func97) false [] _ fun args r h=>by obtain⟨a,rfl,rfl⟩:=fT h;exact⟨by simp[f97],_,zs rfl (by simp[oV,f97]),qP _⟩
noncomputable def Nz:zb->Option O:=qt (α:=yp×za) (fun a=>[.agg a.1.V,str a.2]) (fun _=>True) (fun a=>int (jU a.1.name a.2))
theorem lK(x:yp)(s:za)(Y:Hp)(Z:Nat):hP Nz [.agg x.V,str s] Y Z=some (int (jU x.name s),Y,Z):=
 aK (x,s) _ _ (by simp[yp.V]) (fun a b e=>by obtain⟨c,d⟩:=a;obtain⟨f,g⟩:=b;simp only[zi,zF,O.agg.injEq]at e;rw[V2 e.1,wT e.2]) trivial (.inl rfl)
noncomputable abbrev zgt:Ctx:=qf prog [(92,hP (Sn jU))]
theorem DJ:zh prog 91 (hP Nz):=
 Z3 (qD mixed ⟨vn,trivial⟩:AM.Good zgt _) func91 false [] fun⟨x,s⟩ _=>⟨by simp[f91],_,zs rfl (by simp[f91,yp.V]),qP _⟩
noncomputable def FBsL:zb->Option O:=qt (α:=List yp×za) (fun a=>[.sl 3 (a.1.map yp.V),str a.2,.fn (.func 91) [] []]) (fun a=>a.1.length<=zD) (fun a=>.qZ [int (dx (a.1.map yp.name) a.2).1,q6 (dx (a.1.map yp.name) a.2).2])
theorem HH(l:List yp)(s:za)(Y:Hp)(Z:Nat)(h:l.length<=zD):hP FBsL [.sl 3 (l.map yp.V),str s,.fn (.func 91) [] []] Y Z=some (.qZ [int (dx (l.map yp.name) s).1,q6 (dx (l.map yp.name) s).2],Y,Z):=
 aK (l,s) _ _ rfl (fun a b e=>by obtain⟨f,g⟩:=a;obtain⟨i,j⟩:=b;simp only[zi,zF]at e;obtain⟨c,d⟩:=e;injection c with _ c;rw[jJ (fun _ _=>V2) c,wT d]) h (.inl rfl)
noncomputable abbrev CbsL:Ctx:=qf prog [(91,hP Nz)]
theorem NA(l:List yp)(s:za)(w:l.length<=zD):zH CbsL f90 [.sl 3 (l.map yp.V),str s,.fn (.func 91) [] []]=some (.qZ [int (dx (l.map yp.name) s).1,q6 (dx (l.map yp.name) s).2]):=by
 refine zs rfl ?_;unfold zD at w;have h:(l.map yp.name).length=l.length:=by simp
 simp;refine ba (fun st=>st.σ 0=.sl 3 (l.map yp.V)/\st.σ 1=str s/\st.σ 2=.fn (.func 91) [] []/\st.σ 8=int l.length/\∃lo hi:Nat,lo<=hi/\hi<=l.length/\st.σ 9=int lo/\st.σ 10=int hi/\dw (lJ (l.map yp.name) s) 0 (l.map yp.name).length=dw (lJ (l.map yp.name) s) lo hi)
  (fun st=>(ua (st.σ 10)).toNat-(ua (st.σ 9)).toNat) ⟨by simp,by simp,by simp,by simp,0,l.length,by simp,by simp,by simp,by simp,by rw[h]⟩ ?_
 rintro⟨σ,Y,Z⟩ ⟨i,j,k,n,lo,hi,y,t,o,d,f⟩;simp only at i j k n o d;by_cases b:lo<hi
 ·have a:=fun x Y Z=>lK x s Y Z
  have v:=wN ((lo:Int)+hi);have z:(lo+hi)/2<l.length:=by omega
  obtain⟨m,A⟩:∃m,m=(lo+hi)/2:=⟨_,rfl⟩;have g:i6.wrap ((IntKind.u64.wrap ((lo:Int)+hi)).fdiv (2 ^ min 1 IntKind.u64.bits))=(m:Int):=by
   have B:IntKind.u64.wrap ((lo:Int)+hi)=(lo:Int)+hi:=by rw[IntKind.wrap_u64];omega
   have C:(2 ^ min 1 IntKind.u64.bits:Int)=2:=by decide
   rw[B,C,Int.fdiv_eq_ediv_of_nonneg _ (by omega),wM (by omega) (by omega)];omega
  have e:m<l.length:=by omega
  have D:=q8 m;have u:lJ (l.map yp.name) s m=decide (jU l[m].name s<0):=by simp[lJ,e]
  rw[HG (lo:=lo) b,<-A,u]at f;have c:=a l[m];simp only[yp.V]at c;by_cases r:jU l[m].name s<0
  ·simp only[r,zgY,qh]at f;simp[i,j,k,n,o,d,b,v,g,e,c,r,D,yp.V];exact⟨⟨m+1,hi,by omega,t,by omega,rfl,by rw[h]at f;exact f⟩,by omega⟩
  ·simp only[r,zas,zv,qz]at f;simp[i,j,k,n,o,d,b,v,g,e,c,r,yp.V];exact⟨⟨lo,m,by omega,by omega,rfl,rfl,by rw[h]at f;exact f⟩,by omega⟩
 ·have f:dw (lJ (l.map yp.name) s) 0 (l.map yp.name).length=lo:=by rw[f,Nw (lo:=lo) b]
  have a:=fun x Y Z=>lK x s Y Z
  unfold dx;rw[f];by_cases p:lo<l.length
  ·have c:=a l[lo];simp only[yp.V]at c;simp[i,j,k,n,o,d,b,p,c,yp.V,f90,jB]
  ·have q:l[lo]?=none:=qY (by omega);simp[i,j,k,n,o,d,b,p,q,f90,jB]
theorem HI:zh prog 90 (hP FBsL):=
 Z3 (qI (q:=[91]) mixed ⟨DJ,fun _=>zq _ _,trivial⟩:AM.Good CbsL _) func90 false [] fun⟨l,s⟩ a=>⟨zM (zk 3) (by decide),_,NA l s a,qP _⟩
noncomputable def NB:zb->Option O:=qt (α:=List yp×za) (fun a=>[.sl 3 (a.1.map yp.V),str a.2]) (fun a=>a.1.length<=zD) (fun a=>.qZ [int (dx (a.1.map yp.name) a.2).1,q6 (dx (a.1.map yp.name) a.2).2])
theorem dz(l:List yp)(s:za)(Y:Hp)(Z:Nat)(h:l.length<=zD):hP NB [.sl 3 (l.map yp.V),str s] Y Z=some (.qZ [int (dx (l.map yp.name) s).1,q6 (dx (l.map yp.name) s).2],Y,Z):=
 aK (l,s) _ _ rfl (fun a b e=>by obtain⟨f,g⟩:=a;obtain⟨i,j⟩:=b;simp only[zi,zF]at e;obtain⟨c,d⟩:=e;injection c with _ c;rw[jJ (fun _ _=>V2) c,wT d]) h (.inl rfl)
noncomputable abbrev CofL:Ctx:=qf prog [(90,hP FBsL)]
theorem dA:zh prog 57 (hP NB):=
 Z3 (qD mixed ⟨HI,trivial⟩:AM.Good CofL _) func57 false [] fun⟨l,s⟩ a=>by
  have b:=fun Y Z=>HH l s Y Z a
  exact⟨by simp[f57],_,zs rfl (by simp[b,jB,f57]),qP _⟩
def sq(p:Option Int)(x:Int):Bool:=match p with
 |none=>false
 |some q=>decide (x<=q)
def Ce:Option Int->List Sp->List yk->Int
 |_,_,[]=>0
 |p,b,x::l=>if oV x.at_=true then(if sq p x.at_=true then 8 else if vJ x.qw=0 then(if x.qw=b then 7 else Ce (some x.at_) x.qw l)else vJ x.qw)else 1
def ko(l:List yk):Int:=if(50:Int)<l.length then 2 else Ce none [] l
def eD(l:List yk)(k:Nat):Option Int:=if k=0 then none else(l[k-1]?).map (·.at_)
theorem nH:zh prog 53 (yS false [2,2] (SV (fun a b=>q6 (decide (a=b))) fun a _=>a.length<=zD)):=
 Z3 ku func53 false [2,2] fun⟨a,b⟩ c=>⟨zM (zk 2) (by decide),_,eC a b c,qP _⟩
theorem NC(a b:List Sp)(v:O)(Y:Hp)(Z:Nat)(h:a.length<=zD)(c:v=.sl 2 (b.map ki)\/(v=.nil/\b=[])):yS false [2,2] (SV (fun a b=>q6 (decide (a=b))) fun a _=>a.length<=zD) [.sl 2 (a.map ki),v] Y Z=some (q6 (decide (a=b)),Y,Z):=by
 have hs:SV (fun a b=>q6 (decide (a=b))) (fun a _=>a.length<=zD) [.sl 2 (a.map ki),.sl 2 (b.map ki)]=some (q6 (decide (a=b))):=
  qj (V:=fun a:List Sp×List Sp=>[O.sl 2 (a.1.map ki),.sl 2 (a.2.map ki)]) (a:=(a,b)) (fun a b e=>by obtain⟨d,f⟩:=a;obtain⟨g,i⟩:=b;simp only[zi,zF]at e;rw[WM e.1,WM e.2]) h
 rcases c with rfl|⟨rfl,rfl⟩
 ·exact wL rfl hs (.inl rfl)
 ·exact wL rfl hs (.inl rfl)
noncomputable abbrev Cph:Ctx:=qf prog [(97,hP (Cb oV)),(98,hP (FP (fun l=>int (vJ l)) fun _=>True)),(53,yS false [2,2] (SV (fun a b=>q6 (decide (a=b))) fun a _=>a.length<=zD))]
theorem zcN:Gd Cph:=qD mixed ⟨sn,dq,nH,trivial⟩
noncomputable def FPh (out:List yk->O):zb->Option O:=qt (α:=List yk) (fun l=>[.sl 2 (l.map yk.V)]) (fun l=>jh yk.cb l<=zD) out
theorem Aj{a b:List yk}(h:O.sl 2 (a.map yk.V)=O.sl 2 (b.map yk.V)):a=b:=by injection h with _ h;exact jJ (fun _ _=>bX) h
theorem ND(out:List yk->O)(l:List yk)(Y:Hp)(Z:Nat)(h:jh yk.cb l<=zD):hP (FPh out) [.sl 2 (l.map yk.V)] Y Z=some (out l,Y,Z):=
 aK l _ _ rfl (fun a b e=>by simp only[zi,zF]at e;exact Aj e) h (.inr rfl)
theorem Ak(l:List yk)(h:jh yk.cb l<=zD):zH Cph f61 [.sl 2 (l.map yk.V)]=some (int (ko l)):=by
 have F:=yD bY l;unfold zD at h;refine zs rfl ?_;by_cases q:(50:Int)<l.length
 ·have E:ko l=2:=by unfold ko;rw[zl q]
  simp[q,E,f61]
 have E:ko l=Ce none [] l:=by unfold ko;rw[zj q]
 rw[E];simp[q];refine qu (fun k σ Y Z=>σ 0=.sl 2 (l.map yk.V)/\σ 10=.sl 2 (l.map yk.V)/\σ 11=int l.length/\σ 12=int k/\∃b,(σ 3=.sl 2 (b.map ki)\/(σ 3=.nil/\b=[]))/\Ce none [] l=Ce (eD l k) b (l.drop k)) l.length
  ⟨by simp,by simp,by simp,by simp,[],.inr ⟨by simp,rfl⟩,by simp[eD]⟩ ?_
 rintro k σ Y Z N ⟨r,d,e,g,b,G,a⟩;by_cases c:k<l.length
 ·have H:=jO (f:=yk.cb) (zo c);obtain⟨x,n⟩:=yb (l[k]);have w:eD l (k+1)=some x.at_:=by simp[eD,c,n]
  rw[n]at H;have I:x.cb=1+x.qw.length:=rfl;rw[zg c,n]at a;simp only[Ce]at a;have J:∀h:k<(l.map yk.V).length,(l.map yk.V)[k]=x.V:=fun h=>by simp[n]
  have m:=fun Y Z=>SU (fun l=>int (vJ l)) (fun _=>True) x.qw Y Z trivial
  have i:=fun Y Z=>NC x.qw b (σ 3) Y Z (by unfold zD;omega) G
  have K:=q8 k;cases p:oV x.at_
  case false=>rw[p,zj (by simp)]at a;simp[r,d,e,g,c,n,yk.V,p,a,f61]
  rw[p,zl rfl]at a;have step:∀(Y:Hp) (Z:Nat) (o:sq (eD l k) x.at_=false),Ce none [] l=if vJ x.qw=0 then(if x.qw=b then 7 else Ce (some x.at_) x.qw (l.drop (k+1)))else vJ x.qw:=fun _ _ o=>by rw[o,zj (by simp)]at a;exact a
  by_cases L:k=0
  ·subst L;have a:=step Y Z rfl;by_cases hs:vJ x.qw=0
   case neg=>rw[zj hs]at a;have u:=Xo hs;simp[r,d,e,g,c,n,yk.V,p,m,u,a,f61]
   rw[zl hs]at a;by_cases s:x.qw=b
   ·rw[zl s]at a;rw[cB s]at i;simp[r,d,e,g,c,n,yk.V,p,m,hs,i,a,f61]
   ·rw[zj s]at a;rw[zbv s]at i;simp[r,d,e,g,c,n,yk.V,p,m,hs,i,K];exact⟨by omega,x.qw,rfl,by rw[a,show eD l 1=some x.at_ from w];simp⟩
  ·obtain⟨j,rfl⟩:∃j,k=j+1:=⟨k-1,by omega⟩;have y:j<l.length:=by omega
   have z:i6.wrap ((j:Int)+1-1)=(j:Int):=by rw[wM (by omega) (by omega)];omega
   have t:=wN (j:Int);have M:=wN ((j:Int)+1+1);have A:((j:Int)+1).toNat=j+1:=by omega
   have B:0<(j:Int)+1:=by omega
   have C:0<=(j:Int)+1:=by omega
   have D:(j:Int)+1<l.length:=by omega
   have o:sq (eD l (j+1)) x.at_=decide (x.at_<=l[j].at_):=by simp[eD,y,sq]
   by_cases v:x.at_<=l[j].at_
   ·rw[o,zl (by simpa using v)]at a;simp[r,d,e,g,c,y,n,yk.V,p,z,t,A,B,C,D,v,a,f61]
   have a:=step Y Z (by rw[o];simpa using v);by_cases hs:vJ x.qw=0
   case neg=>rw[zj hs]at a;have u:=Xo hs;simp[r,d,e,g,c,y,n,yk.V,p,z,t,A,B,C,D,v,m,u,a,f61]
   rw[zl hs]at a;by_cases s:x.qw=b
   ·rw[zl s]at a;rw[cB s]at i;simp[r,d,e,g,c,y,n,yk.V,p,z,t,A,B,C,D,v,m,hs,i,a,f61]
   ·rw[zj s]at a;rw[zbv s]at i;simp[r,d,e,g,c,y,n,yk.V,p,z,t,M,A,B,C,D,v,m,hs,i];exact⟨by omega,x.qw,rfl,by rw[a,w]⟩
 ·obtain rfl:k=l.length:=by omega
  rw[zp]at a;simp only[Ce]at a;simp[r,d,e,g,a,f61]
theorem sr:zh prog 61 (hP (FPh fun l=>int (ko l))):=
 Z3 zcN func61 false [] fun l a=>⟨by simp[f61],_,Ak l a,qP _⟩
def al(l:List yk)(i:Nat):Int:=match l[i+1]? with
 |some p=>p.at_
 |none=>1125899906842624
noncomputable def FPi2 (f:List yk->Nat->O):zb->Option O:=qt (α:=List yk×Nat) (fun a=>[.sl 2 (a.1.map yk.V),int a.2]) (fun a=>a.1.length<=zD/\a.2<=zD) (fun a=>f a.1 a.2)
theorem oW(f:List yk->Nat->O)(l:List yk)(i:Nat)(Y:Hp)(Z:Nat)(h:l.length<=zD/\i<=zD):hP (FPi2 f) [.sl 2 (l.map yk.V),int i] Y Z=some (f l i,Y,Z):=
 aK (l,i) _ _ rfl (fun a b e=>by obtain⟨g,c⟩:=a;obtain⟨j,d⟩:=b;simp only[zi,zF]at e;have:=qE e.2;rw[Aj e.1,show c=d by omega]) h (.inr rfl)
theorem HJ:zh prog 100 (hP (FPi2 fun l i=>int (al l i))):=
 Z3 ku func100 false [] fun⟨l,i⟩ ⟨d,e⟩=>by
  unfold zD at d e;simp only at d e;refine⟨by simp[f100],_,zs rfl ?_,qP _⟩;have f:=q8 i;by_cases b:i+1<l.length
  ·have a:(i:Int)+1<l.length:=by omega
   have g:((i:Int)+1).toNat=i+1:=by omega
   have h:0<=(i:Int)+1:=by omega
   simp[f,b,a,g,h,al,yk.V,f100]
  ·have a:¬(i:Int)+1<l.length:=by omega
   have c:l[i+1]?=none:=qY (by omega);simp[f,a,al,c,f100]
def vZ:List Sp->List Sp->Bool
 |a::l,b::m=>if a.2<=b.1 then vZ l (b::m)else if b.2<=a.1 then vZ (a::l) m else true
 |_,_=>false
termination_by a b=>a.length+b.length
theorem DK{a b:List Sp}{i k:Nat}(c:i<a.length)(d:k<b.length):vZ (a.drop i) (b.drop k)=if a[i].2<=b[k].1 then vZ (a.drop (i+1)) (b.drop k)else if b[k].2<=a[i].1 then vZ (a.drop i) (b.drop (k+1))else true:=by rw[zg c,zg d,vZ]
theorem Al(b:List Sp):vZ [] b=false:=by unfold vZ;rfl
theorem Am(a:List Sp):vZ a []=false:=by cases a<;>(unfold vZ;rfl)
theorem DL(a b:List Sp)(n:a.length<=zD)(o:b.length<=zD):zH C0 f101 [.sl 2 (a.map ki),.sl 2 (b.map ki)]=some (q6 (vZ a b)):=by
 unfold zD at n o;refine zs rfl ?_;simp;refine ba (fun st=>st.σ 0=.sl 2 (a.map ki)/\st.σ 1=.sl 2 (b.map ki)/\∃i k:Nat,st.σ 5=int i/\st.σ 6=int k/\i<=a.length/\k<=b.length/\vZ a b=vZ (a.drop i) (b.drop k))
  (fun st=>a.length+b.length-(ua (st.σ 5)).toNat-(ua (st.σ 6)).toNat) ⟨by simp,by simp,0,0,by simp,by simp,by simp,by simp,by simp⟩ ?_
 rintro⟨σ,Y,Z⟩ ⟨f,g,i,k,h,j,p,q,c⟩;simp only at f g h j;by_cases d:i<a.length
 ·by_cases e:k<b.length
  ·rw[DK d e]at c;have r:=q8 i;have s:=q8 k;by_cases l:a[i].2<=b[k].1
   ·rw[zl l]at c;simp[f,g,h,j,d,e,l,r];exact⟨⟨i+1,by omega,k,rfl,by omega,q,c⟩,by omega⟩
   ·rw[zj l]at c;by_cases m:b[k].2<=a[i].1
    ·rw[zl m]at c;simp[f,g,h,j,d,e,l,m,s];exact⟨⟨i,rfl,k+1,by omega,p,by omega,c⟩,by omega⟩
    ·rw[zj m]at c;simp[f,g,h,j,d,e,l,m,c,f101]
  ·obtain rfl:k=b.length:=by omega
   rw[zp,Am]at c;simp[f,g,h,j,d,c,f101]
 ·obtain rfl:i=a.length:=by omega
  rw[zp,Al]at c;simp[f,g,h,j,c,f101]
theorem Ao:zh prog 101 (hP (SV (fun a b=>q6 (vZ a b)) fun a b=>a.length<=zD/\b.length<=zD)):=
 Z3 ku func101 false [] fun⟨a,b⟩ c=>⟨by simp[f101],_,DL a b c.1 c.2,qP _⟩
def NF(a b:List yk)(i k:Nat)(p q:yk)(rest:Int):Bool:=(decide (p.at_<=q.at_)&&decide (q.at_<al a i+rest))||(decide (q.at_<=p.at_)&&decide (p.at_<al b k+rest))
def SX(a b:List yk)(i k:Nat)(p q:yk)(rest:Int):Bool:=NF a b i k p q rest&&vZ p.qw q.qw
def Vc(a b:List yk)(i:Nat)(p:yk)(rest:Int):Nat->List yk->Bool
 |_,[]=>false
 |k,q::l=>SX a b i k p q rest||Vc a b i p rest (k+1) l
def J9(a b:List yk)(rest:Int):Nat->List yk->Bool
 |_,[]=>false
 |i,p::l=>Vc a b i p rest 0 b||J9 a b rest (i+1) l
def Vd(a b:Xp)(rest:Int):Bool:=J9 a.zQ b.zQ rest 0 a.zQ
def fW(l:List yk):Prop:=∀p∈l,0<=p.at_/\p.at_<=4000000000
theorem oX{l:List yk}(h:fW l)(i:Nat):0<=al l i/\al l i<=1125899906842624:=by
 unfold al;split
 ·rename_i p Y;have:=h p (zE Y);omega
 ·omega
def Xp.IX(x:Xp):Prop:=fW x.zQ/\x.cb<=zD
noncomputable def DM:zb->Option O:=qt (α:=Xp×Xp×Int) (fun a=>[.agg a.1.V,.agg a.2.1.V,int a.2.2]) (fun a=>a.1.IX/\a.2.1.IX/\0<=a.2.2/\a.2.2<=100000000) (fun a=>q6 (Vd a.1 a.2.1 a.2.2))
theorem oY(Y:Hp)(x:Xp):z7 Y (.agg x.V)=some (.agg x.V,Y):=by rw[yy];simp
theorem Ap(a b:Xp)(rest:Int)(Y:Hp)(Z:Nat)(h:a.IX/\b.IX/\0<=rest/\rest<=100000000):hP DM [.agg a.V,.agg b.V,int rest] Y Z=some (q6 (Vd a b rest),Y,Z):=
 aK (a,b,rest) _ _ (by simp only[zz,oY];rfl) (fun x y e=>by obtain⟨c,d,f⟩:=x;obtain⟨g,i,j⟩:=y;simp only[zi,zF,O.agg.injEq]at e;rw[du e.1,du e.2.1,qE e.2.2]) h (.inl rfl)
noncomputable abbrev SY:Ctx:=qf prog [(100,hP (FPi2 fun l i=>int (al l i))),(101,hP (SV (fun a b=>q6 (vZ a b)) fun a b=>a.length<=zD/\b.length<=zD))]
theorem SZ:AM.Good SY (fun g=>[100,101].contains g):=qI mixed ⟨HJ,fun _=>zq _ _,Ao,fun _=>zq _ _,trivial⟩
@[simp]theorem zeD:yH SY 100:=wD (by rfl) (zq _ _)
@[simp]theorem zeE:yH SY 101:=wD (by rfl) (zq _ _)
theorem Aq{a b:List yk}{rest:Int}{i:Nat}{l:List yk}(h:i<l.length):J9 a b rest i (l.drop i)=(Vc a b i l[i] rest 0 b||J9 a b rest (i+1) (l.drop (i+1))):=by rw[zg h,J9]
theorem Ar{a b:List yk}{rest:Int}{i k:Nat}{p:yk}{l:List yk}(h:k<l.length):Vc a b i p rest k (l.drop k)=(SX a b i k p l[k] rest||Vc a b i p rest (k+1) (l.drop (k+1))):=by rw[zg h,Vc]
theorem DN(a b:Xp)(rest:Int)(W:a.IX)(X:b.IX)(hr:0<=rest/\rest<=100000000):zH SY f64 [.agg a.V,.agg b.V,int rest]=some (q6 (Vd a b rest)):=by
 obtain⟨A,H⟩:=W;obtain⟨B,I⟩:=X;have hla:=yD bY a.zQ;have hlb:=yD bY b.zQ;have xca:a.cb=a.name.length+a.w9.length+a.flag.length+a.cond.cb+a.we.length+a.ja.length+jh yk.cb a.zQ:=rfl;have xcb:b.cb=b.name.length+b.w9.length+b.flag.length+b.cond.cb+b.we.length+b.ja.length+jh yk.cb b.zQ:=rfl;unfold zD at H I;refine zs rfl ?_;simp[yy];have C:Vd a b rest=J9 a.zQ b.zQ rest 0 a.zQ:=rfl;refine qu (fun i σ Y Z=>σ 2=int rest/\σ 3=.ref 0 0 0/\σ 4=.ref 1 0 0/\σ 13=.sl 2 (a.zQ.map yk.V)/\σ 14=int a.zQ.length/\σ 15=int i/\2<=Z/\Y 0=some ⟨58,13,false,[a.V]⟩/\Y 1=some ⟨58,13,false,[b.V]⟩/\Vd a b rest=J9 a.zQ b.zQ rest i (a.zQ.drop i)) a.zQ.length
  ⟨by simp,by simp,by simp,by simp,by simp,by simp,by simp,by simp[yy],by simp[yy],by rw[C];simp⟩ ?_
 rintro i σ Y Z hi ⟨r,s,t,c,d,e,J,u,v,h⟩;by_cases n:i<a.zQ.length
 ·obtain⟨p,o⟩:=yb (a.zQ[i]);have hpm:=A p (by rw[<-o];exact zo n);have hsp:=jO (f:=yk.cb) (show p∈a.zQ by rw[<-o];exact zo n);have hpc:p.cb=1+p.qw.length:=rfl;rw[Aq n,o]at h;have K:=q8 i;have n0:¬0=Z:=by omega
  have n1:¬1=Z:=by omega
  simp[r,s,t,c,d,e,n,o,yk.V,u,v,n0,n1,yy];obtain⟨P,hP⟩:=yb Z;rw[hP];have hea:=oX A i;refine qu (fun k σ Y Z=>σ 2=int rest/\σ 3=.ref 0 0 0/\σ 4=.ref 1 0 0/\σ 13=.sl 2 (a.zQ.map yk.V)/\σ 14=int a.zQ.length/\σ 15=int i/\σ 7=int i/\σ 8=.ref P 0 0/\σ 21=.sl 2 (b.zQ.map yk.V)/\σ 22=int b.zQ.length/\σ 23=int k/\2<=P/\P<Z /\
    Y 0=some ⟨58,13,false,[a.V]⟩/\Y 1=some ⟨58,13,false,[b.V]⟩/\Y P=some ⟨64,2,false,[p.V]⟩/\Vd a b rest=(Vc a.zQ b.zQ i p rest k (b.zQ.drop k)||J9 a.zQ b.zQ rest (i+1) (a.zQ.drop (i+1)))) b.zQ.length
   ⟨by simp[r],by simp[s],by simp[t],by simp[c],by simp[d],by simp[e],by simp,by simp,by simp,by simp,by simp,by omega,(by show P<P+1;omega),by simp[u,show¬0=P by omega],by simp[v,show¬1=P by omega],by simp[yk.V],by simpa using h⟩ ?_
  clear r s t c d e J u v n0 n1 hP hi σ Y Z;rintro k σ Y Z hk ⟨r,s,t,c,d,e,Q,R,x,y,z,L,hPn,u,v,M,h⟩;by_cases g:k<b.zQ.length
  ·obtain⟨q,j⟩:=yb (b.zQ[k]);have hqm:=B q (by rw[<-j];exact zo g);have hsq:=jO (f:=yk.cb) (show q∈b.zQ by rw[<-j];exact zo g);have hqc:q.cb=1+q.qw.length:=rfl;rw[Ar g,j]at h;have N:=q8 k;have heb:=oX B k;have S:=wN (al a.zQ i+rest);have T:=wN (al b.zQ k+rest);have D:=fun Y Z=>oW (fun l i=>int (al l i)) a.zQ i Y Z ⟨by unfold zD;omega,by unfold zD;omega⟩
   have E:=fun Y Z=>oW (fun l i=>int (al l i)) b.zQ k Y Z ⟨by unfold zD;omega,by unfold zD;omega⟩
   have F:=fun Y Z=>Ag (fun a b=>q6 (vZ a b)) (fun a b=>a.length<=zD/\b.length<=zD) p.qw q.qw Y Z ⟨by unfold zD;omega,by unfold zD;omega⟩
   have n0:¬0=Z:=by omega
   have n1:¬1=Z:=by omega
   have U:¬P=Z:=by omega
   have m:((decide (p.at_<=q.at_)&&decide (q.at_<al a.zQ i+rest))||(decide (q.at_<=p.at_)&&decide (p.at_<al b.zQ k+rest)))=NF a.zQ b.zQ i k p q rest:=rfl;have w:(NF a.zQ b.zQ i k p q rest&&vZ p.qw q.qw)=SX a.zQ b.zQ i k p q rest:=rfl;rw[yk.V]at M;rw[yy]at u v;cases G:SX a.zQ b.zQ i k p q rest
   ·rw[G]at h;simp[r,s,t,Q,R,c,d,e,x,y,z,g,j,yk.V,u,v,M,n0,n1,U,D,E,F,S,T,m,w,G,N];exact⟨by omega,L,by omega,(yy a).symm,(yy b).symm,by rw[h];rfl⟩
   ·rw[G]at h;simp[r,s,t,Q,R,c,d,e,x,y,z,g,j,yk.V,u,v,M,n0,n1,U,D,E,F,S,T,m,w,G,h,f64]
  ·obtain rfl:k=b.zQ.length:=by omega
   rw[zp]at h;simp only[Vc,ziU]at h;simp[r,s,t,c,d,e,x,y,z,K];exact⟨by omega,by omega,by rw[<-yy];exact u,by rw[<-yy];exact v,h⟩
 ·obtain rfl:i=a.zQ.length:=by omega
  rw[zp]at h;simp only[J9]at h;simp[r,s,t,c,d,e,h,f64]
theorem As:zh prog 64 (hP DM):=
 Z3 SZ func64 false [] fun⟨a,b,rest⟩ ⟨c,d,e⟩=>⟨by simp[f64],_,DN a b rest c d e,qP _⟩
end Go.Q
namespace Go.AM
section
variable(C:Ctx)(ρ:Operand->Option O)(Y:Hp)(Z:Nat)
@[simp]theorem zeF(t:TypeId)(x i:Operand)(a:Bool):zS C ρ Y Z (.lookup t x i a)=(do let p <-ρ x;let q <-ρ i;let r <-xf C.P Y t p q a;some (r,Y,Z)):=by simp only[zS];cases ρ x<;>cases ρ i<;>(try rfl);simp;cases xf C.P Y t _ _ a<;>rfl
@[simp]theorem S3(t:TypeId)(m k x:Operand):zS C ρ Y Z (.mapUpdate t m k x)=(do let p <-ρ m;let q <-ρ k;let y <-ρ x;let h <-km C.P Y t p q y;some (.qZ [],h,Z)):=by simp only[zS];cases ρ m<;>cases ρ k<;>cases ρ x<;>(try rfl);simp;cases km C.P Y t _ _ _<;>rfl
@[simp]theorem zcO(t:TypeId):zS C ρ Y Z (.makeMap t none)=(do let _ <-KL C.P t;some (.mp Z,zI Y Z (some ⟨t,0,false,[]⟩),Z+1)):=by simp only[zS];cases KL C.P t<;>rfl
end
end Go.AM
namespace Go.Q
@[simp]theorem zgu(σ:Nat->O):AM.get σ (.const (.pointer none))=some (.v (.pointer none)):=rfl
def nI(l:List za):List zb:=l.map fun s=>[str s,q6 true]
def xn(l:List za):Blk:=⟨76,0,false,nI l⟩
theorem V3(s:za):∀(l:List za) (i:Nat),(s ∉ l->xe (.string ⟨s.toArray⟩) (nI l) i=some none)/\(s∈l->∃j,xe (.string ⟨s.toArray⟩) (nI l) i=some (some (j,q6 true)))
 |[],i=>⟨fun _=>rfl,fun h=>by simp at h⟩
 |x::l,i=>by
  obtain⟨c,d⟩:=V3 s l (i+1);by_cases a:s=x
  ·refine⟨fun h=>absurd (by simp[a]) h,fun _=>⟨i,?_⟩⟩;subst a;simp[nI,xe,xd]
  ·have f:xd (.string ⟨s.toArray⟩) (.string ⟨x.toArray⟩)=some false:=by simp only[xd];congr 1;rw[qM];intro e;exact a (by simpa[kp]using e)
   have b:xe (.string ⟨s.toArray⟩) (nI (x::l)) i=xe (.string ⟨s.toArray⟩) (nI l) (i+1):=by simp only[nI,zG,xe,f]
   refine⟨fun h=>by rw[b];exact c fun g=>h (List.mem_cons_of_mem _ g),fun h=>?_⟩;rcases zx.1 h with h|h
   ·exact absurd h a
   ·rw[b];exact d h
@[simp]theorem zeG:KL prog 76=some (none,4):=by kernel_rfl
@[simp]theorem zcP:aQ prog 4=some (q6 false):=by kernel_rfl
theorem Au{Y:Hp}{id:Nat}{l:List za}(s:za)(h:Y id=some (xn l)):xf prog Y 76 (.mp id) (str s) false=some (q6 (decide (s∈l))):=by
 obtain⟨b,c⟩:=V3 s l 0;by_cases a:s∈l
 ·obtain⟨j,d⟩:=c a;simp[xf,dU,h,xn,WS,d,a]
 ·simp[xf,dU,h,xn,WS,b a,a]
theorem Fi{Y:Hp}{id:Nat}{l:List za}(s:za)(h:Y id=some (xn l))(hs:s ∉ l):km prog Y 76 (.mp id) (str s) (q6 true)=some (zI Y id (some (xn (l++[s])))):=by obtain⟨a,b⟩:=V3 s l 0;simp[km,h,xn,WS,a hs];simp[nI]
def Jj(b:Bk)(m g:Nat)(a:Bool):Blk:=⟨78,6,false,[b.V++[.mp m,.mp g,q6 a]]⟩
theorem Zw(b:Bk)(m g:Nat)(a:Bool):Jj b m g a=⟨78,6,false,[[.sl 3 (b.zr.map yp.V),.sl 4 (b.holds.map y7.V),.sl 13 (b.wP.map Xp.V),.mp m,.mp g,q6 a]]⟩:=rfl
def Zk(l:List za)(s:za):Int:=if Qw s=true then(if s∈l then 7 else 0)else 3
def Zl(l:List za)(s:za):List za:=if Zk l s=0 then l++[s]else l
noncomputable abbrev HK:Ctx:=qf prog [(89,hP (FS Qw))]
theorem S5:Gd HK:=qD mixed ⟨sk,trivial⟩
theorem ao:zh prog 55 (yc HK f55):=Zg S5 func55
theorem lL(b:Bk)(l:List za)(s:za)(hs:s.length<=zD)(i:Bool)(Y:Hp)(Z id m g:Nat)(j:Y id=some (Jj b m g i))(f:Y m=some (xn l)) :
  yc HK f55 [.ref id 0 0,str s] Y Z=some (int (Zk l s),zI Y m (some (xn (Zl l s))),Z):=by
 unfold yc;rw[zl (by simp[f55])];refine vD rfl ?_;rw[Zw]at j;have h:=Au s f;cases c:Qw s
 ·have a:Zk l s=3:=by simp[Zk,c]
  have d:zI Y m (some (xn (Zl l s)))=Y:=L1 _ _ _ (by rw[Zl,a];exact f);simp[hs,c,a,d,f55]
 ·by_cases e:s∈l
  ·have a:Zk l s=7:=by simp[Zk,c,e]
   have d:zI Y m (some (xn (Zl l s)))=Y:=L1 _ _ _ (by rw[Zl,a];exact f);rw[cB e]at h;simp[hs,c,a,d,j,h,f55]
  ·have a:Zk l s=0:=by simp[Zk,c,e]
   have d:Zl l s=l++[s]:=by rw[Zl,a];rfl
   have Y:=Fi s f e;rw[zbv e]at h;simp[hs,c,a,d,j,h,Y,f55]
def Zm(r:O)(l:List za)(m:Nat)(Y:Hp)(Z:Nat)(x:O)(Y':Hp)(Z':Nat):Prop:=x=r/\Z<=Z'/\Y' m=some (xn l)/\∀j,j<Z->j≠m->Y' j=Y j
def ke:za->List za->List yp->Int×List za
 |_,l,[]=>(0,l)
 |before,l,x::xs=>if xA x.name before=0 then(if Zk l x.we=0 then(if xo x.rest 0 100000000=true then ke x.name (Zl l x.we) xs else(1,Zl l x.we))else(Zk l x.we,Zl l x.we))else(xA x.name before,l)
noncomputable abbrev S6:Ctx:=qf prog [(54,hP (Ny fun a b=>int (xA a b))),(55,yc HK f55),(56,hP (F3 xo))]
theorem S7:Gd S6:=qD mixed ⟨Wf,ao,Zj,trivial⟩
theorem ss:zh prog 35 (yc S6 f35):=Zg S7 func35
theorem DO(b:Bk)(l:List za)(S:b.cb<=zD)(t:Bool)(z:Hp)(v id m g:Nat)(hid:id<v)(T:m<v)(F:id≠m)(A:z id=some (Jj b m g t))(G:z m=some (xn l)) :
  ∃x Y' Z',yc S6 f35 [.ref id 0 0] z v=some (x,Y',Z')/\Zm (int (ke [] l b.zr).1) (ke [] l b.zr).2 m z v x Y' Z':=by
 unfold yc;rw[zl (by simp[f35])];refine wB rfl ?_;have P:=yD J8 b.zr;have U:b.cb=jh yp.cb b.zr+jh y7.cb b.holds+jh Xp.cb b.wP:=rfl;unfold zD at S;have Q:=A;rw[Zw]at Q;simp[Q];refine qu (fun k σ Y Z=>σ 0=.ref id 0 0/\σ 12=.sl 3 (b.zr.map yp.V)/\σ 13=int b.zr.length/\σ 14=int k/\v<=Z/\(∀j,j<v->j≠m->Y j=z j)/\∃(c:za) (l':List za),σ 3=str c/\Y m=some (xn l')/\ke [] l b.zr=ke c l' (b.zr.drop k)) b.zr.length
  ⟨by simp,by simp,by simp,by simp,zk _,fun _ _ _=>rfl,[],l,by simp,G,by simp⟩ ?_
 rintro k σ Y Z hk ⟨B,n,o,p,H,h,c,l',D,I,e⟩;by_cases i:k<b.zr.length
 ·obtain⟨x,w⟩:=yb (b.zr[k]);have J:=jO (f:=yp.cb) (zo i);rw[w]at J;have W:x.cb=1+x.name.length+x.we.length:=rfl;rw[zg i,w]at e;simp only[ke]at e;have X:=q8 k;have q:=fun Y Z=>dy (fun a b=>int (xA a b)) x.name c Y Z (by unfold zD;omega) (by simp)
  have R:¬m=Z:=by omega
  have ni:¬id=Z:=by omega
  have K:zI Y Z (some ⟨48,3,false,[x.V]⟩) id=some (Jj b m g t):=by rw[zT _ _ _ _ ni,h id hid F];exact A
  have L:zI Y Z (some ⟨48,3,false,[x.V]⟩) m=some (xn l'):=by rw[zT _ _ _ _ R];exact I
  have r:=lL b l' x.we (by unfold zD;omega) t _ (Z+1) id m g K L;simp only[yp.V]at r;have s:¬Z=m:=by omega
  by_cases y:xA x.name c=0
  case neg=>rw[zj y]at e;have M:=Xo y;simp[B,D,n,o,p,i,w,yp.V,q,M,f35,Zm,e];exact⟨by omega,by rw[zT _ _ _ _ R];exact I,fun j u d=>by rw[zT _ _ _ _ (by omega)];exact h j u d⟩
  rw[zl y]at e;by_cases C:Zk l' x.we=0
  case neg=>rw[zj C]at e;have N:=Xo C;simp[B,D,n,o,p,i,w,yp.V,q,y,r,N,f35,Zm,e];exact⟨by omega,fun j u d=>by rw[zT _ _ _ _ d,zT _ _ _ _ (by omega)];exact h j u d⟩
  rw[zl C]at e;cases E:xo x.rest 0 100000000
  ·rw[E,zj (by simp)]at e;simp[B,D,n,o,p,i,w,yp.V,q,y,r,C,E,s,f35,Zm,e];exact⟨by omega,fun j u d=>by rw[zT _ _ _ _ d,zT _ _ _ _ (by omega)];exact h j u d⟩
  ·rw[E,zl rfl]at e;simp[B,D,n,o,p,i,w,yp.V,q,y,r,C,E,s,X];exact⟨by omega,by omega,fun j u d=>by rw[zT _ _ _ _ d,zT _ _ _ _ (by omega)];exact h j u d,Zl l' x.we,rfl,e⟩
 ·obtain rfl:k=b.zr.length:=by omega
  rw[zp]at e;simp only[ke]at e;simp[B,n,o,p,f35,Zm,e];exact⟨H,I,h⟩
def leP(p:Option za)(s:za):Bool:=match p with
 |none=>false
 |some q=>Ca s q
noncomputable def Ka (L:List yp):Option za->List za->Int
 |_,[]=>0
 |p,s::l=>if(dx (L.map yp.name) s).2=true then(if leP p s=true then 8 else Ka L (some s) l)else 9
noncomputable def XJ (L:List yp) (x:y7):Int:=if xo x.buckets 1 100000=true then(if x.zr.length=0 then 9 else Ka L none x.zr)else 1
noncomputable def Za (L:List yp):za->List za->List y7->Int×List za
 |_,l,[]=>(0,l)
 |before,l,x::xs=>if xA x.name before=0 then(if Zk l x.we=0 then(if XJ L x=0 then Za L x.name (Zl l x.we) xs else(XJ L x,Zl l x.we))else(Zk l x.we,Zl l x.we))else(xA x.name before,l)
def eE(l:List za)(k:Nat):Option za:=if k=0 then none else l[k-1]?
noncomputable abbrev S8:Ctx:=qf prog [(54,hP (Ny fun a b=>int (xA a b))),(55,yc HK f55),(56,hP (F3 xo)),(57,hP NB)]
theorem S9:Gd S8:=qD mixed ⟨Wf,ao,Zj,dA,trivial⟩
theorem Av:zh prog 36 (yc S8 f36):=Zg S9 func36
theorem HL(b:Bk)(l:List za)(hb:b.cb<=zD)(I:Bool)(R:Hp)(L id m g:Nat)(hid:id<L)(hmd:m<L)(X:id≠m)(M:R id=some (Jj b m g I))(hm0:R m=some (xn l)) :
  ∃x Y' Z',yc S8 f36 [.ref id 0 0] R L=some (x,Y',Z')/\Zm (int (Za b.zr [] l b.holds).1) (Za b.zr [] l b.holds).2 m R L x Y' Z':=by
 unfold yc;rw[zl (by simp[f36])];refine wB rfl ?_;have hlen:=yD fV b.holds;have hleL:=yD J8 b.zr;have hbc:b.cb=jh yp.cb b.zr+jh y7.cb b.holds+jh Xp.cb b.wP:=rfl;unfold zD at hb;have hc:=M;rw[Zw]at hc;simp[hc];refine qu (fun k σ Y Z=>σ 0=.ref id 0 0/\σ 16=.sl 4 (b.holds.map y7.V)/\σ 17=int b.holds.length/\σ 18=int k/\L<=Z/\(∀j,j<L->j≠m->Y j=R j)/\∃(d:za) (l':List za),σ 3=str d/\Y m=some (xn l')/\Za b.zr [] l b.holds=Za b.zr d l' (b.holds.drop k)) b.holds.length
  ⟨by simp,by simp,by simp,by simp,zk _,fun _ _ _=>rfl,[],l,by simp,hm0,by simp⟩ ?_
 rintro k σ Y Z hk ⟨y,e,n,o,hnx,c,d,l',S,H,r⟩;by_cases v:k<b.holds.length
 ·obtain⟨x,N⟩:=yb (b.holds[k]);have hmx:=jO (f:=y7.cb) (zo v);rw[N]at hmx;have hxc:x.cb=1+x.name.length+x.we.length+jh (fun s=>1+s.length) x.zr:=rfl;have La:=yD (f:=fun s:List UInt8=>1+s.length) (fun _=>by omega) x.zr;rw[zg v,N]at r;simp only[Za]at r;have hw:=q8 k;have B:=fun Y Z=>dy (fun a b=>int (xA a b)) x.name d Y Z (by unfold zD;omega) (by simp)
  have nm:¬m=Z:=by omega
  have ni:¬id=Z:=by omega
  have t:zI Y Z (some ⟨50,4,false,[x.V]⟩) id=some (Jj b m g I):=by rw[zT _ _ _ _ ni,c id hid X];exact M
  have hmi:zI Y Z (some ⟨50,4,false,[x.V]⟩) m=some (xn l'):=by rw[zT _ _ _ _ nm];exact H
  have C:=lL b l' x.we (by unfold zD;omega) I _ (Z+1) id m g t hmi;simp only[y7.V]at C;have z:¬Z=m:=by omega
  by_cases Q:xA x.name d=0
  case neg=>rw[zj Q]at r;have c1':=Xo Q;simp[y,S,e,n,o,v,N,y7.V,B,c1',f36,Zm,r];exact⟨by omega,by rw[zT _ _ _ _ nm];exact H,fun j A p=>by rw[zT _ _ _ _ (by omega)];exact c j A p⟩
  rw[zl Q]at r;by_cases T:Zk l' x.we=0
  case neg=>rw[zj T]at r;have c2':=Xo T;simp[y,S,e,n,o,v,N,y7.V,B,Q,C,c2',f36,Zm,r];exact⟨by omega,fun j A p=>by rw[zT _ _ _ _ p,zT _ _ _ _ (by omega)];exact c j A p⟩
  rw[zl T]at r;cases U:xo x.buckets 1 100000
  ·have hf:XJ b.zr x=1:=by unfold XJ;rw[U,zj (by simp)]
   rw[hf,zj (by decide)]at r;simp[y,S,e,n,o,v,N,y7.V,B,Q,C,T,U,z,f36,Zm,r];exact⟨by omega,fun j A p=>by rw[zT _ _ _ _ p,zT _ _ _ _ (by omega)];exact c j A p⟩
  by_cases c4:x.zr.length=0
  ·have hf:XJ b.zr x=9:=by unfold XJ;rw[U,zl rfl,zl c4]
   rw[hf,zj (by decide)]at r;have u:(zA x.zr).length=0:=by simpa[zA]using c4
   simp[y,S,e,n,o,v,N,y7.V,u,B,Q,C,T,U,z,f36,Zm,r];exact⟨by omega,fun j A p=>by rw[zT _ _ _ _ p,zT _ _ _ _ (by omega)];exact c j A p⟩
  have hf:XJ b.zr x=Ka b.zr none x.zr:=by unfold XJ;rw[U,zl rfl,zj c4]
  rw[hf]at r;have c4':((x.zr.length:Int)==0)=false:=by rw[qM];omega
  have u:(zA x.zr).length=x.zr.length:=by simp[zA]
  simp[y,S,e,n,o,v,N,y7.V,u,B,Q,C,T,U,c4',z];obtain⟨P,hP⟩:=yb Z;rw[hP];refine qu (fun i σ Y Z=>σ 0=.ref id 0 0/\σ 16=.sl 4 (b.holds.map y7.V)/\σ 17=int b.holds.length/\σ 18=int k/\σ 5=.ref P 0 0/\σ 47=.sl 1 (zA x.zr)/\σ 48=int x.zr.length/\σ 49=int i/\L<=P/\P<Z/\Y P=some ⟨50,4,false,[x.V]⟩/\(∀j,j<L->j≠m->Y j=R j)/\Y m=some (xn (Zl l' x.we))/\Ka b.zr none x.zr=Ka b.zr (eE x.zr i) (x.zr.drop i)) x.zr.length
   ⟨by simp[y],by simp[e],by simp[n],by simp[o],by simp,by simp,by simp,by simp,by omega,(by show P<P+1;omega),by simp[y7.V,show¬P=m by omega],fun j A p=>by simp only;rw[zT _ _ _ _ p,zT _ _ _ _ (by omega)];exact c j A p,by simp,by simp[eE]⟩ ?_
  clear y S e n o hnx c H C t hmi B nm ni z hP σ Y Z;rintro i σ Y Z hi ⟨y,e,n,o,h5,E,F,G,hP,hPn,D,c,H,w⟩;have t:Y id=some (Jj b m g I):=by rw[c id hid X];exact M
  rw[Zw]at t;by_cases q:i<x.zr.length
  ·obtain⟨s,hs⟩:=yb (x.zr[i]);have hms:=jO (f:=fun s:List UInt8=>1+s.length) (zo q);rw[hs]at hms;have hpn:eE x.zr (i+1)=some s:=by simp[eE,q,hs]
   rw[zg q,hs]at w;simp only[Ka]at w;have J:∀h:i<(zA x.zr).length,(zA x.zr)[i]=[str s]:=fun h=>by simp[zA,hs]
   have K:=fun Y Z=>dz b.zr s Y Z (by unfold zD;omega)
   have hwi:=q8 i;have u:i<(zA x.zr).length:=by simp[zA,q]
   cases W:(dx (b.zr.map yp.name) s).2
   ·rw[W,zj (by simp)]at w;rw[w,zj (by decide)]at r;simp[y,h5,e,n,o,E,F,G,q,u,J,t,K,W,r,f36,Zm];exact⟨by omega,H,c⟩
   rw[W,zl rfl]at w;by_cases k0:i=0
   ·subst k0;rw[show leP (eE x.zr 0) s=false from rfl,zj (by simp)]at w;simp[y,h5,e,n,o,E,F,G,q,u,J,t,K,W,hwi];exact⟨by omega,hP,hPn,D,c,H,by rw[w,show eE x.zr 1=some s from hpn];simp⟩
   ·obtain⟨j,rfl⟩:∃j,i=j+1:=⟨i-1,by omega⟩;have A:j<x.zr.length:=by omega
    have hej:j<(zA x.zr).length:=by simp[zA,A]
    have RA:∀h:j<(zA x.zr).length,(zA x.zr)[j]=[str x.zr[j]]:=fun h=>by simp[zA]
    have wj:i6.wrap ((j:Int)+1-1)=(j:Int):=by rw[wM (by omega) (by omega)];omega
    have wj':=wN (j:Int);have wk:=wN ((j:Int)+1+1);have j1:((j:Int)+1).toNat=j+1:=by omega
    have j2:0<(j:Int)+1:=by omega
    have j3:0<=(j:Int)+1:=by omega
    have j4:(j:Int)+1<x.zr.length:=by omega
    have hlp:leP (eE x.zr (j+1)) s=Ca s x.zr[j]:=by simp[eE,A,leP]
    rw[hlp]at w;have hle:(Op.bytesLess s x.zr[j]||s==x.zr[j])=Ca s x.zr[j]:=rfl;rw[y7.V]at D;cases d2:Ca s x.zr[j]
    ·rw[d2,zj (by simp)]at w;simp[y,h5,e,n,o,E,F,G,q,u,J,t,K,W,wj,wj',wk,j1,j2,j3,j4,D,hej,RA,hle,d2,A];exact⟨by omega,hP,hPn,rfl,c,H,by rw[w,hpn]⟩
    ·rw[d2,zl rfl]at w;rw[w,zj (by decide)]at r;simp[y,h5,e,n,o,E,F,G,q,u,J,t,K,W,wj,wj',wk,j1,j2,j3,j4,D,hej,RA,hle,d2,A,r,f36,Zm];exact⟨by omega,H,c⟩
  ·obtain rfl:i=x.zr.length:=by omega
   rw[zp]at w;simp only[Ka]at w;rw[w,zl rfl]at r;have hnP:¬P=m:=by omega
   rw[y7.V]at D;simp[y,h5,e,n,o,E,F,G,D,hw];exact⟨by omega,by omega,c,_,H,r⟩
 ·obtain rfl:k=b.holds.length:=by omega
  rw[zp]at r;simp only[Za]at r;simp[y,e,n,o,f36,Zm,r];exact⟨hnx,H,c⟩
noncomputable abbrev Ta:Ctx:=qf prog []
theorem Tb:AM.Good Ta (fun g=>[94].contains g):=qI mixed trivial
theorem Aw:zh prog 59 (yc Ta f59):=Zg Tb func59
theorem HM(b:Bk)(c:Cnd)(Y:Hp)(Z id m g:Nat)(hid:id<Z)(a:Y id=some (Jj b m g true)) :
  ∃Y',yc Ta f59 [.ref id 0 0,.agg c.V] Y Z=some (q6 true,Y',Z+2)/\∀j,j<Z->Y' j=Y j:=by
 unfold yc;rw[zl (by simp[f59])];refine⟨zI (zI Y Z (some ⟨74,1,false,[[.ref id 0 0]]⟩)) (Z+1) (some ⟨54,7,false,[c.V]⟩),?_,fun j e=>by rw[zT _ _ _ _ (by omega),zT _ _ _ _ (by omega)]⟩;refine vD rfl ?_;rw[Zw]at a;have n1:¬id=Z:=by omega
 have d:¬id=Z+1:=by omega
 simp[qH,a,n1,d,f59]
noncomputable def Wg (L:List yp) (a:za) (l:List za) (x:Xp):Int×List za:=
 if xA x.name a=0 then(if(dx (L.map yp.name) x.w9).2=true then(if qS x.flag=true then(if x.cond.check=0 then(if Zk l x.we=0 then(if Zv x.ja 20=0 then(ko x.zQ,Zl l x.we)else(Zv x.ja 20,Zl l x.we))else(Zk l x.we,Zl l x.we))else(x.cond.check,l))else(5,l))else(9,l))else(xA x.name a,l)
noncomputable abbrev Tc:Ctx:=qf prog [(54,hP (Ny fun a b=>int (xA a b))),(57,hP NB),(58,hP (FS qS)),(26,GC fun c=>int c.check),(59,yc Ta f59),(55,yc HK f55),(60,hP (FRN (fun l n=>int (Zv l n)) fun _ n=>1<=n/\n<=20)),(61,hP (FPh fun l=>int (ko l)))]
theorem Td:AM.Good Tc (fun g=>[57].contains g):=qI mixed ⟨Wf,by simp,dA,fun _=>zq _ _,JR,by simp,J6,by simp,Aw,by simp,ao,by simp,bW,by simp,sr,by simp,trivial⟩
theorem dB:zh prog 37 (yc Tc f37):=Zg Td func37
theorem lM(b:Bk)(l:List za)(d:za)(x:Xp)(X:b.cb<=zD)(L:x.cb<=zD)(G:Hp)(i id m g:Nat)(hid:id<i)(hmd:m<i)(hne:id≠m)(C:G id=some (Jj b m g true))(q:G m=some (xn l)) :
  ∃U Y' Z',yc Tc f37 [.ref id 0 0,.agg x.V,str d] G i=some (U,Y',Z')/\Zm (int (Wg b.zr d l x).1) (Wg b.zr d l x).2 m G i U Y' Z':=by
 unfold yc;rw[zl (by simp[f37])];refine wB rfl ?_;have W:=yD J8 b.zr;have hbc:b.cb=jh yp.cb b.zr+jh y7.cb b.holds+jh Xp.cb b.wP:=rfl;have hxc:x.cb=x.name.length+x.w9.length+x.flag.length+x.cond.cb+x.we.length+x.ja.length+jh yk.cb x.zQ:=rfl;unfold zD at X L;have I:¬m=i:=by omega
 have z:¬id=i:=by omega
 have f:=fun Y Z=>dy (fun a b=>int (xA a b)) x.name d Y Z (by unfold zD;omega) (by simp)
 have k:=fun Y Z=>dz b.zr x.w9 Y Z (by unfold zD;omega)
 have r:x.flag.length<=zD:=by unfold zD;omega
 have s:=fun Y Z=>J0 (fun c=>int c.check) x.cond Y Z (by unfold zD;omega)
 have J:=fun Y Z=>Nu (fun l n=>int (Zv l n)) (fun _ n=>1<=n/\n<=20) x.ja 20 Y Z ⟨by omega,by omega⟩
 have M:=fun Y Z=>ND (fun l=>int (ko l)) x.zQ Y Z (by unfold zD;omega)
 obtain⟨Y1,t,w⟩:=HM b x.cond (zI G i (some ⟨58,13,false,[x.V]⟩)) (i+1) id m g (by omega) (by rw[zT _ _ _ _ z];exact C);have N:Y1 id=some (Jj b m g true):=by rw[w id (by omega),zT _ _ _ _ z];exact C
 have P:Y1 m=some (xn l):=by rw[w m (by omega),zT _ _ _ _ I];exact q
 have y:Y1 i=some ⟨58,13,false,[x.V]⟩:=by rw[w i (by omega)];simp
 have D:∀j,j<i->Y1 j=G j:=fun j u=>by rw[w j (by omega),zT _ _ _ _ (by omega)]
 have E:=lL b l x.we (by unfold zD;omega) true Y1 (i+1+2) id m g N P;have A:¬i=m:=by omega
 have F:=C;rw[Zw]at F;rw[yy]at t y;rw[qH]at t;simp only[qH]at s;rw[yy];by_cases h:xA x.name d=0
 case neg=>
  have o:Wg b.zr d l x=(xA x.name d,l):=by unfold Wg;rw[zj h]
  have Q:=Xo h;simp[f,Q,o,f37,Zm];exact⟨by rw[zT _ _ _ _ I];exact q,fun j u e=>by rw[zT _ _ _ _ (by omega)]⟩
 cases p:(dx (b.zr.map yp.name) x.w9).2
 ·have o:Wg b.zr d l x=(9,l):=by unfold Wg;rw[zl h,p,zj (by simp)]
  simp[f,h,z,F,k,p,o,f37,Zm];exact⟨by rw[zT _ _ _ _ I];exact q,fun j u e=>by rw[zT _ _ _ _ (by omega)]⟩
 cases v:qS x.flag
 ·have o:Wg b.zr d l x=(5,l):=by unfold Wg;rw[zl h,p,zl rfl,v,zj (by simp)]
  simp[f,h,z,F,k,p,r,v,o,f37,Zm];exact⟨by rw[zT _ _ _ _ I];exact q,fun j u e=>by rw[zT _ _ _ _ (by omega)]⟩
 by_cases B:x.cond.check=0
 case neg=>
  have o:Wg b.zr d l x=(x.cond.check,l):=by unfold Wg;rw[zl h,p,zl rfl,v,zl rfl,zj B]
  have R:=Xo B;simp[f,h,z,F,k,p,r,v,s,R,o,f37,Zm];exact⟨by rw[zT _ _ _ _ I];exact q,fun j u e=>by rw[zT _ _ _ _ (by omega)]⟩
 by_cases H:Zk l x.we=0
 case neg=>
  have o:Wg b.zr d l x=(Zk l x.we,Zl l x.we):=by unfold Wg;rw[zl h,p,zl rfl,v,zl rfl,zl B,zj H]
  have S:=Xo H;simp[f,h,z,F,k,p,r,v,s,B,t,y,E,S,o,f37,Zm];exact⟨by omega,fun j u e=>by rw[zT _ _ _ _ e];exact D j u⟩
 by_cases K:Zv x.ja 20=0
 case neg=>
  have o:Wg b.zr d l x=(Zv x.ja 20,Zl l x.we):=by unfold Wg;rw[zl h,p,zl rfl,v,zl rfl,zl B,zl H,zj K]
  have T:=Xo K;simp[f,h,z,F,k,p,r,v,s,B,t,y,A,E,H,J,T,o,f37,Zm];exact⟨by omega,fun j u e=>by rw[zT _ _ _ _ e];exact D j u⟩
 ·have o:Wg b.zr d l x=(ko x.zQ,Zl l x.we):=by unfold Wg;rw[zl h,p,zl rfl,v,zl rfl,zl B,zl H,zl K]
  simp[f,h,z,F,k,p,r,v,s,B,t,y,A,E,H,J,K,M,o,f37,Zm];exact⟨by omega,fun j u e=>by rw[zT _ _ _ _ e];exact D j u⟩
def ft(x:Xp):Blk:=⟨58,13,false,[x.V]⟩
def HN(n:Int):Blk:=⟨3,1,false,[[int n]]⟩
def fu(x:Xp)(rest:Int)(y:Xp):Bool:=decide (y.w9=x.w9)&&Vd x y rest
noncomputable abbrev Te:Ctx:=qf prog [(64,hP DM)]
theorem Tf:AM.Good Te (fun g=>[64].contains g):=qI mixed ⟨As,fun _=>zq _ _,trivial⟩
theorem DP:zh prog 63 (yc Te f63):=Zg Tf func63
theorem NG(x y:Xp)(rest:Int)(i:x.IX)(j:y.IX)(g:0<=rest/\rest<=100000000)(Y:Hp)(Z b c:Nat)(k:b<Z)(l:c<Z)(bx:Y b=some (ft x))(e:Y c=some (HN rest)) :
  yc Te f63 [.agg y.V,.ref b 0 0,.ref c 0 0] Y Z=some (q6 (fu x rest y),zI Y Z (some (ft y)),Z+1):=by
 unfold yc;rw[zl (by simp[f63])];refine vD rfl ?_;have n1:¬b=Z:=by omega
 have h:¬c=Z:=by omega
 have a:=fun Y Z=>Ap x y rest Y Z ⟨i,j,g.1,g.2⟩
 rw[ft,yy]at bx;rw[HN]at e;simp only[yy]at a;by_cases d:y.w9=x.w9
 ·have hd:(y.w9==x.w9)=true:=by simpa using d
  have f:fu x rest y=Vd x y rest:=by simp[fu,d]
  simp[yy,ft,n1,h,bx,e,hd,a,f,f63]
 ·have hd:=QA d;have f:fu x rest y=false:=by simp[fu,d]
  simp[yy,ft,n1,h,bx,e,hd,f,f63]
def dC(x:Xp)(rest:Int):Nat->List Xp->Int
 |_,[]=>-1
 |k,y::l=>if fu x rest y=true then k else dC x rest (k+1) l
theorem Ax(x:Xp)(rest:Int):∀(l:List Xp) (k:Nat),decide (0<=dC x rest k l)=l.any (fu x rest)
 |[],k=>by simp[dC]
 |s::l,k=>by
  by_cases h:fu x rest s=true
  ·have e:dC x rest k (s::l)=k:=by simp only[dC,zl h]
   rw[e,VA,h];simp
  ·have e:dC x rest k (s::l)=dC x rest (k+1) l:=by simp only[dC,zj h]
   rw[e,Ax x rest l (k+1),VA,Bool.eq_false_iff.2 h];rfl
noncomputable abbrev Tg:Ctx:=qf prog [(63,yc Te f63)]
theorem Th:Gd Tg:=qD mixed ⟨DP,trivial⟩
theorem HO:zh prog 99 (yc Tg f99):=Zg Th func99
def Rw(a b:Nat):O:=.fn (.func 63) [] [.ref a 0 0,.ref b 0 0]
def oZ(r:O)(Y:Hp)(Z:Nat)(x:O)(Y':Hp)(Z':Nat):Prop:=x=r/\Z<=Z'/\∀j,j<Z->Y' j=Y j
theorem Ti(l:List Xp)(x:Xp)(rest:Int)(y:l.length<=zD)(hs:∀s∈l,s.IX)(z:x.IX)(A:0<=rest/\rest<=100000000)(h:Hp)(e f g:Nat)(m:f<e)(n:g<e)(bx:h f=some (ft x))(B:h g=some (HN rest)) :
  ∃v Y' Z',yc Tg f99 [.sl 13 (l.map Xp.V),Rw f g] h e=some (v,Y',Z')/\oZ (int (dC x rest 0 l)) h e v Y' Z':=by
 unfold yc;rw[zl (by simp[f99])];refine wB rfl ?_;unfold zD at y;simp[Rw];refine qu (fun k σ Y Z=>σ 0=.sl 13 (l.map Xp.V)/\σ 1=Rw f g/\σ 7=int l.length/\σ 8=int k/\e<=Z/\(∀j,j<e->Y j=h j)/\dC x rest 0 l=dC x rest k (l.drop k)) l.length ⟨by simp,by simp[Rw],by simp,by simp,zk _,fun _ _=>rfl,by simp⟩ ?_;rintro k σ Y Z C ⟨o,p,q,r,t,b,d⟩;by_cases c:k<l.length
 ·have w:=q8 k;have a:=NG x l[k] rest z (hs _ (zo c)) A Y Z f g (by omega) (by omega) (by rw[b f m];exact bx) (by rw[b g n];exact B);simp only[yy]at a;rw[zg c]at d;simp only[dC]at d;cases i:fu x rest l[k]
  ·rw[i,zj (by simp)]at d;rw[i]at a;simp[o,p,q,r,Rw,c,yy,a,w];exact⟨c,by omega,fun j u=>by rw[zT _ _ _ _ (by omega)];exact b j u,d⟩
  ·rw[i,zl rfl]at d;rw[i]at a;simp[o,p,q,r,Rw,c,yy,a,w,f99];exact⟨by rw[d],by omega,fun j u=>by rw[zT _ _ _ _ (by omega)];exact b j u⟩
 ·obtain rfl:k=l.length:=by omega
  rw[zp]at d;simp only[dC]at d;simp[o,p,q,r,f99];exact⟨by rw[d],t,b⟩
noncomputable abbrev Tj:Ctx:=qf prog [(99,yc Tg f99)]
theorem Tk:Gd Tj:=qD mixed ⟨HO,trivial⟩
theorem HP:zh prog 62 (yc Tj f62):=Zg Tk func62
theorem Tl(l:List Xp)(x:Xp)(rest:Int)(i:l.length<=zD)(hs:∀s∈l,s.IX)(j:x.IX)(k:0<=rest/\rest<=100000000)(a:Hp)(b c d:Nat)(e:c<b)(f:d<b)(bx:a c=some (ft x))(m:a d=some (HN rest)) :
  ∃g Y' Z',yc Tj f62 [.sl 13 (l.map Xp.V),Rw c d] a b=some (g,Y',Z')/\oZ (q6 (l.any (fu x rest))) a b g Y' Z':=by
 unfold yc;rw[zl (by simp[f62])];refine wB rfl ?_;obtain⟨g,Y',Z',h,n,o,p⟩:=Ti l x rest i hs j k a b c d e f bx m;subst n;have q:=Ax x rest l 0;simp only[Rw]at h;simp[Rw,h,q,oZ,o,f62];exact p
theorem slX(Y:Hp)(l:List Xp)(k:Nat)(h:k<=l.length):y8 prog Y 24 (.sl 13 (l.map Xp.V)) none (some (some (int k)))=some (.sl 13 ((l.take k).map Xp.V)):=by simp[y8,h]
noncomputable def DQ (L:List yp) (s:za):Int:=match L[(dx (L.map yp.name) s).1]? with
 |some y=>y.rest
 |none=>0
noncomputable def nJ (L:List yp) (a:List Xp):Nat->List Xp->Bool
 |_,[]=>false
 |i,x::l=>(a.take i).any (fu x (DQ L x.w9))||nJ L a (i+1) l
noncomputable abbrev Tm:Ctx:=qf prog [(57,hP NB),(62,yc Tj f62)]
theorem Tn:AM.Good Tm (fun g=>[57].contains g):=qI mixed ⟨dA,fun _=>zq _ _,HP,by simp,trivial⟩
theorem nK:zh prog 38 (yc Tm f38):=Zg Tn func38
theorem Ay(b:Bk)(U:b.cb<=zD)(hs:∀x∈b.wP,x.IX/\(dx (b.zr.map yp.name) x.w9).2=true)(W:∀y∈b.zr,0<=y.rest/\y.rest<=100000000)(t:Bool)(u:Hp)(r id m g:Nat)(hid:id<r)(v:u id=some (Jj b m g t)) :
  ∃H Y' Z',yc Tm f38 [.ref id 0 0] u r=some (H,Y',Z')/\oZ (q6 (nJ b.zr b.wP 0 b.wP)) u r H Y' Z':=by
 unfold yc;rw[zl (by simp[f38])];refine wB rfl ?_;have P:=yD DG b.wP;have Q:=yD J8 b.zr;have X:b.cb=jh yp.cb b.zr+jh y7.cb b.holds+jh Xp.cb b.wP:=rfl;unfold zD at U;have R:=v;rw[Zw]at R;simp[R];refine qu (fun k σ Y Z=>σ 0=.ref id 0 0/\σ 12=.sl 13 (b.wP.map Xp.V)/\σ 13=int b.wP.length/\σ 14=int k/\r<=Z/\(∀j,j<r->Y j=u j)/\nJ b.zr b.wP 0 b.wP=nJ b.zr b.wP k (b.wP.drop k)) b.wP.length
  ⟨by simp,by simp,by simp,by simp,zk _,fun _ _=>rfl,by simp⟩ ?_
 rintro k σ Y Z hk ⟨I,h,i,l,J,n,a⟩;by_cases c:k<b.wP.length
 ·obtain⟨x,D⟩:=yb (b.wP[k]);have w:x∈b.wP:=by rw[<-D];exact zo c
  obtain⟨K,L⟩:=hs x w;have hmx:=jO (f:=Xp.cb) w;have hxc:x.cb=x.name.length+x.w9.length+x.flag.length+x.cond.cb+x.we.length+x.ja.length+jh yk.cb x.zQ:=rfl;rw[zg c,D]at a;simp only[nJ]at a;have S:=q8 k;have z:=fun Y Z=>dz b.zr x.w9 Y Z (by unfold zD;omega)
  obtain⟨q,E⟩:=yb ((dx (b.zr.map yp.name) x.w9).1);have d:q<b.zr.length:=by have:=zcM L;rw[E]at this;simpa using this
  obtain⟨y,F⟩:=yb (b.zr[q]);have M:=W y (by rw[<-F];exact zo d);have o:DQ b.zr x.w9=y.rest:=by unfold DQ;rw[E,zm d,F]
  rw[o]at a;have T:¬id=Z:=by omega
  have A:¬id=Z+1:=by omega
  have p:Y id=some (Jj b m g t):=by rw[n id hid];exact v
  rw[Zw]at p;obtain⟨H,Y',Z',B,h2,h3,h4⟩:=Tl (b.wP.take k) x y.rest (by unfold zD;simp;omega) (fun s N=>(hs s (zgX N)).1) K M (zI (zI Y Z (some (ft x))) (Z+1) (some (HN y.rest))) (Z+1+1) Z (Z+1) (by omega) (by omega) (by rw[zT _ _ _ _ (by omega)];simp) (by simp);subst h2;simp only[Rw,ft,HN,yy,List.map_take]at B;have e:∀j,j<r->Y' j=u j:=fun j hj=>by rw[h4 j (by omega),zT _ _ _ _ (by omega),zT _ _ _ _ (by omega)];exact n j hj
  have C:=fun Y=>slX Y b.wP k (by omega)
  cases G:(b.wP.take k).any (fu x y.rest)
  ·rw[G,ziU]at a;rw[G]at B;simp[I,h,i,l,c,D,yy,T,A,p,z,E,d,F,yp.V,C,B,S];exact⟨by omega,by omega,e,a⟩
  ·rw[G,Bool.true_or]at a;rw[G]at B;simp[I,h,i,l,c,D,yy,T,A,p,z,E,d,F,yp.V,C,B,S,f38,oZ,a];exact⟨by omega,e⟩
 ·obtain rfl:k=b.wP.length:=by omega
  rw[zp]at a;simp only[nJ]at a;simp[I,h,i,l,f38,oZ,a];exact⟨J,n⟩
noncomputable def YF (L:List yp):za->List za->List Xp->Int×List za
 |_,l,[]=>(0,l)
 |before,l,x::xs=>if(Wg L before l x).1=0 then YF L x.name (Wg L before l x).2 xs else Wg L before l x
noncomputable def yT (b:Bk):Int:=
 if(20:Int)<b.zr.length\/(10:Int)<b.holds.length\/(100:Int)<b.wP.length then 2
 else if(ke [] [] b.zr).1=0 then
  (if(Za b.zr [] (ke [] [] b.zr).2 b.holds).1=0 then
   (if(YF b.zr [] (Za b.zr [] (ke [] [] b.zr).2 b.holds).2 b.wP).1=0 then(if nJ b.zr b.wP 0 b.wP=true then 13 else 0)
    else(YF b.zr [] (Za b.zr [] (ke [] [] b.zr).2 b.holds).2 b.wP).1)
   else(Za b.zr [] (ke [] [] b.zr).2 b.holds).1)
 else(ke [] [] b.zr).1
theorem YG(n lo hi:Int):xo n lo hi=true↔lo<=n/\n<=hi:=by simp[xo]
theorem dD:∀{xs:List yp} {a:za} {l:List za},(ke a l xs).1=0->∀y∈xs,0<=y.rest/\y.rest<=100000000
 |[],_,_,_,y,b=>by simp at b
 |x::xs,a,l,h,y,b=>by
  simp only[ke]at h;split at h
  ·split at h
   ·split at h
    ·rename_i d;rcases zx.1 b with rfl|b
     ·exact(YG _ _ _).1 d
     ·exact dD h y b
    ·exact absurd h (by simp)
   ·rename_i c;exact absurd h c
  ·rename_i c;exact absurd h c
theorem NH:∀{xs:List yk} {p:Option Int} {b:List Sp},Ce p b xs=0->fW xs
 |[],_,_,_,y,a=>by simp at a
 |x::xs,p,b,h,y,a=>by
  simp only[Ce]at h;split at h
  ·rename_i d;split at h
   ·exact absurd h (by simp)
   ·split at h
    ·split at h
     ·exact absurd h (by simp)
     ·rcases zx.1 a with rfl|a
      ·exact(YG _ _ _).1 d
      ·exact NH h y a
    ·rename_i c;exact absurd h c
  ·exact absurd h (by simp)
theorem DR{l:List yk}(h:ko l=0):fW l:=by
 unfold ko at h;split at h
 ·exact absurd h (by simp)
 ·exact NH h
theorem Fj{L:List yp}{a:za}{l:List za}{x:Xp}(h:(Wg L a l x).1=0):ko x.zQ=0/\(dx (L.map yp.name) x.w9).2=true/\Zv x.ja 20=0/\x.cond.check=0/\xA x.name a=0:=by
 unfold Wg at h;split at h
 ·rename_i b;split at h
  ·rename_i d;split at h
   ·split at h
    ·rename_i e;split at h
     ·split at h
      ·rename_i f;exact⟨h,d,f,e,b⟩
      ·rename_i c;exact absurd h c
     ·rename_i c;exact absurd h c
    ·rename_i c;exact absurd h c
   ·exact absurd h (by simp)
  ·exact absurd h (by simp)
 ·rename_i c;exact absurd h c
theorem Fk{L:List yp}:∀{xs:List Xp} {a:za} {l:List za},(YF L a l xs).1=0->∀y∈xs,ko y.zQ=0/\(dx (L.map yp.name) y.w9).2=true
 |[],_,_,_,y,b=>by simp at b
 |x::xs,a,l,h,y,b=>by
  simp only[YF]at h;split at h
  ·rename_i c;rcases zx.1 b with rfl|b
   ·exact⟨(Fj c).1,(Fj c).2.1⟩
   ·exact Fk h y b
  ·rename_i c;exact absurd h c
noncomputable abbrev To:Ctx:=qf prog [(35,yc S6 f35),(36,yc S8 f36),(37,yc Tc f37),(38,yc Tm f38)]
theorem Tp:Gd To:=qD mixed ⟨ss,Av,dB,nK,trivial⟩
theorem nL:zh prog 22 (yc To f22):=Zg Tp func22
theorem HQ(b:Bk)(hb:b.cb<=zD)(P:Hp)(G id m g:Nat)(hid:id<G)(U:m<G)(d:id≠m)(u:P id=some (Jj b m g true))(W:P m=some (xn [])) :
  ∃X Y' Z',yc To f22 [.ref id 0 0] P G=some (X,Y',Z')/\X=int (yT b):=by
 unfold yc;rw[zl (by simp[f22])];refine wB rfl ?_;have hlen:=yD DG b.wP;have hleL:=yD J8 b.zr;have hleH:=yD fV b.holds;have hbc:b.cb=jh yp.cb b.zr+jh y7.cb b.holds+jh Xp.cb b.wP:=rfl;have l:=hb;unfold zD at hb;obtain⟨X,Y1,nx1,H,rfl,l3,l4,l5⟩:=DO b [] l true P G id m g hid U d u W;have v:Y1 id=some (Jj b m g true):=by rw[l5 id hid d];exact u
 obtain⟨I,w⟩:∃e,ke [] [] b.zr=e:=⟨_,rfl⟩;rw[w]at H l4;obtain⟨x2,Y2,Xm,Q,rfl,g3,g4,g5⟩:=HL b I.2 l true Y1 nx1 id m g (by omega) (by omega) d v l4;have y:Y2 id=some (Jj b m g true):=by rw[g5 id (by omega) d];exact v
 obtain⟨D,J⟩:∃e,Za b.zr [] I.2 b.holds=e:=⟨_,rfl⟩;rw[J]at Q g4;obtain⟨e3,z⟩:∃e,YF b.zr [] D.2 b.wP=e:=⟨_,rfl⟩;have s:=u;rw[Zw]at s;have i:=y;rw[Zw]at i;by_cases A:(20:Int)<b.zr.length
 ·have h:yT b=2:=by unfold yT;rw[zl (.inl A)]
  simp[s,A,h,f22]
 by_cases E:(10:Int)<b.holds.length
 ·have h:yT b=2:=by unfold yT;rw[zl (.inr (.inl E))]
  simp[s,A,E,h,f22]
 by_cases K:(100:Int)<b.wP.length
 ·have h:yT b=2:=by unfold yT;rw[zl (.inr (.inr K))]
  simp[s,A,E,K,h,f22]
 have c:yT b=if I.1=0 then(if D.1=0 then(if e3.1=0 then(if nJ b.zr b.wP 0 b.wP=true then 13 else 0)else e3.1)else D.1)else I.1:=by unfold yT;rw[zj (by omega),w,J,z]
 by_cases F:I.1=0
 case neg=>rw[zj F]at c;have c1':=Xo F;simp[s,A,E,K,H,c1',c,f22]
 rw[zl F]at c;by_cases R:D.1=0
 case neg=>rw[zj R]at c;have c2':=Xo R;simp[s,A,E,K,H,F,Q,c2',c,f22]
 rw[zl R]at c;simp[s,A,E,K,H,F,Q,R,i];refine qu (fun k σ Y Z=>σ 0=.ref id 0 0/\σ 48=.sl 13 (b.wP.map Xp.V)/\σ 49=int b.wP.length/\σ 50=int k/\G<=Z/\Y id=some (Jj b m g true)/\∃(a:za) (l':List za),σ 5=str a/\Y m=some (xn l')/\e3=YF b.zr a l' (b.wP.drop k)) b.wP.length
  ⟨by simp,by simp,by simp,by simp,by simp;omega,y,[],D.2,by simp,g4,by simp[z]⟩ ?_
 clear H l3 l4 l5 v Q g3 g4 g5 y i s;rintro k σ Y Z hk ⟨S,n,o,p,hnx,B,a,l',h5,hm,j⟩;by_cases q:k<b.wP.length
 ·obtain⟨x,T⟩:=yb (b.wP[k]);have hmx:=jO (f:=Xp.cb) (zo q);rw[T]at hmx;have nm:¬m=Z:=by omega
  have ni:¬id=Z:=by omega
  have hw:=q8 k;rw[zg q,T]at j;simp only[YF]at j;obtain⟨x3,hp3,nx3,t,rfl,q3,q4,q5⟩:=lM b l' a x l (by unfold zD;omega) (zI Y Z (some (ft x))) (Z+1) id m g (by omega) (by omega) d (by rw[zT _ _ _ _ ni];exact B) (by rw[zT _ _ _ _ nm];exact hm);have hc3:hp3 id=some (Jj b m g true):=by rw[q5 id (by omega) d,zT _ _ _ _ ni];exact B
  have L:hp3 Z=some (ft x):=by rw[q5 Z (by omega) (by omega)];simp
  simp only[ft,yy]at t L;by_cases M:(Wg b.zr a l' x).1=0
  case neg=>
   rw[zj M]at j;have h:yT b=(Wg b.zr a l' x).1:=by rw[c,j,zj M]
   have d1':=Xo M;simp[S,h5,n,o,p,q,T,yy,t,d1',h,f22]
  ·rw[zl M]at j;simp[S,h5,n,o,p,q,T,yy,t,M,L,hw];exact⟨by omega,by omega,hc3,_,q4,j⟩
 ·obtain rfl:k=b.wP.length:=by omega
  rw[zp]at j;simp only[YF]at j;have hz:(YF b.zr [] D.2 b.wP).1=0:=by rw[z,j]
  have hyr:=dD (by rw[w];exact F);have N:=Fk hz;obtain⟨x3,hp3,nx3,t,rfl,q3,q4⟩:=Ay b l (fun x C=>⟨⟨DR (N x C).1,by have:=jO (f:=Xp.cb) C;unfold zD;omega⟩,(N x C).2⟩) hyr true Y Z id m g (by omega) B;have h:yT b=if nJ b.zr b.wP 0 b.wP=true then 13 else 0:=by rw[c,j,zl rfl]
  cases r:nJ b.zr b.wP 0 b.wP
  ·rw[r,zj (by simp)]at h;rw[r]at t;simp[S,n,o,p,t,h,f22]
  ·rw[r,zl rfl]at h;rw[r]at t;simp[S,n,o,p,t,h,f22]
theorem fv:zh prog 21 (yc C0 f21):=Zg ku func21
theorem nM(b:Bk)(g:Hp)(a:Nat):∃f Y' Z',yc C0 f21 [.nil,.agg b.V] g a=some (f,Y',Z')/\f=.ref (a+1+1+1) 0 0/\Z'=a+1+1+1+1/\Y' (a+1)=some (xn [])/\Y' (a+1+1+1)=some (Jj b (a+1) (a+1+1) false):=by
 unfold yc;rw[zl (by simp[f21])];refine wB rfl ?_;simp[Bk.V,qi,qJ];refine qu (fun k σ Y Z=>σ 14=int 0/\σ 15=int k/\σ 5=.ref (a+1+1+1) 0 0/\Z=a+1+1+1+1/\Y (a+1)=some (xn [])/\Y (a+1+1+1)=some (Jj b (a+1) (a+1+1) false)) 0
  ⟨by simp,by simp,by simp,by simp,by simp[xn,nI],by simp[Zw]⟩ ?_
 rintro k σ Y Z l ⟨c,d,h,e,i,j⟩;obtain rfl:k=0:=by omega
 simp[c,d,h,e,f21];exact⟨i,j⟩
noncomputable def FBk (out:Bk->O):zb->Option O:=qt (α:=Bk) (fun b=>[.agg b.V]) (fun b=>b.cb<=zD) out
theorem lN(out:Bk->O)(b:Bk)(Y:Hp)(Z:Nat)(h:b.cb<=zD):hP (FBk out) [.agg b.V] Y Z=some (out b,Y,Z):=
 aK b _ _ (by simp[Bk.V]) (fun a b e=>by simp only[zi,zF,O.agg.injEq]at e;exact DF e) h (.inr (by simp[Bk.V]))
noncomputable abbrev Cxcb:Ctx:=qf prog [(21,yc C0 f21),(22,yc To f22)]
theorem Tq:Gd Cxcb:=qD mixed ⟨fv,nL,trivial⟩
theorem NI(b:Bk)(h:b.cb<=zD):zH Cxcb Tryz.f7 [.agg b.V]=some (int (yT b)):=by refine zs rfl ?_;obtain⟨i,Y1,e,a,rfl,rfl,f,c⟩:=nM b (zI (fun _=>none) 0 (some ⟨26,3,false,[b.V]⟩)) 1;obtain⟨j,Y2,g,d,rfl⟩:=HQ b h (zI Y1 4 (some (Jj b 2 3 true))) 5 4 2 3 (by omega) (by omega) (by omega) (by simp) (by rw[zT _ _ _ _ (by omega)];exact f);simp only[Bk.V]at a;rw[Zw]at c d;simp[Bk.V,a,c,d,jB,Tryz.f7]
theorem pT:zh prog 7 (hP (FBk fun b=>int (yT b))):=
 Z3 Tq func7 false [] fun b a=>⟨by simp[Tryz.f7],_,NI b a,qP _⟩
end Go.Q
namespace Go.AM
end Go.AM
namespace Go.Q
theorem HR(Y:Hp)(b:Bk):z7 Y (.agg b.V)=some (.agg b.V,Y):=by simp[Bk.V]
theorem o0:∀{xs:List yk} {p:Option Int} {b:List Sp},Ce p b xs=0->∀y∈xs,vJ y.qw=0
 |[],_,_,_,y,a=>by simp at a
 |x::xs,p,b,h,y,a=>by
  simp only[Ce]at h;split at h
  ·split at h
   ·exact absurd h (by simp)
   ·split at h
    ·rename_i c;split at h
     ·exact absurd h (by simp)
     ·rcases zx.1 a with rfl|a
      ·exact c
      ·exact o0 h y a
    ·rename_i c;exact absurd h c
  ·exact absurd h (by simp)
theorem XK{l:List yk}(h:ko l=0):∀y∈l,vJ y.qw=0:=by
 unfold ko at h;split at h
 ·exact absurd h (by simp)
 ·exact o0 h
end Go.Q
