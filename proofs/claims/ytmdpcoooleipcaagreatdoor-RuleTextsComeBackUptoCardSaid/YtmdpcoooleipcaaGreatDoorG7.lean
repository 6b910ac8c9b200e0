/- Lemmas. -/
import Derived.Lib.Bytealg
import Derived.Test.YtmdpcoooleipcaaGreatDoorG5
set_option maxRecDepth 100000
open Go Proofs Proofs.YtmdpcoooleipcaaGreatDoor Proofs.Tryz RowKit AM SpanLaw Q Zz
open Go.IntKind renaming i64→i6
namespace Go.Q
inductive Cnd where
 |mk (kind:Int) (attr:List UInt8) (op:Int) (yl:List Val) (pat name:List UInt8) (args:List Cnd)
namespace Cnd
def kind:Cnd->Int|.mk k _ _ _ _ _ _=>k
def attr:Cnd->za|.mk _ a _ _ _ _ _=>a
def op:Cnd->Int|.mk _ _ o _ _ _ _=>o
def yl:Cnd->List Val|.mk _ _ _ v _ _ _=>v
def pat:Cnd->za|.mk _ _ _ _ p _ _=>p
def name:Cnd->za|.mk _ _ _ _ _ n _=>n
def args:Cnd->List Cnd|.mk _ _ _ _ _ _ l=>l
end Cnd
theorem Cnd.ind{P:Cnd->Prop}(h:∀k a o v p n l,(∀x∈l,P x)->P (.mk k a o v p n l))(c:Cnd):P c:=
 Cnd.rec (motive_1:=P) (motive_2:=fun l=>∀x∈l,P x) (fun k a o v p n l b=>h k a o v p n l b) (by simp)
  (fun x l e b y d=>by
   rcases zJ.1 d with rfl|d
   ·exact e
   ·exact b y d) c
mutual
def Cnd.V:Cnd->zb
 | .mk k a o v p n l=>[int k,str a,int o,.sl 5 (v.map Val.V),str p,str n,.sl 7 (lf l)]
def lf:List Cnd->List zb
 |[]=>[]
 |c::l=>c.V::lf l
end
theorem cK:∀l:List Cnd,lf l=l.map Cnd.V
 |[]=>rfl
 |c::l=>by simp[lf,cK l]
theorem qC(c:Cnd):c.V=[int c.kind,str c.attr,int c.op,.sl 5 (c.yl.map Val.V),str c.pat,str c.name,.sl 7 (c.args.map Cnd.V)]:=by
 cases c with
 |mk k a o v p n l=>simp[Cnd.V,cK,Cnd.kind,Cnd.attr,Cnd.op,Cnd.yl,Cnd.pat,Cnd.name,Cnd.args]
@[simp]theorem Iu(c:Cnd):c.V.length=7:=by rw[qC];rfl
@[simp]theorem pA(c:Cnd):c.V.all O.we=true:=by rw[qC];rfl
@[simp]theorem Iv(c:Cnd):(∀x,x∈c.V->O.we x=true)=True:=by have:=pA c;rw[qc]at this;exact eq_true this
@[simp]theorem OB(c:Cnd):c.V.take 7=c.V:=qv (by simp)
@[simp]theorem zan(c:Cnd)(h:0<c.V.length):c.V[0]=int c.kind:=by simp[qC c]
@[simp]theorem zao(c:Cnd)(h:1<c.V.length):c.V[1]=str c.attr:=by simp[qC c]
@[simp]theorem zap(c:Cnd)(h:2<c.V.length):c.V[2]=int c.op:=by simp[qC c]
@[simp]theorem zaq(c:Cnd)(h:3<c.V.length):c.V[3]=.sl 5 (c.yl.map Val.V):=by simp[qC c]
@[simp]theorem zar(c:Cnd)(h:4<c.V.length):c.V[4]=str c.pat:=by simp[qC c]
@[simp]theorem zas(c:Cnd)(h:5<c.V.length):c.V[5]=str c.name:=by simp[qC c]
@[simp]theorem zat(c:Cnd)(h:6<c.V.length):c.V[6]=.sl 7 (c.args.map Cnd.V):=by simp[qC c]
theorem Cb{a b:List Val}(h:a.map Val.V=b.map Val.V):a=b:=Wr (fun _ _=>vE) h
theorem YN:∀{a b:Cnd},a.V=b.V->a=b:=by
 intro a
 induction a using Cnd.ind with
 |h k a o v p n l f=>
  intro b e;cases b with
  |mk s t o' u w z l'=>
   simp only[qC,Cnd.kind,Cnd.attr,Cnd.op,Cnd.yl,Cnd.pat,Cnd.name,Cnd.args,zn,z7]at e;obtain⟨g,i,j,c,m,q,d⟩:=e;obtain rfl:=ql g;obtain rfl:=ya i;obtain rfl:=ql j;injection c with _ c
   obtain rfl:=Cb c;obtain rfl:=ya m;obtain rfl:=ya q;injection d with _ d;rw[Wz (fun x r y=>f x r) d]
mutual
def Cnd.cb:Cnd->Nat
 | .mk _ a _ v p n l=>1+a.length+kf v+p.length+n.length+JT l
def JT:List Cnd->Nat
 |[]=>0
 |c::l=>c.cb+JT l
end
theorem ZT(c:Cnd):c.cb=1+c.attr.length+kf c.yl+c.pat.length+c.name.length+JT c.args:=by cases c;rfl
theorem gZ(c:Cnd):0<c.cb:=by rw[ZT];omega
theorem Va:∀{l:List Cnd} {x:Cnd},x∈l->x.cb<=JT l
 |y::l,x,h=>by
  simp only[JT];rcases zJ.1 h with rfl|h
  ·omega
  ·have:=Va h;omega
theorem WG:∀l:List Cnd,l.length<=JT l
 |[]=>by simp[JT]
 |c::l=>by have:=WG l;have:=gZ c;simp only[JT,zd];omega
mutual
def Cnd.parts:Cnd->Nat
 | .mk _ _ _ _ _ _ l=>1+yV l
def yV:List Cnd->Nat
 |[]=>0
 |c::l=>c.parts+yV l
end
mutual
def Cnd.levels:Cnd->Nat
 | .mk _ _ _ _ _ _ l=>yz l+1
def yz:List Cnd->Nat
 |[]=>0
 |c::l=>max c.levels (yz l)
end
theorem Jr(c:Cnd):c.parts=1+yV c.args:=by cases c;rfl
theorem WH(c:Cnd):c.levels=yz c.args+1:=by cases c;rfl
theorem pB(l:List Cnd)(h:∀x∈l,x.parts<=x.cb):yV l<=JT l:=by
 induction l with
 |nil=>simp[yV]
 |cons v l a=>have:=h v (by simp);have:=a fun x b=>h x (by simp[b]);simp only[yV,JT];omega
theorem uo(c:Cnd):c.parts<=c.cb:=by
 induction c using Cnd.ind with
 |h k a o v p n l b=>have:=pB l b;rw[Jr,ZT];simp only[Cnd.args];omega
theorem mo(l:List Cnd)(h:∀x∈l,x.levels<=x.parts):yz l<=yV l:=by
 induction l with
 |nil=>simp[yz]
 |cons v l a=>have:=h v (by simp);have:=a fun x b=>h x (by simp[b]);simp only[yV,yz];omega
theorem pC(c:Cnd):c.levels<=c.parts:=by
 induction c using Cnd.ind with
 |h k a o v p n l b=>have:=mo l b;rw[Jr,WH];simp only[Cnd.args];omega
theorem J7(a b:List Cnd):yV (a++b)=yV a+yV b:=by
 induction a with
 |nil=>simp[yV]
 |cons v a c=>simp only[qg,yV,c];omega
theorem cL(a b:List Cnd):yz (a++b)=max (yz a) (yz b):=by
 induction a with
 |nil=>simp[yz]
 |cons v a c=>simp only[qg,yz,c];omega
theorem Rt{l:List Cnd}{k:Nat}(h:k<l.length):yV (l.take (k+1))=yV (l.take k)+l[k].parts/\yz (l.take (k+1))=max (yz (l.take k)) l[k].levels:=by rw[qR h,J7,cL];simp[yV,yz]
theorem fu(l:List Cnd)(k:Nat):yV (l.take k)<=yV l:=by have:=J7 (l.take k) (l.drop k);rw[Nu]at this;omega
noncomputable def FC (out:Cnd->O) (n:Nat):zb->Option O:=qD (α:=Cnd) (fun c=>[.agg c.V]) (fun c=>c.cb<=zX/\c.cb<=n) out
theorem Ru(out:Cnd->O)(n:Nat)(c:Cnd)(h:c.cb<=zX/\c.cb<=n):FC out n [.agg c.V]=some (out c):=
 qj (V:=fun c:Cnd=>[.agg c.V]) (a:=c) (fun a b e=>by simp only[zn,z7,O.agg.injEq]at e;exact YN e) h
@[simp]theorem uq(Y:Hp)(c:Cnd):qe Y c.V=some (c.V,Y):=by rw[qC];simp
theorem YO(Y:Hp)(c:Cnd):zS Y (.agg c.V)=some (.agg c.V,Y):=by rw[qC];simp
theorem Kr(c:Cnd):O.noOwn (.agg c.V)=true:=by rw[qC];simp
theorem hC(out:Cnd->O)(n:Nat)(c:Cnd)(Y:Hp)(Z:Nat)(h:c.cb<=zX/\c.cb<=n):zp false [] (FC out n) [.agg c.V] Y Z=some (out c,Y,Z):=
 yg (Y1:=Y) (show zt Y [.agg c.V]=some ([.agg c.V],Y) by simp only[zt,YO]) (Ru out n c h) (.inr (by simp only[wC,Kr,VV,Jd]))
theorem cM{out:Cnd->O}{n:Nat}{args:zb}{r:O}(h:FC out n args=some r):∃c:Cnd,args=[.agg c.V]/\(c.cb<=zX/\c.cb<=n)/\r=out c:=zQ h
theorem fv(c:Cnd):0<c.parts:=by rw[Jr];omega
theorem cN:∀{l:List Cnd} {x:Cnd},x∈l->x.parts<=yV l
 |y::l,x,h=>by
  simp only[yV];rcases zJ.1 h with rfl|h
  ·omega
  ·have:=cN h;omega
theorem cP:∀l:List Cnd,l.length<=yV l
 |[]=>by simp
 |c::l=>by have:=cP l;have:=fv c;simp only[yV,zd];omega
noncomputable def Rv (out:Cnd->O) (n:Nat):zb->Option O:=qD (α:=Cnd) (fun c=>[.agg c.V]) (fun c=>c.parts<=zX/\c.parts<=n) out
theorem Ce(out:Cnd->O)(n:Nat)(c:Cnd)(h:c.parts<=zX/\c.parts<=n):Rv out n [.agg c.V]=some (out c):=
 qj (V:=fun c:Cnd=>[.agg c.V]) (a:=c) (fun a b e=>by simp only[zn,z7,O.agg.injEq]at e;exact YN e) h
theorem Cf(out:Cnd->O)(n:Nat)(c:Cnd)(Y:Hp)(Z:Nat)(h:c.parts<=zX/\c.parts<=n):zp false [] (Rv out n) [.agg c.V] Y Z=some (out c,Y,Z):=
 yg (Y1:=Y) (show zt Y [.agg c.V]=some ([.agg c.V],Y) by simp only[zt,YO]) (Ce out n c h) (.inr (by simp only[wC,Kr,VV,Jd]))
theorem ur{dr:Prop}{P:Program}{f:FuncId}{a:Bool}{b:List Nat}{F c:zb->Option O}(h:∀args r,F args=some r->c args=some r)(hs:yU dr P f (zp a b c)):yU dr P f (zp a b F):=
 ⟨hs.1,fun args Y Z r Y' Z' e=>hs.2 args Y Z r Y' Z' (by
  unfold zp at e⊢;split at e
  ·split at e
   ·rename_i d;simp only[h _ _ d];exact e
   ·cases e
  ·cases e)⟩
theorem L0(out:Cnd->O)(n:Nat):∀args r,FC out n args=some r->Rv out zX args=some r:=fun args r h=>by obtain⟨c,rfl,⟨a,_⟩,rfl⟩:=zQ h;have:=uo c;exact Ce out zX c ⟨by omega,by omega⟩
theorem FZ{out:Cnd->O}{f:FuncId}(a:∃fn,prog.funcs[f]?=some fn/\(fn.name== "runtime.NumGoroutine")=false/\fn.body.isNone=false):zh prog f (zp false [] (FC out 0)):=by
 refine⟨a,fun args Y Z r Y' Z' h=>?_⟩;unfold zp at h;split at h
 ·split at h
  ·rename_i r0 b;obtain⟨c,_,d,_⟩:=cM b;have:=gZ c;omega
  ·cases h
 ·cases h
noncomputable abbrev GC (out:Cnd->O):AM.Spec:=zp false [] (FC out zX)
theorem WI(out:Cnd->O)(c:Cnd)(Y:Hp)(Z:Nat)(h:c.cb<=zX):GC out [.agg c.V] Y Z=some (out c,Y,Z):=hC out zX c Y Z ⟨h,h⟩
def hG(done:List za)(k:Nat):List zb:=done.map (fun p=>[str p])++List.replicate k [str []]
theorem mq(done:List za)(k:Nat)(p:za):(hG done (k+1)).set done.length [str p]=hG (done++[p]) k:=by unfold hG;rw[List.set_append_right _ _ (by simp)];simp[List.replicate_succ]
theorem mr(done:List za)(k:Nat):(hG done (k+1))[done.length]?=some [str []]:=by unfold hG;rw[qQ (by simp)];simp[List.replicate_succ]
theorem uu(done:List za):hG done 0=done.map fun p=>[str p]:=by simp[hG]
def qw(s sep:za):List za:=Lib.split s sep
theorem cQ{sep s:za}{i k:Nat}(h:Lib.index s sep=i):Lib.splitK sep 0 (k+1) s=s.take i::Lib.splitK sep 0 k (s.drop (i+sep.length)):=by
 have a:¬(Lib.index s sep==-1)=true:=by rw[yJ];omega
 rw[Lib.splitK,zg a,h];simp
theorem fw{s sep:za}(h:sep≠[]):Lib.count s sep<=s.length:=by have:=Lib.countB_le ⟨sep.toArray⟩ (by cases sep<;>simp_all) s.length ⟨s.toArray⟩ (by simp);simpa[Lib.countB]using this
theorem Cg(a b:za)(Y:Hp)(Z:Nat)(h:a.length<=zX)(c:b.length<=zX)(d:1<=b.length):zp false [] (Wd LM fun _ b=>1<=b.length) [str a,str b] Y Z=some (int (Lib.count a b),Y,Z):=xe _ _ a b Y Z h c d rfl
def Ks(xs:List za):Blk:=⟨9,1,true,xs.map fun p=>[str p]⟩
theorem ez(s sep:za)(G:s.length<=zX)(H:sep.length<=zX)(w:1<=sep.length) :
  ∃x Y Z,yd Ci2 f127 [str s,str sep,int 0,int (-1)] (fun _=>none) 0=some (x,Y,Z)/\b8 (some (Ks (qw s sep))) x Y Z:=by
 have b:sep≠[]:=by intro e;subst e;simp at w
 have I:=fw (s:=s) b;unfold zX at G H;refine KY rfl ?_;have m:=vL b;have y:=wY ((Lib.count s sep:Int)+1);have J:=wY ((s.length:Int)+1);have w3:(if(s.length:Int)+1<(Lib.count s sep:Int)+1 then(s.length:Int)+1 else(Lib.count s sep:Int)+1)=(Lib.count s sep:Int)+1:=zg (by omega);have K:i6.wrap ((Lib.count s sep:Int)+1-1)=(Lib.count s sep:Int):=by rw[wN (by omega) (by omega)];omega
 have n:=wY (Lib.count s sep:Int);have z:((Lib.count s sep:Int)+1).toNat=Lib.count s sep+1:=by omega
 have A:0<=(Lib.count s sep:Int)+1:=by omega
 have c3:Lib.count s sep+1<=maxLen:=by simp[maxLen];omega
 have L:(Lib.count s sep+1)*16<=140737488355328:=by omega
 have o:=fun Y Z=>Cg s sep Y Z (by unfold zX;omega) (by unfold zX;omega) w
 have p:¬s.length<Lib.count s sep:=by omega
 have M:(Lib.count s sep:Int)+1<=(maxLen:Int):=by simp[maxLen];omega
 simp[m,o,y,J,p,K,n,ZK,z,A,M,L];refine qA (fun j X Y Z=>∃done cur,done.length=j/\X 0=str cur/\X 1=str sep/\X 2=int 0/\X 3=int (Lib.count s sep)/\X 9=.own 0 0 (Lib.count s sep+1)/\X 10=int j /\
   Y 0=some ⟨9,1,true,hG done (Lib.count s sep+1-j)⟩/\j+Lib.count cur sep=Lib.count s sep/\qw s sep=done++qw cur sep/\cur.length<=s.length) (Lib.count s sep)
  ⟨[],s,rfl,by simp,by simp,by simp,by simp[n],by simp,by simp,by simp[hG],by simp,by simp,zi _⟩ ?_
 rintro j X Y Z hj ⟨done,cur,d,B,C,D,E,F,f,l,hc,hs,hl⟩;have g:∀Y Z,zp false [] (Wd pk fun _ _=>True) [str cur,str sep] Y Z=some (int (Lib.index cur sep),Y,Z):=fun Y Z=>QX cur sep Y Z (by unfold zX;omega) (by unfold zX;omega)
 by_cases q:j<Lib.count s sep
 ·have N:Lib.index cur sep≠-1:=fun e=>by have:=Lib.count_miss e;omega
  have r:0<=Lib.index cur sep:=by
   rcases Lib.index_spec cur sep with⟨h,_⟩|⟨i,h,_⟩
   ·exact absurd h N
   ·omega
  obtain⟨i,t⟩:∃i:Nat,Lib.index cur sep=i:=⟨(Lib.index cur sep).toNat,by omega⟩;have P:=Lib.index_room cur sep r;rw[t]at P g;have u:=Lib.count_hit b t;have c:qw cur sep=cur.take i::qw (cur.drop (i+sep.length)) sep:=by unfold qw Lib.split;rw[u,iW 1,cQ t]
  have Q:¬((i:Int)<0):=by omega
  have R:=wY (i:Int);have S:=wY ((i:Int)+sep.length);have T:=wP j;have U:((i:Int)+sep.length).toNat=i+sep.length:=by omega
  have W:i+sep.length<=cur.length:=by omega
  have k7:i<=cur.length:=by omega
  have k8:0<=(i:Int)+sep.length:=by omega
  have k9:j<Lib.count s sep+1:=by omega
  have v:Lib.count s sep+1-j=(Lib.count s sep-j)+1:=by omega
  have k:=mr done (Lib.count s sep-j);rw[d]at k;have a:=mq done (Lib.count s sep-j) (cur.take i);rw[d]at a;rw[v]at l;simp[B,C,D,E,F,f,l,q,g,Q,R,S,T,U,W,k7,k8,k9,k,a];have ht:List.take (cur.length-(i+sep.length)) (List.drop (i+sep.length) cur)=List.drop (i+sep.length) cur:=qv (by simp);rw[ht];exact⟨by omega,done++[cur.take i],by simp[d],rfl,by omega,by rw[hs,c];simp,by omega⟩
 ·obtain rfl:j=Lib.count s sep:=by omega
  have hz:Lib.count cur sep=0:=by omega
  have c:qw cur sep=[cur]:=by unfold qw Lib.split;rw[hz];rfl
  have v:Lib.count s sep+1-Lib.count s sep=0+1:=by omega
  have k:=mr done 0;have a:=mq done 0 cur;rw[d]at k a;rw[v]at l;simp[B,C,D,E,F,f,l,k,a,y,n,z,A,b8,yL,f127];rw[hs,c];exact⟨0,⟨by omega,by simp[Ks,d]⟩,by simp[Ks,uu]⟩
noncomputable def Ub:zb->Option (Option Blk):=qD (α:=za×za) (fun a=>[str a.1,str a.2,int 0,int (-1)]) (fun a=>a.1.length<=zX/\a.2.length<=zX/\1<=a.2.length) (fun a=>some (Ks (qw a.1 a.2)))
noncomputable def OC:zb->Option (Option Blk):=qD (α:=za×za) (fun a=>[str a.1,str a.2]) (fun a=>a.1.length<=zX/\a.2.length<=zX/\1<=a.2.length) (fun a=>some (Ks (qw a.1 a.2)))
theorem L1:∀a b:za×za,[str a.1,str a.2,int 0,int (-1)]=[str b.1,str b.2,int 0,int (-1)]->a=b:=by rintro⟨c,d⟩ ⟨f,g⟩ e;simp only[zn,z7]at e;rw[ya e.1,ya e.2]
theorem cR:zh prog 127 (jT [] Ub):=
 Wq (fn:=f127) (code:=_) BZ ⟨func127,by kernel_rfl,rfl,by kernel_rfl⟩ [] _ fun args r h=>by obtain⟨⟨a,b⟩,rfl,⟨c,d,e⟩,rfl⟩:=zQ h;exact⟨by simp[f127],ez a b c d e⟩
theorem F0(a b:za)(Y:Hp)(Z:Nat)(c:a.length<=zX)(d:b.length<=zX)(f:1<=b.length):jT [] Ub [str a,str b,int 0,int (-1)] Y Z=some (.own Z 0 (qw a b).length,qb Y Z (some (Ks (qw a b))),Z+1):=by have e:Ub (yn [] [str a,str b,int 0,int (-1)])=some (some (Ks (qw a b))):=qj (V:=fun a:List UInt8×za=>[str a.1,str a.2,int 0,int (-1)]) (a:=(a,b)) L1 ⟨c,d,f⟩;simp[jT,e,Ks]
noncomputable abbrev Csp:Ctx:=qp prog [(127,jT [] Ub)]
theorem L2:Gd Csp:=qT mixed ⟨cR,trivial⟩
theorem YP:zh prog 87 (jT [] OC):=
 Wq (fn:=f87) (code:=_) L2 ⟨func87,by kernel_rfl,rfl,by kernel_rfl⟩ [] _ fun args r h=>by
  obtain⟨⟨a,b⟩,rfl,⟨c,d,e⟩,rfl⟩:=zQ h;have f:=fun Y Z=>F0 a b Y Z c d e
  exact⟨by simp[f87],KY rfl (by simp[f,b8,Ks,f87])⟩
theorem WJ(a b:za)(Y:Hp)(Z:Nat)(c:a.length<=zX)(d:b.length<=zX)(f:1<=b.length):jT [] OC [str a,str b] Y Z=some (.own Z 0 (qw a b).length,qb Y Z (some (Ks (qw a b))),Z+1):=by have e:OC (yn [] [str a,str b])=some (some (Ks (qw a b))):=qj (V:=fun a:List UInt8×za=>[str a.1,str a.2]) (a:=(a,b)) BX ⟨c,d,f⟩;simp[jT,e,Ks]
def uv(c:UInt8):Bool:=pr 48 57 c
def xI(l:za):Bool:=l.all uv
def jI(l:za):Bool:=!(l==[])&&!(decide (1<l.length)&&l.headD 0==48)&&xI l
def vR(l:za):Bool:=l==[120]||l==[88]||l==[42]
def aB(c:UInt8):Bool:=pr 97 122 c||pr 65 90 c||pr 48 57 c||c==45
def eA(l:za):Bool:=l.all aB&&!(l==[])
theorem uw{l:za}{k:Nat}(h:k<l.length):xI (l.drop k)=(uv l[k]&&xI (l.drop (k+1))):=K0 h
theorem ux{l:za}{k:Nat}(h:k<l.length):(l.drop k).all aB=(aB l[k]&&(l.drop (k+1)).all aB):=K0 h
theorem cS(l:za)(i:l.length<=zX):zM C0 f188 [str l]=some (yW (xI l)):=by
 refine zw rfl ?_;unfold zX at i;simp;refine qA (fun k X Y Z=>X 0=str l/\X 5=int l.length/\X 6=int k/\xI l=xI (l.drop k)) l.length ⟨by simp,by simp,by simp,by simp⟩ ?_;rintro k X Y Z m ⟨e,f,g,b⟩;by_cases a:k<l.length
 ·have j:=wP k;rw[uw a]at b;have h:=pc 48 57 l[k];simp only[qz]at h;cases d:uv l[k]
  ·have b:xI l=false:=by rw[b,d];rfl
   have c:pr 48 57 l[k]=false:=d;simp[e,f,g,a,b,h,c,f188]
  ·have c:pr 48 57 l[k]=true:=d;simp[e,f,g,a,h,c,j];exact⟨a,by rw[b,d];rfl⟩
 ·obtain rfl:k=l.length:=by omega
  have b:xI l=true:=by rw[b,zE];rfl
  simp[e,f,g,b,f188]
theorem Zk:zh prog 188 (zp false [] (FS xI)):=
 XV kM func188 false [] fun l Y=>⟨by simp[f188],_,cS l Y,wy _⟩
noncomputable abbrev Cdg:Ctx:=qp prog [(188,zp false [] (FS xI))]
theorem L3:AM.Good Cdg (fun g=>[188].contains g):=qH mixed ⟨Zk,fun _=>zv _ _,trivial⟩
theorem pD(l:za)(h:l.length<=zX):zM Cdg f160 [str l]=some (yW (jI l)):=by
 refine zw rfl ?_;have b:=fun Y Z=>vD xI l Y Z h
 cases l with
 |nil=>simp[jI,f160]
 |cons c l=>
  by_cases d:0<l.length
  ·have a:l≠[]:=by intro e;subst e;simp at d
   have g:(1:Int)<(l.length:Int)+1:=by omega
   by_cases f:c=48
   ·subst f;simp[b,d,a,g,jI,f160]
   ·have i:((c.toNat:Int)==48)=false:=by rw[wv];intro e;apply f;rw[<-wE];simp;omega
    simp[b,d,a,f,i,g,jI,f160]
  ·have a:l=[]:=by cases l<;>simp_all
   subst a;simp[b,jI,f160]
theorem XZ:zh prog 160 (zp false [] (FS jI)):=
 XV L3 func160 false [] fun l Y=>⟨by simp[f160],_,pD l Y,wy _⟩
theorem uy(l:za):zM C0 f91 [str l]=some (yW (vR l)):=by
 refine zw rfl ?_;cases a:(l==[120])
 ·cases b:(l==[88])
  ·simp[a,b,vR,f91]
  ·simp[a,b,vR,f91]
 ·simp[a,vR,f91]
theorem cT:zh prog 91 (zp false [] (FS vR)):=
 XV kM func91 false [] fun l Y=>⟨by simp[f91],_,uy l,wy _⟩
def hK(l:za):Int:=((Lib.decNat l).getD 0:Nat)
theorem WK:∀(l:za) (a:Nat),xI l=true->∃n,Lib.decFrom a l=some n/\n<(a+1)*10 ^ l.length
 |[],a,_=>⟨a,rfl,by simp⟩
 |c::l,a,h=>by
  simp only[xI,wC,zs]at h;have b:48<=c.toNat/\c.toNat<=57:=by have:=h.1;simpa[uv,pr]using this
  obtain⟨n,d,e⟩:=WK l (a*10+(c.toNat-48)) h.2;refine⟨n,?_,?_⟩
  ·simp only[Lib.decFrom,Lib.digitVal,b,and_self,qa];exact d
  ·have f:a*10+(c.toNat-48)+1<=(a+1)*10:=by omega
   calc n<(a*10+(c.toNat-48)+1)*10 ^ l.length:=e
    _<=(a+1)*10*10 ^ l.length:=z6 _ f
    _=(a+1)*10 ^ (c::l).length:=by rw[zd,HF,Nat.mul_assoc,VU 10]
theorem mu{l:za}(h:jI l=true):l≠[]/\xI l=true:=by simp only[jI,zs]at h;exact⟨by intro e;subst e;simp at h,h.2⟩
theorem pE{l:za}(h:jI l=true):Lib.atoi l=some (hK l):=by
 obtain⟨a,b⟩:=mu h;obtain⟨n,i,_⟩:=WK l 0 b;have f:Lib.decNat l=some n:=by unfold Lib.decNat;rw[zg (by simpa using a)];exact i
 cases l with
 |nil=>exact absurd rfl a
 |cons c l=>
  have k:48<=c.toNat/\c.toNat<=57:=by have:=b;simp only[xI,wC,zs]at this;simpa[uv,pr]using this.1
  have j:hK (c::l)=n:=by unfold hK;rw[f];rfl
  rw[j];have g:∀d:UInt8,d.toNat<48->(c==d)=false:=fun d m=>by rw[wv];intro e;subst e;omega
  unfold Lib.atoi;simp only[];rw[g 45 (by decide),g 43 (by decide),f];rfl
noncomputable def FAt:zb->Option O:=qD (α:=za) (fun l=>[str l]) (fun l=>l.length<=18/\jI l=true) (fun l=>.qS [int (hK l),.v .nilIface])
theorem Ch{dr:Prop}(w:World)(e:TypeId)(s:ByteArray):Fr dr w (fun _=>False) (Lib.bytesWorld w e s):=by
 have d:∀(b:World) (a:Addr) (n k:Nat),k≠a.block->(b.freeze a n).heap[k]?=b.heap[k]?:=by
  intro b a n k c;unfold World.freeze;split
  ·rfl
  ·simp[vH,Ne.symm c]
 have f:∀(b:World) (a:Addr) (n:Nat),(b.freeze a n).heap.size=b.heap.size:=by intro b a n;unfold World.freeze;split<;>simp
 unfold Lib.bytesWorld;refine⟨rfl,rfl,rfl,?_,?_,fun k c _=>?_⟩
 ·rw[f];simp
 ·exact fun _=>wS _
 ·rw[d _ _ _ k (by simpa using Nat.ne_of_lt c)];exact(Below.heap_alloc w.drew _ k c)
@[simp]theorem EC(X:Nat->O):AM.get X (.const .nilIface)=some (.v .nilIface):=rfl
theorem pF:zh prog 161 (zp false [] FAt):=
 jj ⟨_,func161,by kernel_rfl,by kernel_rfl⟩ fun args r h=>by
  obtain⟨l,rfl,⟨c,d⟩,rfl⟩:=zQ h;refine⟨[.string ⟨l.toArray⟩],rfl,by simp[lit],rfl,.tuple #[.int .i64 (hK l),.nilIface],fun w S=>.qS rfl fun j g u a b=>?_,fun w S _=>?_⟩
  ·match j,a,b with
   | 0,a,b=>simp at a b;subst a;subst b;exact .v rfl
   | 1,a,b=>simp at a b;subst a;subst b;exact .v rfl
   |j+2,a,b=>simp at a
  refine(Any.strconv_Atoi Tryz.HM ⟨l.toArray⟩ (hK l) (by simpa using c) (by simpa using pE d) w).mono fun e i f=>?_
  obtain⟨rfl,t,rfl⟩:=f;exact⟨rfl,Ch _ _ _⟩
theorem uz(l:za)(Y:Hp)(Z:Nat)(c:l.length<=18)(d:jI l=true):zp false [] FAt [str l] Y Z=some (.qS [int (hK l),.v .nilIface],Y,Z):=
 sn l _ _ rfl (fun a b e=>by simp only[zn,z7]at e;exact ya e) ⟨c,d⟩ (.inl rfl)
def WL(l:za):Option Int:=if jI l=true/\l.length<=6 then some (hK l)else none
def Vb(l:za):O:=.qS [int ((WL l).getD 0),yW (WL l).isSome]
noncomputable def L4 (f:za->O):zb->Option O:=qD (α:=za) (fun l=>[str l]) (fun l=>l.length<=zX) f
theorem cU(f:za->O)(l:za)(Y:Hp)(Z:Nat)(h:l.length<=zX)(c:(f l).flat=true):zp false [] (L4 f) [str l] Y Z=some (f l,Y,Z):=
 sn l _ _ rfl (fun a b e=>by simp only[zn,z7]at e;exact ya e) h (.inl c)
noncomputable abbrev Cvn:Ctx:=qp prog [(160,zp false [] (FS jI)),(161,zp false [] FAt)]
theorem L5:AM.Good Cvn (fun g=>[160].contains g):=qH mixed ⟨XZ,fun _=>zv _ _,pF,fun _=>zv _ _,trivial⟩
theorem Kt(l:za)(f:l.length<=zX):zM Cvn f130 [str l]=some (Vb l):=by
 refine zw rfl ?_;have b:=fun Y Z=>vD jI l Y Z f
 cases a:jI l
 ·simp[b,a,Vb,WL,ja,f130]
 ·by_cases e:l.length<=6
  ·have c:¬((6:Int)<l.length):=by omega
   have g:=fun Y Z=>uz l Y Z (by omega) a
   simp[b,a,e,c,g,sd,Vb,WL,ja,f130]
  ·have c:(6:Int)<l.length:=by omega
   have d:6<l.length:=by omega
   simp[b,a,e,d,c,Vb,WL,ja,f130]
theorem Zp:zh prog 130 (zp false [] (L4 Vb)):=
 XV L5 func130 false [] fun l Y=>⟨by simp[f130],_,Kt l Y,wy _⟩
@[simp]theorem OD(P:Program)(Y:Hp)(t:TypeId)(id a b:Nat)(k:IntKind)(i:Int)(h:w5 P t=none):qi P Y t (.ref id a b) (.v (.int k i))=(lz P t).bind fun c=>(qF P c.2).bind fun n=>if 0<=i/\i<c.1 then some (.ref id a (b+i.toNat*n))else none:=by
 simp only[qi,h,kW];cases lz P t with
 |none=>rfl
 |some c=>obtain⟨m,e⟩:=c;simp only[zH];cases qF P e<;>rfl
@[simp]theorem OE(P:Program)(Y:Hp)(t:TypeId)(cs:zb)(k:IntKind)(i:Int)(h:w5 P t=none):qi P Y t (.ptr cs) (.v (.int k i))=(lz P t).bind fun a=>(qF P a.2).bind fun n=>if 0<=i/\i<a.1 then some (.ptr (cs.drop (i.toNat*n)))else none:=by
 simp only[qi,h,kW];cases lz P t with
 |none=>rfl
 |some a=>obtain⟨m,e⟩:=a;simp only[zH];cases qF P e<;>rfl
@[simp]theorem wrl1:i6.wrap 1=1:=wN (by decide) (by decide)
@[simp]theorem wrl2:i6.wrap 2=2:=wN (by decide) (by decide)
@[simp]theorem wrl3:i6.wrap 3=3:=wN (by decide) (by decide)
theorem pG(l:za)(h:l.length<=zX):zM C0 f187 [str l]=some (yW (eA l)):=by
 refine zw rfl ?_;unfold zX at h;simp;refine qA (fun k X Y Z=>X 0=str l/\X 6=int l.length/\X 7=int k/\l.all aB=(l.drop k).all aB) l.length ⟨by simp,by simp,by simp,by simp⟩ ?_;rintro k X Y Z m ⟨e,f,g,b⟩;by_cases a:k<l.length
 ·have i:=wP k;rw[ux a]at b;have c:(decide ((97:Int)<=l[k].toNat)&&decide ((l[k].toNat:Int)<=122)||decide ((65:Int)<=l[k].toNat)&&decide ((l[k].toNat:Int)<=90)||decide ((48:Int)<=l[k].toNat)&&decide ((l[k].toNat:Int)<=57)||((l[k].toNat:Int)==45))=aB l[k]:=by
   have j:((l[k].toNat:Int)==45)=(l[k]==45):=by rw[vU];simp[<-wE];omega
   rw[j,vU];simp[aB,pr,<-wE];omega
  cases d:aB l[k]
  ·have b:l.all aB=false:=by rw[b,d];rfl
   rw[d]at c;simp[e,f,g,a,c,eA,b,-List.all_eq_true,-List.all_eq_false,f187]
  ·rw[d]at c;simp[e,f,g,a,c,i,-List.all_eq_true,-List.all_eq_false];exact⟨a,by rw[b,d];rfl⟩
 ·obtain rfl:k=l.length:=by omega
  have b:l.all aB=true:=by rw[b,zE];rfl
  simp[e,f,g,b,eA,-List.all_eq_true,f187]
theorem mw:zh prog 187 (zp false [] (FS eA)):=
 XV kM func187 false [] fun l Y=>⟨by simp[f187],_,pG l Y,wy _⟩
theorem eB:zh prog 186 (zp false [] (F3 ZO)):=
 jo (fn:=f186) kM (wL func186) false [] _ fun args r h=>by obtain⟨a,b,c,rfl,rfl⟩:=BS h;exact⟨by simp[f186],_,zw rfl (by simp[f186,ZO]),wy _⟩
structure jR where
 a:Int
 b:Int
 c:Int
 pre:List (List UInt8)
def qo(l:List za):List zb:=l.map fun p=>[str p]
theorem ki{a b:List za}(h:qo a=qo b):a=b:=Wr (fun x y e=>by simp only[zn,z7]at e;exact ya e) h
@[simp]theorem Iw(l:List za):(qo l).length=l.length:=by simp[qo]
@[simp]theorem Cj:qo []=[]:=rfl
@[simp]theorem uA(l:List za):(qo l).take l.length=qo l:=qv (by simp)
@[simp]theorem Js(p:za)(l:List za):qo (p::l)=[str p]::qo l:=rfl
@[simp]theorem Uc(l:List za):Ks l=⟨9,1,true,qo l⟩:=rfl
@[simp]theorem Ud{l:List za}{k:Nat}(h:k<(qo l).length):(qo l)[k]=[str (l[k]'(by simpa using h))]:=by simp[qo]
theorem Cl{l:List za}{k:Nat}(h:k<l.length):(qo l)[k]?=some [str l[k]]:=by simp[qo,h]
def jR.V(v:jR):zb:=[int v.a,int v.b,int v.c,.sl 1 (qo v.pre)]
theorem Vc{a b:jR}(h:a.V=b.V):a=b:=by
 cases a;cases b;simp only[jR.V,zn,z7]at h;obtain⟨d,e,f,c⟩:=h;injection c with _ c
 rw[ql d,ql e,ql f,ki c]
abbrev ZU:List (Option Nat):=[none,none,none,some 1]
def jR.small(v:jR):Prop:=v.pre.length<=zX/\∀p∈v.pre,p.length<=zX
def vP(p:za):Bool:=decide (20<p.length)||!eA p||(xI p&&!jI p)
def WM(v:jR):Int:=if ZO v.a 0 999999=true/\ZO v.b 0 999999=true/\ZO v.c 0 999999=true then(if 10<v.pre.length then 2 else if v.pre.any vP then 3 else 0)else 1
noncomputable def L6 (f:jR->O):zb->Option O:=qD (α:=jR) (fun v=>[.agg v.V]) jR.small f
theorem mx(f:jR->O)(v:jR)(x:O)(Y Y1:Hp)(Z:Nat)(y:O)(d:zt Y [x]=some ([y],Y1))(i:(Sh.g ZU).fix y=.agg v.V)(h:v.small)(c:(f v).flat=true):qN [.g ZU] (L6 f) [x] Y Z=some (f v,Y,Z):=by
 have e:L6 f (av [.g ZU] (yn [] [y]))=some (f v):=by show L6 f [(Sh.g ZU).fix y]=_;rw[i];exact qj (V:=fun v:jR=>[O.agg v.V]) (a:=v) (fun a b e=>by simp only[zn,z7]at e;injection e with e;exact Vc e) h
 unfold qN zp;simp only[d,e,c,true_or,qa]
noncomputable abbrev Cm:Ctx:=qp prog [(186,zp false [] (F3 ZO)),(187,zp false [] (FS eA)),(188,zp false [] (FS xI)),(160,zp false [] (FS jI))]
theorem F1:AM.Good Cm (fun g=>[186,187,188,160].contains g):=qH mixed ⟨eB,fun _=>zv _ _,mw,fun _=>zv _ _,Zk,fun _=>zv _ _,XZ,fun _=>zv _ _,trivial⟩
@[simp]theorem OG:kz Cm 187:=yZ (by rfl) (zv _ _)
@[simp]theorem OH:kz Cm 188:=yZ (by rfl) (zv _ _)
@[simp]theorem OI:kz Cm 160:=yZ (by rfl) (zv _ _)
theorem Vd(v:jR)(h:v.small):zM Cm f159 [.agg v.V]=some (int (WM v)):=by
 obtain⟨a,b,c,pre⟩:=v;obtain⟨w,o⟩:=h;simp only at w o;unfold zX at w;refine zw rfl ?_;simp[jR.V,zu,zP,zr];rw[zY];cases n:ZO a 0 999999
 ·simp[n,WM,f159]
 simp[n];rw[zY];cases p:ZO b 0 999999
 ·simp[n,p,WM,f159]
 simp[p];rw[zY];cases q:ZO c 0 999999
 ·simp[n,p,q,WM,f159]
 simp[q];rw[zY];simp;by_cases s:10<pre.length
 ·have g:(10:Int)<pre.length:=by omega
  simp[n,p,q,s,g,WM,f159]
 have g:¬(10:Int)<pre.length:=by omega
 simp[s,g];have t:WM ⟨a,b,c,pre⟩=if pre.any vP then 3 else 0:=by simp[WM,n,p,q,s]
 rw[t];refine qA (fun k X Y Z=>X 28=.sl 1 (qo pre)/\X 29=int pre.length/\X 30=int k/\pre.any vP=(pre.drop k).any vP) pre.length ⟨by simp,by simp,by simp,by simp⟩ ?_;rintro k X Y Z B ⟨i,j,l,f⟩;by_cases d:k<pre.length
 ·have C:=wP k;have x:=Cl d;rw[zj d,AK]at f;have m:=o _ (zz d);have y:=fun Y Z=>vD eA pre[k] Y Z m
  have z:=fun Y Z=>vD xI pre[k] Y Z m
  have A:=fun Y Z=>vD jI pre[k] Y Z m
  have u:vP pre[k]=(decide (20<pre[k].length)||!eA pre[k]||(xI pre[k]&&!jI pre[k])):=rfl;have e:(decide ((20:Int)<pre[k].length)||!eA pre[k]||xI pre[k]&&!jI pre[k])=vP pre[k]:=by rw[u];congr 2;rw[vU];simp;omega
  cases r:vP pre[k]
  ·rw[r]at e;simp[i,j,l,d,x,y,z,A,e,C];exact⟨d,by rw[f,r];rfl⟩
  ·rw[r]at e;have f:pre.any vP=true:=by rw[f,r];rfl
   simp[i,j,l,d,x,y,z,A,e,f,-List.any_eq_true,f159]
 ·obtain rfl:k=pre.length:=by omega
  have f:pre.any vP=false:=by rw[f,zE];rfl
  simp[i,j,l,f,-List.any_eq_false,f159]
theorem F2{f:jR->O}{args:zb}{r:O}(h:L6 f args=some r):∃v:jR,args=[.agg v.V]/\v.small/\r=f v:=zQ h
theorem Ku:zh prog 159 (qN [.g ZU] (L6 fun v=>int (WM v))):=
 yC (fn:=f159) F1 (wL func159) _ _ fun args r h=>by obtain⟨v,rfl,a,rfl⟩:=F2 h;exact⟨by simp[f159],_,Vd v a,yc.refl _⟩
theorem cV(sep:za):∀(k:Nat) (s p:za),p∈Lib.splitK sep 0 k s->p.length<=s.length
 | 0,s,p,h=>by simp[Lib.splitK]at h;rw[h];exact zi _
 |k+1,s,p,h=>by
  unfold Lib.splitK at h;split at h
  ·simp at h;rw[h];exact zi _
  ·rcases zJ.1 h with rfl|h
   ·simp;omega
   ·have:=cV sep k _ p h;simp at this;omega
theorem cW(sep:za):∀(k:Nat) (s:za),(Lib.splitK sep 0 k s).length<=k+1
 | 0,s=>by simp[Lib.splitK]
 |k+1,s=>by
  unfold Lib.splitK;split
  ·simp
  ·have:=cW sep k (s.drop ((Lib.index s sep).toNat+sep.length));simp;omega
theorem ZV{s sep p:za}(h:p∈qw s sep):p.length<=s.length:=cV _ _ _ _ h
theorem ZW{s sep:za}(h:sep≠[]):(qw s sep).length<=s.length+1:=by have a:=cW sep (Lib.count s sep) s;have b:=fw (s:=s) h;exact qm a (by omega)
theorem L7(s sep:za):(Lib.cut s sep).1.length<=s.length/\(Lib.cut s sep).2.1.length<=s.length:=by
 unfold Lib.cut;split
 ·simp;omega
 ·simp
noncomputable def hP (f:za->O):zb->Option O:=qD (α:=za) (fun l=>[str l]) (fun l=>l.length+1<=zX) f
theorem Jt(f:za->O)(l:za)(Y:Hp)(Z:Nat)(h:l.length+1<=zX):zp false [] (hP f) [str l] Y Z=some (f l,Y,Z):=
 sn l _ _ rfl (fun a b e=>by simp only[zn,z7]at e;exact ya e) h (.inr (by simp))
def oo:jR:=⟨0,0,0,[]⟩
def fx(t:za):List za:=if(Lib.cut t [45]).2.2 then qw (Lib.cut t [45]).2.1 [46]else[]
def sF(t:za):Option jR:=match qw (Lib.cut t [45]).1 [46]with
 |[d,e,f]=>match WL d,WL e,WL f with
  |some a,some b,some c=>if WM ⟨a,b,c,fx t⟩=0 then some ⟨a,b,c,fx t⟩else none
  |_,_,_=>none
 |_=>none
def sG(t:za):O:=match sF t with
 |some v=>.qS [.agg v.V,int 0]
 |none=>.qS [.agg oo.V,int 10]
noncomputable abbrev Crv:Ctx:=qp prog [(158,zp false [] (Wd gV fun _ _=>True)),(87,jT [] OC),(130,zp false [] (L4 Vb)),(159,qN [.g ZU] (L6 fun v=>int (WM v)))]
theorem L8:Gd Crv:=qT mixed ⟨po,YP,Zp,Ku,trivial⟩
theorem Ju(l:za)(Y:Hp)(Z:Nat)(h:l.length<=zX):zp false [] (L4 Vb) [str l] Y Z=some (.qS [int ((WL l).getD 0),yW (WL l).isSome],Y,Z):=cU Vb l Y Z h rfl
theorem Rw{α:Type}{l:List α}(h:l.length=3):∃a b c,l=[a,b,c]:=by
 match l,h with
 |[a,b,c],_=>exact⟨a,b,c,rfl⟩
theorem Xc(t:za)(M:t.length+1<=zX):∃r0,zM Crv f129 [str t]=some r0/\yc r0 (sG t):=by
 refine kp (sh:=.g ZU) rfl ?_;have I:=L7 t [45];have m:=fun Y Z=>mi t [45] Y Z (by omega) (by decide)
 have r:=fun Y Z=>WJ (Lib.cut t [45]).1 [46] Y Z (by omega) (by decide) (by decide)
 have o:=fun Y Z=>WJ (Lib.cut t [45]).2.1 [46] Y Z (by omega) (by decide) (by decide)
 have h:∀p∈qw (Lib.cut t [45]).1 [46],p.length<=zX:=fun p Y=>by have:=ZV Y;omega
 have A:∀p∈qw (Lib.cut t [45]).2.1 [46],p.length<=zX:=fun p Y=>by have:=ZV Y;omega
 have B:(qw (Lib.cut t [45]).2.1 [46]).length<=zX:=by have:=ZW (s:=(Lib.cut t [45]).2.1) (sep:=[46]) (by simp);omega
 by_cases y:(qw (Lib.cut t [45]).1 [46]).length=3
 ·obtain⟨C,D,E,d⟩:=Rw y;rw[d]at r h;have i:=fun Y Z=>Ju C Y Z (h C (by simp))
  have j:=fun Y Z=>Ju D Y Z (h D (by simp))
  have k:=fun Y Z=>Ju E Y Z (h E (by simp))
  simp[m,r];rw[zY];cases l:WL C with
  |none=>rw[l]at i;simp[i,sG,sF,d,l,zU,qn,qP,oo,jR.V,f129]
  |some a=>
   rw[l]at i;simp[i];rw[zY];cases q:WL D with
   |none=>rw[q]at j;simp[j,sG,sF,d,l,q,zU,qn,qP,oo,jR.V,f129]
   |some b=>
    rw[q]at j;simp[j];rw[zY];cases u:WL E with
    |none=>rw[u]at k;simp[k,sG,sF,d,l,q,u,zU,qn,qP,oo,jR.V,f129]
    |some c=>
     rw[u]at k;simp[k];rw[zY];simp[zU,qn];have F:(⟨a,b,c,[]⟩:jR).small:=⟨by simp,by simp⟩;have G:(⟨a,b,c,qw (Lib.cut t [45]).2.1 [46]⟩:jR).small:=⟨B,A⟩;cases z:(Lib.cut t [45]).2.2
     ·have f:=fun Y Z=>mx (fun v=>int (WM v)) ⟨a,b,c,[]⟩ (.agg [int a,int b,int c,.nil]) Y Y Z _ rfl rfl F rfl
      by_cases w:WM ⟨a,b,c,[]⟩=0
      ·simp[f,w,sG,sF,fx,d,l,q,u,z,qP,jR.V,f129]
      ·have x:=lx w;simp[f,w,x,sG,sF,fx,d,l,q,u,z,zU,qn,qP,oo,jR.V,f129]
     ·have f:∀(Y:Hp) (Z id n:Nat),Y id=some ⟨9,1,true,qo (qw (Lib.cut t [45]).2.1 [46])⟩->n=(qw (Lib.cut t [45]).2.1 [46]).length->qN [.g ZU] (L6 fun v=>int (WM v)) [.agg [int a,int b,int c,.own id 0 n]] Y Z=some (int (WM ⟨a,b,c,qw (Lib.cut t [45]).2.1 [46]⟩),Y,Z):=by intro Y Z id n J K;subst K;exact mx (fun v=>int (WM v)) ⟨a,b,c,qw (Lib.cut t [45]).2.1 [46]⟩ _ Y (qb Y id none) Z (.agg [int a,int b,int c,.sl 1 (qo (qw (Lib.cut t [45]).2.1 [46]))]) (by simp[J]) rfl G rfl
      by_cases w:WM ⟨a,b,c,qw (Lib.cut t [45]).2.1 [46]⟩=0
      ·simp[o,f,w,sG,sF,fx,d,l,q,u,z,qP,jR.V,f129]
      ·have x:=lx w;simp[o,f,w,x,sG,sF,fx,d,l,q,u,z,zU,qn,qP,oo,jR.V,f129]
 ·have H:(((qw (Lib.cut t [45]).1 [46]).length:Int) != 3)=true:=by simp;omega
  have L:sF t=none:=by
   unfold sF;split
   ·rename_i e;rw[e]at y;simp at y
   ·rfl
  simp[m,r,H,y,sG,L,zU,qn,qP,oo,jR.V,f129]
theorem Ve:zh prog 129 (zp false [] (hP sG)):=
 cx (fn:=f129) L8 (wL func129) false [] _ fun args r h w S vs a=>by obtain⟨l,rfl,Y,rfl⟩:=zQ h;obtain⟨r0,b,c⟩:=Xc l Y;exact⟨_,r0,a,by simp[f129],b,c⟩
structure Part where
 n0:Int
 n1:Int
 n2:Int
 has:Int
 pre:List (List UInt8)
def Part.V(p:Part):zb:=[int p.n0,int p.n1,int p.n2,int p.has,.sl 1 (qo p.pre)]
abbrev YQ:List (Option Nat):=[none,none,none,none,some 1]
def vi:Part:=⟨0,0,0,0,[]⟩
def Part.put(p:Part)(i:Nat)(n:Int):Part:=match i with
 | 0=>{p with n0:=n,has:=p.has+1}
 | 1=>{p with n1:=n,has:=p.has+1}
 |_=>{p with n2:=n,has:=p.has+1}
def yS(p:Part)(i:Nat)(t:za):Option Part:=if(WL t).isSome=true/\p.has=i then some (p.put i ((WL t).getD 0))else if vR t=true/\i≠0 then some p else none
def kR:Part->Nat->List za->Option Part
 |p,_,[]=>some p
 |p,i,t::l=>match yS p i t with
  |some q=>kR q (i+1) l
  |none=>none
def zK(t:za):Part×Bool:=if Lib.contains t [45]=true then(match sF t with
    |some v=>(⟨v.a,v.b,v.c,3,v.pre⟩,true)
    |none=>(⟨0,0,0,3,[]⟩,false))
 else if 3<(qw t [46]).length then(vi,false)else match kR vi 0 (qw t [46])with
  |some p=>(p,true)
  |none=>(vi,false)
def yN(t:za):O:=.qS [.agg (zK t).1.V,yW (zK t).2]
noncomputable abbrev Rx:Ctx:=qp prog [(128,zp false [] (Wd FR fun _ _=>True)),(129,zp false [] (hP sG)),(87,jT [] OC),(130,zp false [] (L4 Vb)),(91,zp false [] (FS vR))]
theorem L9:AM.Good Rx (fun g=>[91].contains g):=qH mixed ⟨cA,by simp,Ve,by simp,YP,by simp,Zp,by simp,cT,fun _=>zv _ _,trivial⟩
theorem Cn(a b:za)(Y:Hp)(Z:Nat)(h:a.length<=zX)(c:b.length<=zX):zp false [] (Wd FR fun _ _=>True) [str a,str b] Y Z=some (yW (Lib.contains a b),Y,Z):=xe _ _ a b Y Z h c trivial rfl
def Part.raw(p:Part):zb:=[int p.n0,int p.n1,int p.n2,int p.has,.nil]
theorem eC{p:Part}{k:Nat}{l:List za}(h:k<l.length):kR p k (l.drop k)=match yS p k l[k]with
  |some q=>kR q (k+1) (l.drop (k+1))
  |none=>none:=by
 rw[zj h];rfl
theorem Xd(t:za)(T:t.length+1<=zX):∃r0,zM Rx f89 [str t]=some r0/\yc r0 (yN t):=by
 refine kp (sh:=.g YQ) rfl ?_;have B:=fun Y Z=>Cn t [45] Y Z (by omega) (by decide)
 cases I:Lib.contains t [45]
 ·have J:=fun Y Z=>WJ t [46] Y Z (by omega) (by decide) (by decide)
  have E:∀p∈qw t [46],p.length<=zX:=fun p Y=>by have:=ZV Y;omega
  by_cases M:3<(qw t [46]).length
  ·have F:(3:Int)<(qw t [46]).length:=by omega
   simp[B,I,J,M,F,yN,zK,zU,qn,qP,vi,Part.V,f89]
  have F:¬(3:Int)<(qw t [46]).length:=by omega
  simp[B,I,J,M,F];obtain⟨l,N⟩:=yX (qw t [46]);rw[N]at E M;have e:zK t=match kR vi 0 l with
   |some p=>(p,true)
   |none=>(vi,false):=by
   unfold zK;rw[zg (by rw[I];simp),N,zg M]
   try rfl
  simp only[N];refine qA (fun k X Y Z=>∃p:Part,p.pre=[]/\X 2=.ref 0 0 0/\X 7=.ref 2 0 0/\X 37=.own 1 0 l.length/\X 38=int l.length/\X 39=int k/\p.has<=k/\0<=p.has /\
    Y 0=some ⟨104,5,false,[vi.raw]⟩/\Y 1=some ⟨9,1,true,qo l⟩/\Y 2=some ⟨104,5,false,[p.raw]⟩/\kR vi 0 l=kR p k (l.drop k)) l.length
   ⟨vi,rfl,by simp,by simp,by simp,by simp,by simp,by simp[vi],by simp[vi],by simp[vi,Part.raw],by simp,by simp[vi,Part.raw],by simp⟩ ?_
  rintro k X Y Z U ⟨p,G,w,x,f,h,i,P,H,y,z,A,j⟩;by_cases b:k<l.length
  ·have C:=fun Y Z=>Ju l[k] Y Z (E _ (zz b))
   have D:=fun Y Z=>vD vR l[k] Y Z (E _ (zz b))
   have K:=wP k;have Q:=wY (p.has+1);rw[eC b]at j;have R:k=0\/k=1\/k=2:=by omega
   obtain⟨r,n1,s,a,pre⟩:=p;simp only at G P H Q;subst G;cases q:(WL l[k]).isSome
   ·cases c:vR l[k]
    ·have hs:yS ⟨r,n1,s,a,[]⟩ k l[k]=none:=by simp[yS,q,c]
     rw[hs]at j;rw[j]at e;simp[w,x,f,h,i,y,z,A,b,C,D,q,c,yN,e,zU,qn,qP,vi,Part.raw,Part.V,f89]
    ·by_cases m:k=0
     ·subst m;have hs:yS ⟨r,n1,s,a,[]⟩ 0 l[0]=none:=by simp[yS,q]
      rw[hs]at j;rw[j]at e;simp[w,x,f,h,i,y,z,A,b,C,D,q,c,yN,e,zU,qn,qP,vi,Part.raw,Part.V,f89]
     ·have hs:yS ⟨r,n1,s,a,[]⟩ k l[k]=some ⟨r,n1,s,a,[]⟩:=by simp[yS,q,c,m]
      have u:((k:Int)==0)=false:=by simpa using m
      rw[hs]at j;simp[w,x,f,h,i,y,z,A,b,C,D,q,c,K,u,m];exact⟨b,⟨r,n1,s,a,[]⟩,rfl,Int.le_trans P (by omega),H,rfl,j⟩
   ·by_cases d:a=k
    ·have hs:yS ⟨r,n1,s,a,[]⟩ k l[k]=some ((⟨r,n1,s,a,[]⟩:Part).put k ((WL l[k]).getD 0)):=by simp[yS,q,d]
     rw[hs]at j;rcases R with rfl|rfl|rfl
     ·obtain rfl:a=0:=by simpa using d
      have n:(0:Int)<(l.length:Int):=by omega
      simp[w,x,f,h,i,y,z,A,b,n,C,D,q,K,Part.raw];refine⟨b,_,?_,?_,?_,?_,(by simpa using j)⟩<;>simp[Part.put]
     ·obtain rfl:a=1:=by simpa using d
      have n:(1:Int)<(l.length:Int):=by omega
      simp[w,x,f,h,i,y,z,A,b,n,C,D,q,K,Part.raw];refine⟨b,_,?_,?_,?_,?_,(by simpa using j)⟩<;>simp[Part.put]
     ·obtain rfl:a=2:=by simpa using d
      have n:(2:Int)<(l.length:Int):=by omega
      simp[w,x,f,h,i,y,z,A,b,n,C,D,q,K,Part.raw];refine⟨b,_,?_,?_,?_,?_,(by simpa using j)⟩<;>simp[Part.put]
    ·cases c:vR l[k]
     ·have hs:yS ⟨r,n1,s,a,[]⟩ k l[k]=none:=by simp[yS,q,c,d]
      have o:(a==(k:Int))=false:=by simpa using d
      rw[hs]at j;rw[j]at e;simp[w,x,f,h,i,y,z,A,b,C,D,q,c,o,yN,e,zU,qn,qP,vi,Part.raw,Part.V,f89]
     ·by_cases m:k=0
      ·subst m;have hs:yS ⟨r,n1,s,a,[]⟩ 0 l[0]=none:=by simp[yS,d];intro _;exact d
       have o:(a==0)=false:=by simpa using d
       rw[hs]at j;rw[j]at e;simp[w,x,f,h,i,y,z,A,b,C,D,q,c,o,yN,e,zU,qn,qP,vi,Part.raw,Part.V,f89]
      ·have hs:yS ⟨r,n1,s,a,[]⟩ k l[k]=some ⟨r,n1,s,a,[]⟩:=by simp[yS,q,c,m,d]
       have u:((k:Int)==0)=false:=by simpa using m
       have o:(a==(k:Int))=false:=by simpa using d
       rw[hs]at j;simp[w,x,f,h,i,y,z,A,b,C,D,q,c,K,u,m,o,Part.raw];exact⟨b,⟨r,n1,s,a,[]⟩,rfl,Int.le_trans P (by omega),H,⟨rfl,rfl,rfl,rfl⟩,j⟩
  ·obtain rfl:k=l.length:=by omega
   rw[zE]at j;simp only[kR]at j;rw[j]at e;simp[w,x,f,h,i,y,z,A,yN,e,G,qP,Part.raw,Part.V,f89]
 ·have L:=fun Y Z=>Jt sG t Y Z T
  cases S:sF t with
  |none=>simp[B,I,L,sG,S,yN,zK,zU,qn,qP,oo,jR.V,Part.V,f89]
  |some v=>simp[B,I,L,sG,S,yN,zK,zU,qn,qP,jR.V,Part.V,f89]
theorem Vf:zh prog 89 (zp false [] (hP yN)):=
 cx (fn:=f89) L9 (wL func89) false [] _ fun args r h w S vs a=>by obtain⟨l,rfl,Y,rfl⟩:=zQ h;obtain⟨r0,b,c⟩:=Xd l Y;exact⟨_,r0,a,by simp[f89],b,c⟩
def wU(a b:Int):Int:=if a<b then -1 else if b<a then 1 else 0
def Co(a b:za):Int:=if Op.bytesLess a b then -1 else if Op.bytesLess a b||a==b then 0 else 1
def Ix(f:Int->Int->Int):zb->Option O
 |[.v (.int .i64 a),.v (.int .i64 b)]=>some (int (f a b))
 |_=>none
theorem F4{f:Int->Int->Int}{args:zb}{r:O}(h:Ix f args=some r):∃a b,args=[int a,int b]/\r=int (f a b):=by
 unfold Ix at h;split at h
 ·injection h with h;exact⟨_,_,rfl,h.symm⟩
 ·cases h
@[simp]theorem Ry(f:Int->Int->Int)(a b:Int)(Y:Hp)(Z:Nat):zp false [] (Ix f) [.v (.int .i64 a),.v (.int .i64 b)] Y Z=some (int (f a b),Y,Z):=yg rfl rfl (.inl rfl)
def hU:zb->Option O
 |[.v (.int .i64 _)]=>some (yW false)
 |_=>none
def hZ:zb->Option O
 |[.v (.string _)]=>some (yW false)
 |_=>none
@[simp]theorem Iy(a:Int)(Y:Hp)(Z:Nat):zp false [] hU [.v (.int .i64 a)] Y Z=some (yW false,Y,Z):=yg rfl rfl (.inl rfl)
@[simp]theorem Iz(a:ByteArray)(Y:Hp)(Z:Nat):zp false [] hZ [.v (.string a)] Y Z=some (yW false,Y,Z):=yg rfl rfl (.inl rfl)
theorem ia:zh prog 44 (zp false [] hU):=
 jo (fn:=f44) kM (wL func44) false [] _ fun args r h=>by
  unfold hU at h;split at h
  ·injection h with h;subst h;exact⟨by simp[f44],_,zw rfl (by simp[f44]),wy _⟩
  ·cases h
theorem ib:zh prog 45 (zp false [] hZ):=
 jo (fn:=f45) kM (wL func45) false [] _ fun args r h=>by
  unfold hZ at h;split at h
  ·injection h with h;subst h;exact⟨by simp[f45],_,zw rfl (by simp[f45]),wy _⟩
  ·cases h
noncomputable abbrev Cnn:Ctx:=qp prog [(44,zp false [] hU),(45,zp false [] hZ)]
theorem Cp:AM.Good Cnn (fun g=>[44,45].contains g):=qH mixed ⟨ia,fun _=>zv _ _,ib,fun _=>zv _ _,trivial⟩
theorem WN:zh prog 27 (zp false [] (Ix wU)):=
 jo (fn:=f27) Cp (wL func27) false [] _ fun args r h=>by
  obtain⟨a,b,rfl,rfl⟩:=F4 h;refine⟨by simp[f27],_,zw rfl ?_,wy _⟩;unfold wU;by_cases c:a<b
  ·simp[c,f27]
  ·by_cases d:b<a
   ·simp[c,d,f27]
   ·simp[c,d,f27]
noncomputable def E5 (f:za->za->Int):zb->Option O:=qD (α:=za×za) (fun a=>[str a.1,str a.2]) (fun _=>True) (fun a=>int (f a.1 a.2))
@[simp]theorem Rz(f:za->za->Int)(a b:za)(Y:Hp)(Z:Nat):zp false [] (E5 f) [str a,str b] Y Z=some (int (f a b),Y,Z):=
 sn (a,b) _ _ rfl (fun a b e=>by obtain⟨c,d⟩:=a;obtain⟨g,h⟩:=b;simp only[zn,z7]at e;rw[ya e.1,ya e.2]) trivial (.inl rfl)
theorem pH:zh prog 28 (zp false [] (E5 Co)):=
 XV Cp func28 false [] fun⟨a,b⟩ _=>by
  refine⟨by simp[f28],_,zw rfl ?_,wy _⟩;simp only[Co];cases c:Op.bytesLess a b
  ·cases d:(a==b)
   ·simp[c,d,f28]
   ·simp[c,d,f28]
  ·simp[c,f28]
theorem YR:∀a:za,Op.bytesLess a a=false
 |[]=>rfl
 |c::a=>by simp[Op.bytesLess,YR a]
@[simp]theorem OJ(a:za):Co a a=0:=by simp[Co,YR]
@[simp]theorem OK(a:Int):wU a a=0:=by simp[wU]
noncomputable def RA (out:Val->O) (n:Nat):zb->Option O:=qD (α:=Val) (fun v=>[.agg v.V,.agg v.V]) (fun v=>v.vb<=zX/\v.vb<=n) out
theorem cX(out:Val->O)(n:Nat)(v:Val)(Y:Hp)(Z:Nat)(h:v.vb<=zX/\v.vb<=n):zp false [] (RA out n) [.agg v.V,.agg v.V] Y Z=some (out v,Y,Z):=
 yg (Y1:=Y) (show zt Y [.agg v.V,.agg v.V]=some ([.agg v.V,.agg v.V],Y) by simp only[zt,xG])
  (qj (V:=fun v:Val=>[O.agg v.V,O.agg v.V]) (a:=v) (fun a b e=>by simp only[zn,z7,O.agg.injEq]at e;exact vE e.1) h) (.inr (by simp only[wC,ZF,VV,Jd]))
noncomputable abbrev Ccs (n:Nat):Ctx:=qp prog [(14,zp false [] (RA (fun _=>int 0) n)),(27,zp false [] (Ix wU)),(28,zp false [] (E5 Co))]
theorem ic(n:Nat)(v:Val)(h:v.vb<=zX/\v.vb<=n+1):zM (Ccs n) f14 [.agg v.V,.agg v.V]=some (int 0):=by
 have r:=xa v;have s:=y7 v.items;have t:=vO v.fields;obtain⟨u,D⟩:=h;unfold zX at u;refine zw rfl ?_;by_cases l:v.kind=1
 ·simp[l,f14]
 by_cases m:v.kind=2
 ·simp[m,f14]
 by_cases o:v.kind=3
 ·simp[o,f14]
 by_cases p:v.kind=4
 ·simp[p];refine qA (fun k X Y Z=>X 2=.ref 0 0 0/\X 3=.ref 1 0 0/\X 43=int v.items.length/\X 44=int k/\Y 0=some ⟨48,5,false,[v.V]⟩/\Y 1=some ⟨48,5,false,[v.V]⟩) v.items.length
   ⟨by simp,by simp,by simp,by simp,by simp,by simp⟩ ?_
  rintro k X Y Z w ⟨e,f,c,d,g,i⟩;by_cases a:k<v.items.length
  ·have x:=kA (zz a);have j:=wP k;have b:=fun Y Z=>cX (fun _=>int 0) n v.items[k] Y Z ⟨by unfold zX;omega,by omega⟩
   simp[e,f,c,d,g,i,a,b,j];exact a
  ·obtain rfl:k=v.items.length:=by omega
   simp[e,f,c,d,g,i,f14]
 by_cases q:v.kind=5
 ·simp[q];refine qA (fun k X Y Z=>X 2=.ref 0 0 0/\X 3=.ref 1 0 0/\X 77=int v.fields.length/\X 78=int k/\Y 0=some ⟨48,5,false,[v.V]⟩/\Y 1=some ⟨48,5,false,[v.V]⟩) v.fields.length
   ⟨by simp,by simp,by simp,by simp,by simp,by simp⟩ ?_
  rintro k X Y Z w ⟨e,f,c,d,g,i⟩;by_cases a:k<v.fields.length
  ·have x:=Qi (zz a);have j:=wP k;have b:=fun Y Z=>cX (fun _=>int 0) n v.fields[k].2 Y Z ⟨by unfold zX;omega,by omega⟩
   simp[e,f,c,d,g,i,a,b,j];exact a
  ·obtain rfl:k=v.fields.length:=by omega
   simp[e,f,c,d,g,i,f14]
 have y:=vL l;have z:=vL m;have A:=vL o;have B:=vL p;have C:=vL q;simp[y,z,A,B,C,f14]
theorem sH{out:Val->O}{n:Nat}{args:zb}{r:O}(h:RA out n args=some r):∃v:Val,args=[.agg v.V,.agg v.V]/\(v.vb<=zX/\v.vb<=n)/\r=out v:=zQ h
theorem eD:∀n,zh prog 14 (zp false [] (RA (fun _=>int 0) n)):=by
 intro n
 induction n with
 |zero=>
  refine⟨⟨_,func14,by kernel_rfl,by kernel_rfl⟩,fun args Y Z r Y' Z' h=>?_⟩;unfold zp at h;split at h
  ·split at h
   ·rename_i r0 b;obtain⟨v,_,a,_⟩:=sH b;have:=WA v;omega
   ·cases h
  ·cases h
 |succ n c=>
  have d:AM.Good (Ccs n) (fun g=>[14,27,28].contains g):=qH mixed ⟨c,fun _=>zv _ _,WN,fun _=>zv _ _,pH,fun _=>zv _ _,trivial⟩;exact jo (fn:=f14) d (wL func14) false [] _ fun args r h=>by obtain⟨v,rfl,a,rfl⟩:=sH h;exact⟨qm (zi 2) (by decide),_,ic n v a,wy _⟩
noncomputable abbrev jb:=Lib.compareBytes
theorem aD:zh prog 83 (zp false [] (E5 jb)):=
 gL ⟨_,func83,by kernel_rfl,by kernel_rfl⟩ fun args r h=>by obtain⟨⟨a,b⟩,rfl,_,rfl⟩:=zQ h;exact⟨[.string ⟨a.toArray⟩,.string ⟨b.toArray⟩],rfl,by simp[lit],_,rfl,rfl,fun w=>by simpa using Tryz.bytealg_CompareString ⟨a.toArray⟩ ⟨b.toArray⟩ w⟩
noncomputable abbrev Cstr:Ctx:=qp prog [(83,zp false [] (E5 jb))]
theorem kZ:zh prog 60 (zp false [] (E5 jb)):=
 XV (qT mixed ⟨aD,trivial⟩:AM.Good Cstr _) func60 false [] fun⟨a,b⟩ _=>⟨by simp[f60],_,zw rfl (by simp[f60]),wy _⟩
def cY:List Int->Int
 |[]=>0
 |n::l=>if n=0 then cY l else n
def Kv(l:List Int):List zb:=l.map fun n=>[int n]
@[simp]theorem IA(l:List Int):(Kv l).length=l.length:=by simp[Kv]
@[simp]theorem Ue{l:List Int}{k:Nat}(h:k<(Kv l).length):(Kv l)[k]=[int (l[k]'(by simpa using h))]:=by simp[Kv]
theorem Cq{a b:List Int}(h:Kv a=Kv b):a=b:=Wr (fun x y e=>by simp only[zn,z7]at e;exact ql e) h
noncomputable def IB:zb->Option O:=qD (α:=List Int) (fun l=>[.sl 1 (Kv l)]) (fun l=>l.length<=zX) (fun l=>int (cY l))
theorem F5(l:List Int)(i:l.length<=zX):zM C0 f84 [.sl 1 (Kv l)]=some (int (cY l)):=by
 refine zw rfl ?_;unfold zX at i;simp;refine qA (fun k X Y Z=>X 3=int 0/\X 6=.sl 1 (Kv l)/\X 7=int l.length/\X 8=int k/\cY l=cY (l.drop k)) l.length ⟨by simp,by simp,by simp,by simp,by simp⟩ ?_;rintro k X Y Z m ⟨d,e,f,g,b⟩;by_cases a:k<l.length
 ·have j:=wP k;rw[zj a]at b;simp only[cY]at b;by_cases c:l[k]=0
  ·rw[zl c]at b;simp[d,e,f,g,a,c,j];exact⟨a,b⟩
  ·rw[zg c]at b;have h:=lx c;simp[d,e,f,g,a,h,b,f84]
 ·obtain rfl:k=l.length:=by omega
  rw[zE]at b;simp[d,e,f,g,b,cY,f84]
theorem cZ:zh prog 84 (zp false [] IB):=
 XV kM func84 false [] fun l Y=>⟨by simp[f84],_,F5 l Y,wy _⟩
theorem ie(l:List Int)(Y:Hp)(Z id:Nat)(e:Nat)(h:l.length<=zX)(c:Y id=some ⟨e,1,true,Kv l⟩):zp false [] IB [.own id 0 l.length] Y Z=some (int (cY l),Y,Z):=by have d:(Kv l).take l.length=Kv l:=qv (by simp);refine yg (show zt Y [.own id 0 l.length]=some ([.sl 1 (Kv l)],qb Y id none) by simp[c,d]) ?_ (.inl rfl);exact qj (V:=fun l:List Int=>[O.sl 1 (Kv l)]) (a:=l) (fun a b e=>by simp only[zn,z7]at e;injection e with _ e;exact Cq e) h
def J8(l:za):Bool:=!l.isEmpty&&xI l
noncomputable def yv (a b:za):Int:=if J8 a=true then(if J8 b=true then cY [wU (Lib.trimLeftB a 48).length (Lib.trimLeftB b 48).length,jb (Lib.trimLeftB a 48) (Lib.trimLeftB b 48)]else -1)else if J8 b=true then 1 else jb a b
noncomputable abbrev Ccp:Ctx:=qp prog [(188,zp false [] (FS xI)),(194,zp false [] (Wd tlP fun _ b=>pq b)),(27,zp false [] (Ix wU)),(60,zp false [] (E5 jb)),(84,zp false [] IB)]
theorem Ma:AM.Good Ccp (fun g=>[188].contains g):=qH mixed ⟨Zk,fun _=>zv _ _,cB,by simp,WN,by simp,kZ,by simp,cZ,by simp,trivial⟩
@[simp]theorem Uf:kz Ccp 188:=yZ (by rfl) (zv _ _)
theorem sI(a:za)(Y:Hp)(Z:Nat)(h:a.length<=zX):zp false [] (Wd tlP fun _ b=>pq b) [str a,str [48]] Y Z=some (str (Lib.trimLeftB a 48),Y,Z):=xe _ _ a [48] Y Z h (by decide) ⟨48,rfl,by decide⟩ rfl
theorem aE(a b:za)(i:a.length<=zX)(j:b.length<=zX):zM Ccp f172 [str a,str b]=some (int (yv a b)):=by
 refine zw rfl ?_;have c:=fun Y Z=>vD xI a Y Z i
 have d:=fun Y Z=>vD xI b Y Z j
 have k:=fun Y Z=>sI a Y Z i
 have tb:=fun Y Z=>sI b Y Z j
 have e:(!a.isEmpty&&xI a)=J8 a:=rfl;have f:(!b.isEmpty&&xI b)=J8 b:=rfl;cases g:J8 a<;>cases h:J8 b
 ·simp[c,d,e,f,g,h,yv,f172]
 ·simp[c,d,e,f,g,h,yv,f172]
 ·simp[c,d,e,f,g,h,yv,f172]
 ·have l:∀(Y:Hp) (Z id:Nat),Y id=some ⟨3,1,true,[[int (wU (Lib.trimLeftB a 48).length (Lib.trimLeftB b 48).length)],[int (jb (Lib.trimLeftB a 48) (Lib.trimLeftB b 48))]]⟩->zp false [] IB [.own id 0 2] Y Z=some (int (cY [wU (Lib.trimLeftB a 48).length (Lib.trimLeftB b 48).length,jb (Lib.trimLeftB a 48) (Lib.trimLeftB b 48)]),Y,Z):=fun Y Z id m=>ie [_,_] Y Z id _ (by show 2<=zX;decide) m
  simp[c,d,k,tb,e,f,g,h,l,zu,zP,zr,yv,f172]
theorem Xe:zh prog 172 (zp false [] (Wd (fun a b=>int (yv a b)) fun _ _=>True)):=
 jo (fn:=f172) Ma (wL func172) false [] _ fun args r h=>by obtain⟨a,b,rfl,c,d,_,rfl⟩:=kY h;exact⟨by simp[f172],_,aE a b c d,wy _⟩
theorem uB(a b:za)(Y:Hp)(Z:Nat)(h:a.length<=zX)(c:b.length<=zX):zp false [] (Wd (fun a b=>int (yv a b)) fun _ _=>True) [str a,str b] Y Z=some (int (yv a b),Y,Z):=xe _ _ a b Y Z h c trivial rfl
def yj{α:Type}(c:α->α->Int):List α->List α->Int
 |[],[]=>0
 |[],_::_=>-1
 |_::_,[]=>1
 |x::a,y::b=>if c x y=0 then yj c a b else c x y
noncomputable abbrev Ccf:Ctx:=qp prog [(172,zp false [] (Wd (fun a b=>int (yv a b)) fun _ _=>True))]
theorem Mb:Gd Ccf:=qT mixed ⟨Xe,trivial⟩
def vm(l:List za):Prop:=l.length<=zX/\∀p∈l,p.length<=zX
theorem Vg(a b:List za)(o:vm a)(p:vm b):zM Ccf f171 [.sl 1 (qo a),.sl 1 (qo b),.fn (.func 172) [] []]=some (int (yj yv a b)):=by
 refine zw rfl ?_;obtain⟨o,q⟩:=o;obtain⟨p,r⟩:=p;unfold zX at o p;simp;refine qA (fun k X Y Z=>X 0=.sl 1 (qo a)/\X 1=.sl 1 (qo b)/\X 2=.fn (.func 172) [] []/\X 11=.sl 1 (qo a)/\X 12=int a.length/\X 13=int k/\k<=b.length/\yj yv a b=yj yv (a.drop k) (b.drop k)) a.length
  ⟨by simp,by simp,by simp,by simp,by simp,by simp,by simp,by simp⟩ ?_
 rintro k X Y Z y ⟨j,l,m,f,g,h,v,c⟩;by_cases d:k<a.length
 ·have w:=wP k;by_cases e:k<b.length
  ·have i:¬b.length<=k:=by omega
   have u:=fun Y Z=>uB a[k] b[k] Y Z (q _ (zz d)) (r _ (zz e))
   rw[zj d,zj e]at c;simp only[yj]at c;by_cases n:yv a[k] b[k]=0
   ·rw[zl n]at c;simp[j,l,m,f,g,h,d,e,i,u,n,w];exact⟨d,by omega,c⟩
   ·rw[zg n]at c;have s:=lx n;simp[j,l,m,f,g,h,d,e,i,u,s,c,f171]
  ·obtain rfl:k=b.length:=by omega
   rw[zj d,zE]at c;simp only[yj]at c;simp[j,l,m,f,g,h,d,c,f171]
 ·obtain rfl:k=a.length:=by omega
  rw[zE]at c;by_cases t:a.length<b.length
  ·rw[zj t]at c;simp only[yj]at c;simp[j,l,m,f,g,h,t,c,f171]
  ·rw[VW (by omega)]at c;simp only[yj]at c;have x:¬((a.length:Int)<b.length):=by omega
   simp[j,l,m,f,g,h,t,c,f171]
noncomputable def FCf:zb->Option O:=qD (α:=List za×List za) (fun a=>[.sl 1 (qo a.1),.sl 1 (qo a.2),.fn (.func 172) [] []]) (fun a=>vm a.1/\vm a.2) (fun a=>int (yj yv a.1 a.2))
theorem Mc:∀a b:List za×List za,[O.sl 1 (qo a.1),.sl 1 (qo a.2),.fn (.func 172) [] []]=[.sl 1 (qo b.1),.sl 1 (qo b.2),.fn (.func 172) [] []]->a=b:=by rintro⟨f,g⟩ ⟨h,i⟩ e;simp only[zn,z7]at e;obtain⟨c,d⟩:=e;injection c with _ c;injection d with _ d;rw[ki c,ki d]
theorem Kw:zh prog 171 (zp false [] FCf):=
 XV Mb func171 false [] fun⟨a,b⟩ ⟨c,d⟩=>⟨by simp[f171],_,Vg a b c d,wy _⟩
theorem F6(a b:List za)(Y:Hp)(Z:Nat)(c:vm a)(d:vm b):zp false [] FCf [.sl 1 (qo a),.sl 1 (qo b),.fn (.func 172) [] []] Y Z=some (int (yj yv a b),Y,Z):=
 yg (Y1:=Y) (by simp) (qj (V:=fun a:List za×List za=>[O.sl 1 (qo a.1),.sl 1 (qo a.2),.fn (.func 172) [] []]) (a:=(a,b)) Mc ⟨c,d⟩) (.inl rfl)
noncomputable def JL (v w:jR):Int:=if cY [wU v.a w.a,wU v.b w.b,wU v.c w.c]=0 then(if v.pre.length=0 then(if w.pre.length=0 then 0 else 1)else if w.pre.length=0 then -1 else yj yv v.pre w.pre)else cY [wU v.a w.a,wU v.b w.b,wU v.c w.c]
noncomputable abbrev Ccv:Ctx:=qp prog [(27,zp false [] (Ix wU)),(84,zp false [] IB),(171,zp false [] FCf)]
theorem Md:AM.Good Ccv (fun g=>[27,84].contains g):=qH mixed ⟨WN,fun _=>zv _ _,cZ,fun _=>zv _ _,Kw,by simp,trivial⟩
theorem YS(v w:jR)(t:v.small)(u:w.small):zM Ccv f134 [.agg v.V,.agg w.V]=some (int (JL v w)):=by
 obtain⟨a,b,c,p⟩:=v;obtain⟨k,l,m,e⟩:=w;refine zw rfl ?_;have n:=fun Y Z=>F6 p e Y Z t u
 obtain⟨o,s⟩:=yX (cY [wU a k,wU b l,wU c m]);have d:∀(Y:Hp) (Z id:Nat),Y id=some ⟨3,1,true,[[int (wU a k)],[int (wU b l)],[int (wU c m)]]⟩->zp false [] IB [.own id 0 3] Y Z=some (int o,Y,Z):=fun Y Z id x=>s ▸ ie [_,_,_] Y Z id _ (by show 3<=zX;decide) x
 have j:JL ⟨a,b,c,p⟩ ⟨k,l,m,e⟩=if o=0 then(if p.length=0 then(if e.length=0 then 0 else 1)else if e.length=0 then -1 else yj yv p e)else o:=by rw[<-s];rfl
 rw[j];by_cases q:o=0
 ·subst q;by_cases h:p.length=0<;>by_cases i:e.length=0
  ·simp[jR.V,d,zu,zP,zr,h,i,f134]
  ·have f:((e.length:Int)==0)=false:=by simpa using i
   simp[jR.V,d,zu,zP,zr,h,i,f,f134]
  ·have g:((p.length:Int)==0)=false:=by simpa using h
   simp[jR.V,d,zu,zP,zr,h,i,g,f134]
  ·have g:((p.length:Int)==0)=false:=by simpa using h
   have f:((e.length:Int)==0)=false:=by simpa using i
   simp[jR.V,d,zu,zP,zr,h,i,g,f,n,f134]
 ·have r:=lx q;simp[jR.V,d,zu,zP,zr,q,r,f134]
noncomputable def Me (f:jR->jR->O):zb->Option O:=qD (α:=jR×jR) (fun a=>[.agg a.1.V,.agg a.2.V]) (fun a=>a.1.small/\a.2.small) (fun a=>f a.1 a.2)
theorem Mf:∀a b:jR×jR,[O.agg a.1.V,.agg a.2.V]=[.agg b.1.V,.agg b.2.V]->a=b:=by rintro⟨f,g⟩ ⟨h,i⟩ e;simp only[zn,z7]at e;obtain⟨c,d⟩:=e;injection c with c;injection d with d;rw[Vc c,Vc d]
theorem Yj:zh prog 134 (qN [.g ZU,.g ZU] (Me fun v w=>int (JL v w))):=
 yC (fn:=f134) Md (wL func134) _ _ fun args r h=>by obtain⟨⟨v,w⟩,rfl,⟨a,b⟩,rfl⟩:=zQ h;exact⟨by simp[f134],_,YS v w a b,yc.refl _⟩
theorem F7(v w:jR)(Y:Hp)(Z:Nat)(b:v.small)(c:w.small):qN [.g ZU,.g ZU] (Me fun v w=>int (JL v w)) [.agg v.V,.agg w.V] Y Z=some (int (JL v w),Y,Z):=
 kN (show zt Y [.agg v.V,.agg w.V]=some ([.agg v.V,.agg w.V],Y) by simp[jR.V]) (qj (V:=fun a:jR×jR=>[O.agg a.1.V,.agg a.2.V]) (a:=(v,w)) Mf ⟨b,c⟩) (.inl rfl)
structure Cut where
 v:jR
 after:Bool
def Cut.V(c:Cut):zb:=[int c.v.a,int c.v.b,int c.v.c,.sl 1 (qo c.v.pre),yW c.after]
abbrev xg:List (Option Nat):=[none,none,none,some 1,none]
theorem ZH{a b:Cut}(h:a.V=b.V):a=b:=by obtain⟨⟨i,j,k,l⟩,m⟩:=a;obtain⟨⟨n,o,p,q⟩,r⟩:=b;simp only[Cut.V,zn,z7]at h;obtain⟨d,e,f,c,g⟩:=h;injection c with _ c;rw[ql d,ql e,ql f,ki c,ZE g]
noncomputable def ZX (a b:Cut):Int:=if JL a.v b.v=0 then(if a.after=b.after then 0 else if b.after=true then -1 else 1)else JL a.v b.v
noncomputable def E6 (f:Cut->Cut->O):zb->Option O:=qD (α:=Cut×Cut) (fun a=>[.agg a.1.V,.agg a.2.V]) (fun a=>a.1.v.small/\a.2.v.small) (fun a=>f a.1 a.2)
theorem Cr:∀a b:Cut×Cut,[O.agg a.1.V,.agg a.2.V]=[.agg b.1.V,.agg b.2.V]->a=b:=by rintro⟨f,g⟩ ⟨h,i⟩ e;simp only[zn,z7]at e;obtain⟨c,d⟩:=e;injection c with c;injection d with d;rw[ZH c,ZH d]
noncomputable abbrev Ccu:Ctx:=qp prog [(134,qN [.g ZU,.g ZU] (Me fun v w=>int (JL v w)))]
theorem Mg:Gd Ccu:=qT mixed ⟨Yj,trivial⟩
theorem Xf(x y:Cut)(l:x.v.small)(m:y.v.small):zM Ccu f98 [.agg x.V,.agg y.V]=some (int (ZX x y)):=by
 obtain⟨⟨a,b,c,p⟩,f⟩:=x;obtain⟨⟨h,i,j,k⟩,f'⟩:=y;refine zw rfl ?_;have d:=fun Y Z=>F7 ⟨a,b,c,p⟩ ⟨h,i,j,k⟩ Y Z l m
 simp only[jR.V]at d;by_cases e:JL ⟨a,b,c,p⟩ ⟨h,i,j,k⟩=0
 ·cases f<;>cases f'<;>simp[Cut.V,d,e,ZX,f98]
 ·have g:=lx e;simp[Cut.V,d,e,g,ZX,f98]
theorem xh:zh prog 98 (qN [.g xg,.g xg] (E6 fun v w=>int (ZX v w))):=
 yC (fn:=f98) Mg (wL func98) _ _ fun args r h=>by obtain⟨⟨v,w⟩,rfl,⟨a,b⟩,rfl⟩:=zQ h;exact⟨by simp[f98],_,Xf v w a b,yc.refl _⟩
theorem sJ(x y:Cut)(u v:O)(Y:Hp)(Z:Nat)(b:(Sh.g xg).fix u=.agg x.V)(c:(Sh.g xg).fix v=.agg y.V)(d:zt Y [u,v]=some ([u,v],Y))(e:x.v.small)(f:y.v.small):qN [.g xg,.g xg] (E6 fun v w=>int (ZX v w)) [u,v] Y Z=some (int (ZX x y),Y,Z):=
 kN d (by show E6 _ [(Sh.g xg).fix u,(Sh.g xg).fix v]=_;rw[b,c];exact qj (V:=fun a:Cut×Cut=>[O.agg a.1.V,.agg a.2.V]) (a:=(x,y)) Cr ⟨e,f⟩) (.inl rfl)
mutual
noncomputable def qJ:Val->Val->Int
 | .mk k n s a b,w=>if k=w.kind then(if k=1\/k=2 then wU n w.n else if k=3 then jb s w.s else if k=4 then bp a w.items else if k=5 then bq b w.fields else 0)else wU k w.kind
noncomputable def bp:List Val->List Val->Int
 |[],[]=>0
 |[],_::_=>-1
 |_::_,[]=>1
 |a::xs,b::ys=>if qJ a b=0 then bp xs ys else qJ a b
noncomputable def bq:List (za×Val)->List (za×Val)->Int
 |[],[]=>0
 |[],_::_=>-1
 |_::_,[]=>1
 |(x,a)::xs,g::ys=>if cY [jb x g.1,qJ a g.2]=0 then bq xs ys else cY [jb x g.1,qJ a g.2]
end
noncomputable def kr (f g:za×Val):Int:=cY [jb f.1 g.1,qJ f.2 g.2]
theorem c7:∀a b:List Val,bp a b=yj qJ a b
 |[],[]=>rfl
 |[],_::_=>rfl
 |_::_,[]=>rfl
 |a::xs,b::ys=>by simp only[bp,yj,c7 xs ys]
theorem c9:∀a b:List (za×Val),bq a b=yj kr a b
 |[],[]=>rfl
 |[],_::_=>rfl
 |_::_,[]=>rfl
 |(x,a)::xs,g::ys=>by simp only[bq,yj,c9 xs ys,kr];rfl
theorem fy(a b:Val):qJ a b=if a.kind=b.kind then(if a.kind=1\/a.kind=2 then wU a.n b.n else if a.kind=3 then jb a.s b.s else if a.kind=4 then yj qJ a.items b.items else if a.kind=5 then yj kr a.fields b.fields else 0)else wU a.kind b.kind:=by
 cases a with
 |mk k n s e f=>
  cases b with
  |mk g h i c d=>simp only[qJ,c7,c9,Val.kind,Val.n,Val.s,Val.items,Val.fields];rfl
noncomputable def Mh (n:Nat):zb->Option O:=qD (α:=Val×Val) (fun a=>[.agg a.1.V,.agg a.2.V]) (fun a=>a.1.vb<=zX/\a.1.vb<=n/\a.2.vb<=zX) (fun a=>int (qJ a.1 a.2))
theorem YT(n:Nat)(a b:Val)(Y:Hp)(Z:Nat)(h:a.vb<=zX/\a.vb<=n/\b.vb<=zX):zp false [] (Mh n) [.agg a.V,.agg b.V] Y Z=some (int (qJ a b),Y,Z):=
 yg (Y1:=Y) (show zt Y [.agg a.V,.agg b.V]=some ([.agg a.V,.agg b.V],Y) by simp only[zt,xG])
  (qj (V:=fun a:Val×Val=>[.agg a.1.V,.agg a.2.V]) (a:=(a,b)) (fun x y e=>by obtain⟨c,d⟩:=x;obtain⟨f,g⟩:=y;simp only[zn,z7,O.agg.injEq]at e;rw[vE e.1,vE e.2]) h) (.inl rfl)
theorem Xg{f:FuncId}{F:zb->Option O}(b:∃fn,prog.funcs[f]?=some fn/\(fn.name== "runtime.NumGoroutine")=false/\fn.body.isNone=false)(h:∀args r,F args=some r->False):zh prog f (zp false [] F):=by
 refine⟨b,fun args Y Z r Y' Z' a=>?_⟩;unfold zp at a;split at a
 ·split at a
  ·rename_i r0 c;exact(h _ _ c).elim
  ·cases a
 ·cases a
theorem QY{a b:za×Val}(h:q6 a=q6 b):a=b:=by obtain⟨c,d⟩:=a;obtain⟨e,f⟩:=b;simp only[q6,zn]at h;rw[ya h.1,vE h.2]
theorem fA{a b:List (za×Val)}(h:a.map q6=b.map q6):a=b:=Wr (fun _ _=>QY) h
theorem Xh{a b:List Val}(h:a.map Val.V=b.map Val.V):a=b:=Wr (fun _ _=>vE) h
noncomputable abbrev RD (n:Nat):Ctx:=qp prog [(48,zp false []<|Mh n)]
theorem Vh(n:Nat)(a b:List (Val))(p:kf a<=zX/\kf a<=n)(t:kf b<=zX):zM (RD n) f61 [.sl 5 (a.map Val.V),.sl 5 (b.map Val.V),.fn (.func 48) [] []]=some (int (yj qJ a b)):=by
 refine zw rfl ?_;obtain⟨p,u⟩:=p;have y:=y7 a;have z:=y7 b;unfold zX at p t;simp;refine qA (fun k X Y Z=>X 0=.sl 5 (a.map Val.V)/\X 1=.sl 5 (b.map Val.V)/\X 2=.fn (.func 48) [] []/\X 11=.sl 5 (a.map Val.V)/\X 12=int a.length/\X 13=int k/\k<=b.length/\yj qJ a b=yj qJ (a.drop k) (b.drop k)) a.length
  ⟨by simp,by simp,by simp,by simp,by simp,by simp,by simp,by simp⟩ ?_
 rintro k X Y Z A ⟨j,l,m,f,g,h,v,c⟩;by_cases d:k<a.length
 ·have w:=wP k;by_cases e:k<b.length
  ·have i:¬b.length<=k:=by omega
   have B:=kA (zz d);have C:=kA (zz e);have s:=fun Y Z=>YT n a[k] b[k] Y Z ⟨by unfold zX;omega,by omega,by unfold zX;omega⟩
   skip
   rw[zj d,zj e]at c;simp only[yj]at c;by_cases o:qJ a[k] b[k]=0
   ·rw[zl o]at c;simp[j,l,m,f,g,h,d,e,i,s,o,w];exact⟨d,by omega,c⟩
   ·rw[zg o]at c;have q:=lx o;simp[j,l,m,f,g,h,d,e,i,s,q,c,f61]
  ·obtain rfl:k=b.length:=by omega
   rw[zj d,zE]at c;simp only[yj]at c;simp[j,l,m,f,g,h,d,c,f61]
 ·obtain rfl:k=a.length:=by omega
  rw[zE]at c;by_cases r:a.length<b.length
  ·rw[zj r]at c;simp only[yj]at c;simp[j,l,m,f,g,h,r,c,f61]
  ·rw[VW (by omega)]at c;simp only[yj]at c;have x:¬((a.length:Int)<b.length):=by omega
   simp[j,l,m,f,g,h,r,c,f61]
noncomputable def FLV (n:Nat):zb->Option O:=qD (α:=List (Val)×List (Val)) (fun a=>[.sl 5 (a.1.map Val.V),.sl 5 (a.2.map Val.V),.fn (.func 48) [] []]) (fun a=>(kf a.1<=zX/\kf a.1<=n)/\kf a.2<=zX) (fun a=>int (yj qJ a.1 a.2))
theorem Cs(n:Nat)(a b:List (Val))(Y:Hp)(Z:Nat)(h:(kf a<=zX/\kf a<=n)/\kf b<=zX):zp false [] (FLV n) [.sl 5 (a.map Val.V),.sl 5 (b.map Val.V),.fn (.func 48) [] []] Y Z=some (int (yj qJ a b),Y,Z):=
 yg (Y1:=Y) (by simp) (qj (V:=fun a:List (Val)×List (Val)=>[O.sl 5 (a.1.map Val.V),.sl 5 (a.2.map Val.V),.fn (.func 48) [] []]) (a:=(a,b)) (fun x y e=>by obtain⟨f,g⟩:=x;obtain⟨i,j⟩:=y;simp only[zn,z7]at e;obtain⟨c,d⟩:=e;injection c with _ c;injection d with _ d;rw[Xh c,Xh d]) h) (.inl rfl)
noncomputable def FFF (n:Nat):zb->Option O:=qD (α:=(za×Val)×(za×Val)) (fun a=>[.agg (q6 a.1),.agg (q6 a.2)]) (fun a=>(a.1.2.vb<=zX/\a.1.2.vb<=n/\a.2.2.vb<=zX)) (fun a=>int (kr a.1 a.2))
theorem Ct(n:Nat)(a b:za×Val)(Y:Hp)(Z:Nat)(h:a.2.vb<=zX/\a.2.vb<=n/\b.2.vb<=zX):zp false [] (FFF n) [.agg (q6 a),.agg (q6 b)] Y Z=some (int (kr a b),Y,Z):=
 yg (Y1:=Y) (show zt Y [.agg (q6 a),.agg (q6 b)]=some ([.agg (q6 a),.agg (q6 b)],Y) by simp[q6])
  (qj (V:=fun a:(za×Val)×(za×Val)=>[.agg (q6 a.1),.agg (q6 a.2)]) (a:=(a,b)) (fun x y e=>by
   obtain⟨d,f⟩:=x;obtain⟨g,i⟩:=y;have c:q6 d=q6 g/\q6 f=q6 i:=by simp only[zn,z7,O.agg.injEq]at e;exact⟨zn .. ▸ e.1,zn .. ▸ e.2⟩
   rw[QY c.1,QY c.2]) h) (.inl rfl)
noncomputable abbrev RE (n:Nat):Ctx:=qp prog [(60,zp false [] (E5 jb)),(48,zp false [] (Mh n)),(84,zp false [] IB)]
theorem Kx(n:Nat)(a b:za×Val)(h:a.2.vb<=zX/\a.2.vb<=n/\b.2.vb<=zX):zM (RE n) f63 [.agg (q6 a),.agg (q6 b)]=some (int (kr a b)):=by
 refine zw rfl ?_;have c:=fun Y Z=>YT n a.2 b.2 Y Z h
 have d:∀(Y:Hp) (Z id:Nat),Y id=some ⟨3,1,true,[[int (jb a.1 b.1)],[int (qJ a.2 b.2)]]⟩->zp false [] IB [.own id 0 2] Y Z=some (int (kr a b),Y,Z):=fun Y Z id e=>ie [_,_] Y Z id _ (by show 2<=zX;decide) e
 simp[q6,c,d,zu,zP,zr,f63]
noncomputable abbrev RF (n:Nat):Ctx:=qp prog [(63,zp false []<|FFF n)]
theorem Vi(n:Nat)(a b:List (za×Val))(p:QM a<=zX/\QM a<=n)(t:QM b<=zX):zM (RF n) f62 [.sl 6 (a.map q6),.sl 6 (b.map q6),.fn (.func 63) [] []]=some (int (yj kr a b)):=by
 refine zw rfl ?_;obtain⟨p,u⟩:=p;have y:=vO a;have z:=vO b;unfold zX at p t;simp;refine qA (fun k X Y Z=>X 0=.sl 6 (a.map q6)/\X 1=.sl 6 (b.map q6)/\X 2=.fn (.func 63) [] []/\X 11=.sl 6 (a.map q6)/\X 12=int a.length/\X 13=int k/\k<=b.length/\yj kr a b=yj kr (a.drop k) (b.drop k)) a.length
  ⟨by simp,by simp,by simp,by simp,by simp,by simp,by simp,by simp⟩ ?_
 rintro k X Y Z A ⟨j,l,m,f,g,h,v,c⟩;by_cases d:k<a.length
 ·have w:=wP k;by_cases e:k<b.length
  ·have i:¬b.length<=k:=by omega
   have B:=Qi (zz d);have C:=Qi (zz e);have q:=fun Y Z=>Ct n a[k] b[k] Y Z ⟨by unfold zX;omega,by omega,by unfold zX;omega⟩
   simp only[q6]at q;rw[zj d,zj e]at c;simp only[yj]at c;by_cases o:kr a[k] b[k]=0
   ·rw[zl o]at c;simp[j,l,m,f,g,h,d,e,i,q,o,w];exact⟨d,by omega,c⟩
   ·rw[zg o]at c;have r:=lx o;simp[j,l,m,f,g,h,d,e,i,q,r,c,f62]
  ·obtain rfl:k=b.length:=by omega
   rw[zj d,zE]at c;simp only[yj]at c;simp[j,l,m,f,g,h,d,c,f62]
 ·obtain rfl:k=a.length:=by omega
  rw[zE]at c;by_cases s:a.length<b.length
  ·rw[zj s]at c;simp only[yj]at c;simp[j,l,m,f,g,h,s,c,f62]
  ·rw[VW (by omega)]at c;simp only[yj]at c;have x:¬((a.length:Int)<b.length):=by omega
   simp[j,l,m,f,g,h,s,c,f62]
noncomputable def FLF (n:Nat):zb->Option O:=qD (α:=List (za×Val)×List (za×Val)) (fun a=>[.sl 6 (a.1.map q6),.sl 6 (a.2.map q6),.fn (.func 63) [] []]) (fun a=>(QM a.1<=zX/\QM a.1<=n)/\QM a.2<=zX) (fun a=>int (yj kr a.1 a.2))
theorem Cu(n:Nat)(a b:List (za×Val))(Y:Hp)(Z:Nat)(h:(QM a<=zX/\QM a<=n)/\QM b<=zX):zp false [] (FLF n) [.sl 6 (a.map q6),.sl 6 (b.map q6),.fn (.func 63) [] []] Y Z=some (int (yj kr a b),Y,Z):=
 yg (Y1:=Y) (by simp) (qj (V:=fun a:List (za×Val)×List (za×Val)=>[O.sl 6 (a.1.map q6),.sl 6 (a.2.map q6),.fn (.func 63) [] []]) (a:=(a,b)) (fun x y e=>by obtain⟨f,g⟩:=x;obtain⟨i,j⟩:=y;simp only[zn,z7]at e;obtain⟨c,d⟩:=e;injection c with _ c;injection d with _ d;rw[fA c,fA d]) h) (.inl rfl)
noncomputable abbrev RG (n:Nat):Ctx:=qp prog [(27,zp false [] (Ix wU)),(60,zp false [] (E5 jb)),(61,zp false [] (FLV n)),(62,zp false [] (FLF n))]
theorem eE(n:Nat)(a b:Val)(h:a.vb<=zX/\a.vb<=n+1/\b.vb<=zX):zM (RG n) f48 [.agg a.V,.agg b.V]=some (int (qJ a b)):=by
 obtain⟨u,v,w⟩:=h;have x:=xa a;have y:=xa b;have m:=fun Y Z=>Cs n a.items b.items Y Z ⟨⟨by omega,by omega⟩,by omega⟩
 have o:=fun Y Z=>Cu n a.fields b.fields Y Z ⟨⟨by omega,by omega⟩,by omega⟩
 refine zw rfl ?_;have c:=fy a b;by_cases e:a.kind=b.kind
 ·rw[zl e]at c;by_cases j:a.kind=1
  ·rw[zl (.inl j)]at c;have d:b.kind=1:=by omega
   simp[j,d,c,f48]
  by_cases k:a.kind=2
  ·rw[zl (.inr k)]at c;have d:b.kind=2:=by omega
   simp[k,d,c,f48]
  rw[zg (by omega)]at c;by_cases f:a.kind=3
  ·rw[zl f]at c;have d:b.kind=3:=by omega
   simp[f,d,c,f48]
  rw[zg f]at c;by_cases g:a.kind=4
  ·rw[zl g]at c;have d:b.kind=4:=by omega
   simp[g,d,c,m,f48]
  rw[zg g]at c;by_cases i:a.kind=5
  ·rw[zl i]at c;have d:b.kind=5:=by omega
   simp[i,d,c,o,f48]
  rw[zg i]at c;have l:(a.kind != b.kind)=false:=by simpa using e
  have p:=vL j;have q:=vL k;have r:=vL f;have s:=vL g;have t:=vL i;simp[l,p,q,r,s,t,c,f48]
 ·rw[zg e]at c;have l:(a.kind != b.kind)=true:=by simpa using e
  simp[l,c,f48]
theorem sK{n:Nat}{args:zb}{r:O}(h:Mh n args=some r):∃a b:Val,args=[.agg a.V,.agg b.V]/\(a.vb<=zX/\a.vb<=n/\b.vb<=zX)/\r=int (qJ a b):=by obtain⟨⟨a,b⟩,c,d,e⟩:=zQ h;exact⟨a,b,c,d,e⟩
theorem ZY:∀n,zh prog 48 (zp false [] (Mh n)):=by
 intro n
 induction n with
 |zero=>
  exact Xg ⟨_,func48,by kernel_rfl,by kernel_rfl⟩ fun args r h=>by obtain⟨a,b,_,d,_⟩:=sK h;have:=WA a;omega
 |succ n e=>
  have f:Gd (RD n):=qT mixed ⟨e,trivial⟩;have i:zh prog 61 (zp false [] (FLV n)):=
   XV f func61 false [] fun⟨a,b⟩ ⟨c,d⟩=>by exact⟨qm (zi 3) (by decide),_,Vh n a b c d,wy _⟩
  have j:AM.Good (RE n) (fun g=>[60,48,84].contains g):=qH mixed ⟨kZ,fun _=>zv _ _,e,fun _=>zv _ _,cZ,fun _=>zv _ _,trivial⟩;have k:zh prog 63 (zp false [] (FFF n)):=
   XV j func63 false [] fun⟨a,b⟩ c=>by exact⟨qm (zi 2) (by decide),_,Kx n a b c,wy _⟩
  have l:Gd (RF n):=qT mixed ⟨k,trivial⟩;have m:zh prog 62 (zp false [] (FLF n)):=
   XV l func62 false [] fun⟨a,b⟩ ⟨c,d⟩=>by exact⟨qm (zi 3) (by decide),_,Vi n a b c d,wy _⟩
  have o:Gd (RG n):=qT mixed ⟨WN,kZ,i,m,trivial⟩;exact jo (fn:=f48) o (wL func48) false [] _ fun args r h=>by obtain⟨a,b,rfl,c,rfl⟩:=sK h;exact⟨qm (zi 2) (by decide),_,eE n a b c,wy _⟩
end Go.Q
namespace Go.AM
def ZZ(a:List Sh)(F:zb->Option O):AM.Spec:=zp true [] fun args=>F (av a args)
theorem my{C:Ctx}{pf:FuncId->Bool}{f:FuncId}{fn:Func}(b:AM.Good C pf)(c:Kl C pf f fn)(a:List Sh)(F:zb->Option O)
  (d:∀args r,F args=some r->args.length<=fn.ntmps/\∃r0,zM C fn args=some r0/\yc r0 r):zh C.P f (ZZ a F):=
 cx b c true [] _ fun args r h w S vs e=>by obtain⟨g,r0,i,j⟩:=d _ _ h;exact⟨av a args,r0,QW e,g,i,j⟩
theorem Cv{a:List Sh}{F:zb->Option O}{args:zb}{Y Y1:Hp}{Z:Nat}{ys:zb}{r:O}(b:zt Y args=some (ys,Y1))(c:F (av a ys)=some r)(d:(r.flat=true\/args.all O.noOwn=true)->Y1=Y) :
  ZZ a F args Y Z=some (r,Y1,Z):=by
 have e:yn [] ys=ys:=by cases ys<;>rfl
 unfold ZZ zp;simp only[b,e,c];split
 ·rename_i h;rw[d h]
 ·simp
theorem pI(c:List Sh)(F:zb->Option O):xN (ZZ c F):=by
 intro args Y Z r Y' Z' h;unfold ZZ zp at h;split at h
 ·rename_i ys Y1 d;split at h
  ·split at h
   ·injection h with h;injection h with _ h;injection h with a b;subst a;subst b;exact⟨zi _,fun id blk _ a _=>a⟩
   ·split at h
    ·injection h with h;injection h with _ h;injection h with a b;subst a;subst b;exact⟨zi _,fun id blk _ a b=>YG d a b⟩
    ·cases h
  ·cases h
 ·cases h
def k4(P:Program)(l:Qh)(k:Nat)(D:List (Tmp×Tmp))(L:List Tmp)(b:List Nat):Ctx:=⟨P,lookup l,fun i=>if i=k then D else[],fun i=>if i=k then L else[],fun g=>b.contains g,fun _=>[],fun _=>none⟩
@[simp]theorem OL(P:Program)(l:Qh)(k:Nat)(D:List (Tmp×Tmp))(L:List Tmp)(b:List Nat):(k4 P l k D L b).P=P:=rfl
@[simp]theorem OM(P:Program)(l:Qh)(k:Nat)(D:List (Tmp×Tmp))(L:List Tmp)(b:List Nat)(Y:Hp)(Z g:Nat)(x y xs:zb):yF (k4 P l k D L b) Y Z (some (.fn (.func g) x y)) xs=(lookup l g).bind fun s=>s (x++xs++y) Y Z:=by unfold yF k4;simp only;cases lookup l g<;>rfl
@[simp]theorem AR(P:Program)(l:Qh)(k:Nat)(D:List (Tmp×Tmp))(L:List Tmp)(b:List Nat)(i:Nat)(a:Array Oper)(d:Bool)(st:St)(K:Exit->St->Prop)(h:¬i=k):vB (k4 P l k D L b) (.region i a d) st K=bV (k4 P l k D L b) a a.toList st (Zo K):=
 xE _ i a d st K (by simp[k4,h]) (by simp[k4,h])
theorem xi{P:Program}{l:Qh}{k:Nat}{D:List (Tmp×Tmp)}{L:List Tmp}{b:List Nat}{a:Array Oper}{d:Bool}{st:St}{K:Exit->St->Prop}(h:xz D st)(c:vW L st):vB (k4 P l k D L b) (.region k a d) st K=bV (k4 P l k D L b) a a.toList st (Zo K):=
 kK _ k a d st K (by simpa[k4]using h) (by simpa[k4]using c)
theorem uD{P:Program}{l:Qh}{q:List Nat}{k:Nat}{D:List (Tmp×Tmp)}{L:List Tmp}{b:List Nat}(a:P.follows .mixedOrders=true)(h:lV True P q l)(c:gQ b l):AM.Good (k4 P l k D L b) (fun g=>q.contains g):=
 let g:=mf (k:=k) (L:=L) a h c
 ⟨g.spec,g.quiet,g.mixed,g.box,fun _ _ h=>by cases h⟩
end Go.AM
namespace Go.Q
def lk(a b c:Int):O:=.agg [int a,int b,int c]
noncomputable def pJ:zb->Option O:=qD (α:=Int×Int×Int×List za) (fun a=>[lk a.1 a.2.1 a.2.2.1,.sl 1 (qo a.2.2.2)]) (fun _=>True) (fun a=>.agg (⟨a.1,a.2.1,a.2.2.1,a.2.2.2⟩:jR).V)
theorem F8:∀a b:Int×Int×Int×List za,[lk a.1 a.2.1 a.2.2.1,.sl 1 (qo a.2.2.2)]=[lk b.1 b.2.1 b.2.2.1,.sl 1 (qo b.2.2.2)]->a=b:=by rintro⟨h,i,j,k⟩ ⟨l,m,n,o⟩ e;simp only[lk,zn,z7]at e;obtain⟨c,d⟩:=e;injection c with c;simp only[zn,z7]at c;obtain⟨c,f,g⟩:=c;injection d with _ d;rw[ql c,ql f,ql g,ki d]
theorem ig(a b c:Int)(p:List za):zM C0 f132 [lk a b c,.sl 1 (qo p)]=some (.agg (⟨a,b,c,p⟩:jR).V):=by refine zw rfl ?_;simp[lk,jR.V,zU,qn,ja,f132]
theorem QE:zh prog 132 (ZZ [.a,.s 1 []] pJ):=
 my (fn:=f132) kM (wL func132) _ _ fun args r h=>by obtain⟨⟨a,b,c,p⟩,rfl,_,rfl⟩:=zQ h;exact⟨by simp[f132],_,ig a b c p,yc.refl _⟩
theorem WO(a b c:Int)(p:List za)(y z:O)(Y Y1:Hp)(Z:Nat)(e:zS Y y=some (z,Y1))(d:n1 1 z=.sl 1 (qo p))(f:y.noOwn=true->Y1=Y):ZZ [.a,.s 1 []] pJ [lk a b c,y] Y Z=some (.agg (⟨a,b,c,p⟩:jR).V,Y1,Z):=
 Cv (ys:=[lk a b c,z]) (by
  have g:zS Y (lk a b c)=some (lk a b c,Y):=by simp[lk]
  simp only[zt,g,e]) (by
  have:(Sh.s 1 []).fix z=.sl 1 (qo p):=by
   cases z with
   |sl m es=>simp only[n1]at d;simp only[Sh.fix];rw[<-d];congr 1;exact(zay (fun c _=>by cases c<;>rfl)).trans (List.map_id _)
   |_=>exact d
  show pJ [lk a b c,(Sh.s 1 []).fix z]=_;rw[this];exact qj (V:=fun a:Int×Int×Int×List za=>[lk a.1 a.2.1 a.2.2.1,.sl 1 (qo a.2.2.2)]) (a:=(a,b,c,p)) F8 trivial) (by simpa[lk,jR.V]using f)
def yE:Cut:=⟨⟨0,0,0,[[48]]⟩,false⟩
noncomputable def J9 (r:O):zb->Option O:=qD (α:=Unit) (fun _=>[]) (fun _=>True) (fun _=>r)
theorem WQ(r:O)(Y:Hp)(Z:Nat):qN [] (J9 r) [] Y Z=some (r,Y,Z):=kN (show zt Y []=some ([],Y)from rfl) (qj (V:=fun _:Unit=>[]) (a:=()) (fun _ _ _=>rfl) trivial) (.inr rfl)
theorem pK:zM C0 f92 []=some (.agg yE.V):=by refine zw rfl ?_;simp[yE,Cut.V,qo,str,zU,qn,zu,zP,zr,ja,f92]
theorem X0:zh prog 92 (qN [] (J9 (.agg yE.V))):=
 yC (fn:=f92) kM (wL func92) _ _ fun args r h=>by obtain⟨_,rfl,_,rfl⟩:=zQ h;exact⟨by simp[f92],_,pK,yc.refl _⟩
structure yt where
 lo:Cut
 hi:Cut
 W7:Bool
def yt.V(s:yt):zb:=s.lo.V++s.hi.V++[yW s.W7]
def Wc:Cut:=⟨⟨0,0,0,[]⟩,false⟩
abbrev k6:List (Option Nat):=[none,none,none,some 1,none,none,none,none,some 1,none,none]
def jV(c:Cut):yt:=⟨c,Wc,true⟩
def RH(a b:Cut):yt:=⟨a,b,false⟩
def qI(l:List yt):List zb:=l.map yt.V
def Ky:O:=.sl 11 (qI [jV yE])
noncomputable abbrev Cev:Ctx:=qp prog [(92,qN [] (J9 (.agg yE.V)))]
theorem Mi:Gd Cev:=qT mixed ⟨X0,trivial⟩
theorem aF:∃r0,zM Cev f66 []=some r0/\yc r0 Ky:=by refine WC (sh:=.s 11 k6) rfl ?_;simp[WQ,yE,Cut.V,qo,str,zU,qn,zu,zP,zr,cz,Ky,qI,jV,yt.V,Wc,f66]
theorem QZ:zh prog 66 (qN [] (J9 Ky)):=
 yC (fn:=f66) Mi (wL func66) _ _ fun args r h=>by obtain⟨_,rfl,_,rfl⟩:=zQ h;obtain⟨r0,a,b⟩:=aF;exact⟨by simp[f66],r0,a,b⟩
theorem da{a b:Part}(h:a.V=b.V):a=b:=by obtain⟨i,j,k,l,m⟩:=a;obtain⟨n,o,p,q,r⟩:=b;simp only[Part.V,zn,z7]at h;obtain⟨d,e,f,g,c⟩:=h;injection c with _ c;rw[ql d,ql e,ql f,ql g,ki c]
def Part.ok(p:Part):Prop:=(0<=p.n0/\p.n0<=999999)/\(0<=p.n1/\p.n1<=999999)/\(0<=p.n2/\p.n2<=999999)/\(1<=p.has/\p.has<=3)/\vm p.pre
noncomputable def Ug (f:Part->O):zb->Option O:=qD (α:=Part) (fun p=>[.agg p.V]) Part.ok f
theorem mz(f:Part->O)(p:Part)(u:O)(Y:Hp)(Z:Nat)(h:p.ok)(c:(Sh.g YQ).fix u=.agg p.V)(d:zS Y u=some (u,Y))(i:u.noOwn=true):qN [.g YQ] (Ug f) [u] Y Z=some (f p,Y,Z):=
 kN (show zt Y [u]=some ([u],Y) by simp only[zt,d]) (by show Ug f [(Sh.g YQ).fix u]=_;rw[c];exact qj (V:=fun p:Part=>[O.agg p.V]) (a:=p) (fun a b e=>by simp only[zn,z7]at e;injection e with e;exact da e) h) (.inr (by rw[wC,i];rfl))
noncomputable def Uh (f:Part->O):zb->Option O:=qD (α:=Part) (fun p=>[.agg p.V]) (fun _=>True) f
theorem Cw(f:Part->O)(p:Part)(Y:Hp)(Z:Nat):qN [.g YQ] (Uh f) [.agg p.V] Y Z=some (f p,Y,Z):=
 kN (show zt Y [.agg p.V]=some ([.agg p.V],Y) by simp[Part.V]) (by show Uh f [(Sh.g YQ).fix (.agg p.V)]=_;rw[show(Sh.g YQ).fix (.agg p.V)=.agg p.V by simp[Part.V]];exact qj (V:=fun p:Part=>[O.agg p.V]) (a:=p) (fun a b e=>by simp only[zn,z7]at e;injection e with e;exact da e) trivial) (.inr (by simp[Part.V]))
def JM(p:Part):Cut:=⟨⟨p.n0,p.n1,p.n2,p.pre⟩,false⟩
noncomputable abbrev Clo:Ctx:=qp prog [(132,ZZ [.a,.s 1 []] pJ)]
theorem Mj:Gd Clo:=qT mixed ⟨QE,trivial⟩
theorem Cx(p:Part):zM Clo f93 [.agg p.V]=some (.agg (JM p).V):=by
 obtain⟨a,b,c,d,e⟩:=p;refine zw rfl ?_;have f:=fun Y Z=>WO a b c e (.sl 1 (qo e)) (.sl 1 (qo e)) Y Y Z (by simp) rfl (fun _=>rfl)
 simp[lk]at f;simp[Part.V,f,JM,Cut.V,jR.V,zU,qn,ja,f93]
theorem uE:zh prog 93 (qN [.g YQ] (Uh fun p=>.agg (JM p).V)):=
 yC (fn:=f93) Mj (wL func93) _ _ fun args r h=>by obtain⟨p,rfl,_,rfl⟩:=zQ h;exact⟨by simp[f93],_,Cx p,yc.refl _⟩
def kB(p:Part):Nat->Cut
 | 0=>⟨⟨p.n0+1,0,0,[[48]]⟩,false⟩
 | 1=>⟨⟨p.n0,p.n1+1,0,[[48]]⟩,false⟩
 |_=>⟨⟨p.n0,p.n1,p.n2+1,[[48]]⟩,false⟩
def WR(p:Part):Nat->Bool
 | 0=>decide (p.n0+1<=999999)
 | 1=>decide (p.n1+1<=999999)
 |_=>decide (p.n2+1<=999999)
def xj(p:Part)(i:Nat):O:=.qS [.agg (kB p i).V,yW (WR p i)]
noncomputable abbrev RI:Ctx:=k4 prog [(132,ZZ [.a,.s 1 []] pJ)] 7 [(6,4),(28,4)] [4,6,28] [132]
theorem F9:Gd RI:=uD mixed ⟨QE,by simp,trivial⟩ ⟨fun _=>pI _ _,trivial⟩
theorem Xi(st:St):xz [] st:=fun _ h=>by cases h
theorem xJ{a b:Tmp}{D:List (Tmp×Tmp)}{st:St}(h:gg st a b)(c:xz D st):xz ((a,b)::D) st:=fun p Y=>by
 rcases zJ.1 Y with rfl|Y
 ·exact h
 ·exact c p Y
theorem db(st:St):vW [] st:=fun _ h=>by cases h
theorem Q0{s:Tmp}{L:List Tmp}{st:St}{id i j:Nat}{blk:Blk}(h:st.X s=.ref id i j)(b:id<st.Z)(c:st.Y id=some blk)(d:blk.arr=false)(f:vW L st)(hs:s<zB:=by decide):vW (s::L) st:=fun t a=>by
 rcases zJ.1 a with rfl|a
 ·refine⟨⟨fun id' o n e=>(by rw[h]at e;cases e),fun id' i' j' e=>?_⟩,fun g=>absurd hs (Nat.not_lt.2 g)⟩;rw[h]at e;injection e with e _ _
  subst e;exact⟨b,blk,c,d⟩
 ·exact f t a
theorem dc{s:Tmp}{L:List Tmp}{st:St}{x:zb}(h:st.X s=.qS x)(b:vW L st)(hs:s<zB:=by decide):vW (s::L) st:=fun t a=>by
 rcases zJ.1 a with rfl|a
 ·exact⟨⟨fun id' o n e=>(by rw[h]at e;cases e),fun id' i' j' e=>(by rw[h]at e;cases e)⟩,fun c=>absurd hs (Nat.not_lt.2 c)⟩
 ·exact b t a
theorem Xj{a b:Tmp}{st:St}{id i j id' i' j':Nat}{blk:Blk}(d:st.X a=.ref id i j)(e:st.X b=.ref id' i' j')(f:id≠id')(g:st.Y id'=some blk)(h:blk.arr=false):gg st a b:=by
 intro k l m c;rw[d]at c;injection c with c _ _
 subst c;exact⟨id',i',j',blk,e,f,g,h⟩
theorem Xk{a b:Tmp}{st:St}{x:zb}(d:st.X a=.qS x):gg st a b:=by intro e f g c;rw[d]at c;cases c
theorem mA(p:Part)(i:Nat)(v:i<3)(Y:p.ok):∃r0,zM RI f96 [.agg p.V,int i]=some r0/\yc r0 (xj p i):=by
 obtain⟨a,b,c,d,e⟩:=p;obtain⟨⟨j,k⟩,⟨l,m⟩,⟨n,o⟩,_⟩:=Y;simp only at j k l m n o;refine kp (sh:=.g xg) rfl ?_;have q:=wY (a+1);have r:=wY (b+1);have t:=wY (c+1);have f:∀(a b c:Int) (Y:Hp) (Z id:Nat),Y id=some ⟨9,1,true,[[str [48]]]⟩->ZZ [.a,.s 1 []] pJ [lk a b c,.own id 0 1] Y Z=some (.agg (⟨a,b,c,[[48]]⟩:jR).V,qb Y id none,Z):=fun a b c Y Z id u=>WO a b c [[48]] (.own id 0 1) (.sl 1 [[str [48]]]) Y (qb Y id none) Z (by simp[u]) rfl (fun h=>by cases h)
 simp[lk,str]at f;rcases(by omega:i=0\/i=1\/i=2)with rfl|rfl|rfl
 ·simp[Part.V,q];rw[zY];simp;rw[zY];simp;rw[zY];simp;rw[xi (xJ (Xj (by simp;exact⟨rfl,rfl,rfl⟩) (by simp;exact⟨rfl,rfl,rfl⟩) (by omega) (by simp;rfl) rfl) (xJ (Xk (by simp;rfl)) (Xi _)))
   (Q0 (by simp;exact⟨rfl,rfl,rfl⟩) (by simp) (by simp;rfl) rfl (Q0 (by simp;exact⟨rfl,rfl,rfl⟩) (by simp) (by simp;rfl) rfl (dc (by simp;rfl) (db _))))]
  simp[f,zU,qn,zu,zP,zr,qP,xj,kB,WR,Cut.V,jR.V,f96]
 ·simp[Part.V,r];rw[zY];simp;rw[zY];simp;rw[xi (xJ (Xj (by simp;exact⟨rfl,rfl,rfl⟩) (by simp;exact⟨rfl,rfl,rfl⟩) (by omega) (by simp;rfl) rfl) (xJ (Xk (by simp;rfl)) (Xi _)))
   (Q0 (by simp;exact⟨rfl,rfl,rfl⟩) (by simp) (by simp;rfl) rfl (Q0 (by simp;exact⟨rfl,rfl,rfl⟩) (by simp) (by simp;rfl) rfl (dc (by simp;rfl) (db _))))]
  simp[f,zU,qn,zu,zP,zr,qP,xj,kB,WR,Cut.V,jR.V,f96]
 ·simp[Part.V,t];rw[zY];simp;rw[xi (xJ (Xj (by simp;exact⟨rfl,rfl,rfl⟩) (by simp;exact⟨rfl,rfl,rfl⟩) (by omega) (by simp;rfl) rfl) (xJ (Xk (by simp;rfl)) (Xi _)))
   (Q0 (by simp;exact⟨rfl,rfl,rfl⟩) (by simp) (by simp;rfl) rfl (Q0 (by simp;exact⟨rfl,rfl,rfl⟩) (by simp) (by simp;rfl) rfl (dc (by simp;rfl) (db _))))]
  simp[f,zU,qn,zu,zP,zr,qP,xj,kB,WR,Cut.V,jR.V,f96]
noncomputable def RJ (f:Part->Nat->O):zb->Option O:=qD (α:=Part×Nat) (fun a=>[.agg a.1.V,int a.2]) (fun a=>a.1.ok/\a.2<3) (fun a=>f a.1 a.2)
theorem Mk:∀a b:Part×Nat,[O.agg a.1.V,int a.2]=[O.agg b.1.V,int b.2]->a=b:=by rintro⟨h,d⟩ ⟨i,f⟩ e;simp only[zn,z7]at e;obtain⟨c,g⟩:=e;injection c with c;have:=ql g;rw[da c,show d=f by omega]
theorem mB(f:Part->Nat->O)(p:Part)(i:Nat)(u:O)(Y:Hp)(Z:Nat)(h:p.ok)(b:i<3)(c:(Sh.g YQ).fix u=.agg p.V)(d:zS Y u=some (u,Y))(e:u.noOwn=true):qN [.g YQ] (RJ f) [u,int i] Y Z=some (f p i,Y,Z):=
 kN (show zt Y [u,int i]=some ([u,int i],Y) by simp only[zt,d];rfl) (by show RJ f [(Sh.g YQ).fix u,int i]=_;rw[c];exact qj (V:=fun a:Part×Nat=>[O.agg a.1.V,int a.2]) (a:=(p,i)) Mk ⟨h,b⟩) (.inr (by rw[wC,e];rfl))
theorem Vj:zh prog 96 (qN [.g YQ] (RJ xj)):=
 yC (fn:=f96) F9 (wL func96) _ _ fun args r h=>by obtain⟨⟨p,i⟩,rfl,⟨a,b⟩,rfl⟩:=zQ h;obtain⟨r0,c,d⟩:=mA p i b a;exact⟨by simp[f96],r0,c,d⟩
def Qn(p:Part):Cut:=if p.has<3 then kB p (p.has-1).toNat else⟨⟨p.n0,p.n1,p.n2,p.pre⟩,true⟩
def dd(p:Part):Bool:=if p.has<3 then WR p (p.has-1).toNat else true
def Vk(p:Part):O:=.qS [.agg (Qn p).V,yW (dd p)]
noncomputable abbrev Chi:Ctx:=qp prog [(132,ZZ [.a,.s 1 []] pJ),(96,qN [.g YQ] (RJ xj))]
theorem Ml:Gd Chi:=qT mixed ⟨QE,Vj,trivial⟩
@[simp]theorem bb(p:Part)(Y:Hp):zS Y (.agg p.V)=some (.agg p.V,Y):=by simp[Part.V]
theorem uF(p:Part)(Y:p.ok):zM Chi f95 [.agg p.V]=some (Vk p):=by
 have a:=Y;obtain⟨_,_,_,⟨g,h⟩,_⟩:=Y;refine zw rfl ?_;have b:=fun Y Z=>mB xj p (p.has-1).toNat (.agg p.V) Y Z a (by omega) (by simp[Part.V]) (bb p Y) (by simp[Part.V])
 have e:(((p.has-1).toNat:Nat):Int)=p.has-1:=by omega
 have f:=wY (p.has-1);rw[e]at b;have c:=fun Y Z=>WO p.n0 p.n1 p.n2 p.pre (.sl 1 (qo p.pre)) (.sl 1 (qo p.pre)) Y Y Z (by simp) rfl (fun _=>rfl)
 simp[lk]at c;simp only[Part.V]at b;by_cases d:p.has<3
 ·simp[Part.V,d,b,f,Vk,Qn,dd,xj,Cut.V,ja,f95]
 ·simp[Part.V,d,c,Vk,Qn,dd,Cut.V,jR.V,zU,qn,ja,f95]
theorem pL:zh prog 95 (qN [.g YQ] (Ug Vk)):=
 yC (fn:=f95) Ml (wL func95) _ _ fun args r h=>by obtain⟨p,rfl,a,rfl⟩:=zQ h;exact⟨by simp[f95],_,uF p a,yc.refl _⟩
noncomputable def AU (a b:Cut):List yt:=if 0<=ZX a b then[]else[RH a b]
noncomputable def de (a b:Cut):O:=.sl 11 (qI (AU a b))
noncomputable abbrev Cbt:Ctx:=qp prog [(98,qN [.g xg,.g xg] (E6 fun v w=>int (ZX v w)))]
theorem Mm:Gd Cbt:=qT mixed ⟨xh,trivial⟩
theorem ij(x y:Cut)(b:x.v.small)(c:y.v.small):∃r0,zM Cbt f94 [.agg x.V,.agg y.V]=some r0/\yc r0 (de x y):=by
 refine WC (sh:=.s 11 k6) rfl ?_;have a:=fun Y Z=>sJ x y (.agg x.V) (.agg y.V) Y Z (by simp[Cut.V]) (by simp[Cut.V]) (by simp[Cut.V]) b c
 simp only[Cut.V]at a;by_cases h:0<=ZX x y
 ·simp[Cut.V,a,h,cz,de,AU,qI,f94]
 ·simp[Cut.V,a,h,zU,qn,zu,zP,zr,cz,de,AU,qI,RH,yt.V,f94]
theorem eF:zh prog 94 (qN [.g xg,.g xg] (E6 de)):=
 yC (fn:=f94) Mm (wL func94) _ _ fun args r h=>by obtain⟨⟨v,w⟩,rfl,⟨a,b⟩,rfl⟩:=zQ h;obtain⟨r0,c,d⟩:=ij v w a b;exact⟨by simp[f94],r0,c,d⟩
structure vp where
 sign:List UInt8
 p:Part
 tu:Part
def vp.V(c:vp):zb:=[str c.sign,int c.p.n0,int c.p.n1,int c.p.n2,int c.p.has,.sl 1 (qo c.p.pre),int c.tu.n0,int c.tu.n1,int c.tu.n2,int c.tu.has,.sl 1 (qo c.tu.pre)]
abbrev ik:List (Option Nat):=[none,none,none,none,none,some 1,none,none,none,none,some 1]
theorem uG{a b:vp}(h:a.V=b.V):a=b:=by obtain⟨q,⟨r,s,t,u,v⟩,⟨w,x,y,z,e⟩⟩:=a;obtain⟨A,⟨B,C,D,E,F⟩,⟨G,H,I,J,f⟩⟩:=b;simp only[vp.V,zn,z7]at h;obtain⟨g,i,j,k,l,d,m,n,o,p,c⟩:=h;injection d with _ d;injection c with _ c;rw[ya g,ql i,ql j,ql k,ql l,ki d,ql m,ql n,ql o,ql p,ki c]
def jr:za:=[97,108,108]
def vp.ok(c:vp):Prop:=c.sign.length<=zX/\(c.sign=jr\/(c.p.ok/\(c.sign=[45]->c.tu.ok)))
def Zl(p:Part):Nat:=if 1<p.has/\p.n0=0 then(if 2<p.has/\p.n1=0 then 2 else 1)else 0
noncomputable def ZA (c:vp):List yt×Bool:=
 if c.sign=jr then([jV yE],true)
 else if c.sign=[62,61]then([jV (JM c.p)],true)
 else if c.sign=[60]then(AU yE (JM c.p),true)
 else if c.sign=[62]then([jV (Qn c.p)],dd c.p)
 else if c.sign=[60,61]then(AU yE (Qn c.p),dd c.p)
 else if c.sign=[45]then(AU (JM c.p) (Qn c.tu),dd c.tu)
 else if c.sign=[126]then(AU (JM c.p) (kB c.p (min (c.p.has-1) 1).toNat),WR c.p (min (c.p.has-1) 1).toNat)
 else if c.sign=[94]then(AU (JM c.p) (kB c.p (Zl c.p)),WR c.p (Zl c.p))
 else(AU (JM c.p) (Qn c.p),dd c.p)
noncomputable def QF (c:vp):O:=.qS [.sl 11 (qI (ZA c).1),yW (ZA c).2]
def Mn(p:Part):O:=.agg (JM p).V
def Cy:O:=.agg yE.V
noncomputable abbrev RL:Ctx:=qp prog [(93,qN [.g YQ] (Uh Mn)),(95,qN [.g YQ] (Ug Vk)),(96,qN [.g YQ] (RJ xj)),(92,qN [] (J9 Cy)),(66,qN [] (J9 Ky)),(94,qN [.g xg,.g xg] (E6 de))]
theorem Ga:AM.Good RL (fun g=>[92,94].contains g):=qH mixed ⟨uE,by simp,pL,by simp,Vj,by simp,X0,fun _=>xd _ _,QZ,by simp,eF,fun _=>xd _ _,trivial⟩
theorem Cz:yE.v.small:=⟨by decide,fun p Y=>by simp[yE]at Y;subst Y;decide⟩
theorem Vl(p:Part)(i:Nat):(kB p i).v.small:=by
 have h:(kB p i).v.pre=[[48]]:=by unfold kB;split<;>rfl
 exact⟨by rw[h];decide,fun q a=>by rw[h]at a;simp at a;subst a;decide⟩
theorem Jv{p:Part}(h:vm p.pre):(JM p).v.small:=h
theorem Kz{p:Part}(h:vm p.pre):(Qn p).v.small:=by
 unfold Qn;split
 ·exact Vl _ _
 ·exact h
theorem il(c:Cut):(Sh.g xg).fix (.agg c.V)=.agg c.V:=by simp[Cut.V]
theorem CA(c:Cut)(Y:Hp):zS Y (.agg c.V)=some (.agg c.V,Y):=by simp[Cut.V]
theorem Vm(x y:Cut)(Y:Hp)(Z:Nat)(b:x.v.small)(c:y.v.small):qN [.g xg,.g xg] (E6 de) [.agg x.V,.agg y.V] Y Z=some (de x y,Y,Z):=
 kN (show zt Y [.agg x.V,.agg y.V]=some ([.agg x.V,.agg y.V],Y) by simp only[zt,CA]) (by show E6 _ [(Sh.g xg).fix (.agg x.V),(Sh.g xg).fix (.agg y.V)]=_;rw[il,il];exact qj (V:=fun a:Cut×Cut=>[O.agg a.1.V,.agg a.2.V]) (a:=(x,y)) Cr ⟨b,c⟩) (.inr (by simp[Cut.V]))
theorem df(c:vp)(R:c.ok):∃r0,zM RL f67 [.agg c.V]=some r0/\yc r0 (QF c):=by
 obtain⟨h,p,S⟩:=c;obtain⟨_,R⟩:=R;simp only at R;refine kp (sh:=.s 11 k6) rfl ?_;have e:=fun Y Z=>Cw Mn p Y Z
 have I:∀(Y:Hp) (Z:Nat),qN [] (J9 Cy) [] Y Z=some (.agg [int yE.v.a,int yE.v.b,int yE.v.c,.sl 1 (qo yE.v.pre),yW yE.after],Y,Z):=fun Y Z=>WQ _ Y Z
 have U:∀(Y:Hp) (Z:Nat),qN [] (J9 Ky) [] Y Z=some (.sl 11 (qI [jV yE]),Y,Z):=fun Y Z=>WQ _ Y Z
 simp only[Mn,Part.V,Cut.V]at e;by_cases J:h=jr
 ·subst J;simp[vp.V,e,U,jr,qP,QF,ZA,qI,jV,yt.V,Cut.V,Wc,f67]
 obtain⟨Y,ht⟩:=R.resolve_left J;have B:vm p.pre:=Y.2.2.2.2;have k:(h==[97,108,108])=false:=by simpa[jr]using J
 by_cases T:h=[62,61]
 ·subst T;simp[vp.V,e,k,zU,qn,zu,zP,zr,jr,qP,QF,ZA,qI,jV,yt.V,Cut.V,Wc,f67]
 have l:=vL T;have K:=fun Y Z=>Vm yE (JM p) Y Z Cz (Jv B)
 have L:=fun Y Z=>Vm yE (Qn p) Y Z Cz (Kz B)
 have G:=fun Y' Z=>mz Vk p (.agg p.V) Y' Z Y (by simp[Part.V]) (bb p Y') (by simp[Part.V])
 simp only[de,Vk,Part.V,Cut.V]at K L G;by_cases W:h=[60]
 ·subst W;simp[vp.V,e,I,K,k,l,jr,qP,QF,ZA,qI,yt.V,Cut.V,f67]
 have m:=vL W;by_cases s3:h=[62]
 ·subst s3;simp[vp.V,e,G,k,l,m,zU,qn,zu,zP,zr,jr,qP,QF,ZA,qI,jV,yt.V,Cut.V,Wc,f67]
 have q:=vL s3;by_cases s4:h=[60,61]
 ·subst s4;simp[vp.V,e,G,I,L,k,l,m,q,zU,qn,zu,zP,zr,jr,qP,QF,ZA,qI,jV,yt.V,Cut.V,Wc,f67]
 have r:=vL s4;by_cases s5:h=[45]
 ·subst s5;have M:=ht rfl;have N:=fun Y Z=>Vm (JM p) (Qn S) Y Z (Jv B) (Kz M.2.2.2.2)
  have P:=fun Y' Z=>mz Vk S (.agg S.V) Y' Z M (by simp[Part.V]) (bb S Y') (by simp[Part.V])
  simp only[de,Vk,Part.V,Cut.V]at N P;simp[vp.V,e,P,N,k,l,m,q,r,zU,qn,zu,zP,zr,jr,qP,QF,ZA,qI,jV,yt.V,Cut.V,Wc,f67]
 have t:=vL s5;have u:=fun i (hi:i<3) Y' Z=>mB xj p i (.agg p.V) Y' Z Y hi (by simp[Part.V]) (bb p Y') (by simp[Part.V])
 have w:=fun i Y Z=>Vm (JM p) (kB p i) Y Z (Jv B) (Vl p i)
 simp only[de,xj,Part.V,Cut.V]at u w;have x:i6.wrap (p.has-1)=p.has-1:=wN (by have:=Y.2.2.2.1;omega) (by have:=Y.2.2.2.1;omega);by_cases s6:h=[126]
 ·subst s6;have hm:(if 1<p.has-1 then 1 else p.has-1)=(((min (p.has-1) 1).toNat:Nat):Int):=by have:=Y.2.2.2.1;split<;>omega
  have d:=u (min (p.has-1) 1).toNat (by omega);rw[<-hm]at d;simp[vp.V,e,d,w,x,k,l,m,q,r,t,zU,qn,zu,zP,zr,jr,qP,QF,ZA,qI,jV,yt.V,Cut.V,Wc,f67]
 have y:=vL s6;by_cases s7:h=[94]
 ·subst s7;have hs3:(2:Int)<p.has->p.has=3:=by have:=Y.2.2.2.1;omega
  by_cases n:1<p.has
  ·have f:(0:Int)<p.has-1:=by omega
   by_cases C:p.n0=0
   ·have g:(p.n0==0)=true:=by simpa using C
    by_cases D:2<p.has
    ·have j:(1:Int)<p.has-1:=by omega
     have E:¬(2:Int)<p.has-1:=by have:=Y.2.2.2.1;omega
     by_cases H:p.n1=0
     ·have z:(p.n1==0)=true:=by simpa using H
      have o:Zl p=2:=by simp[Zl,n,f,D,j,E,C,H]
      have d:=u 2 (by omega);rw[show((2:Nat):Int)=2 from rfl]at d;simp[vp.V,e,x,k,l,m,q,r,t,y,n,f,D,j,E,g,z,jr];rw[zY];simp[vp.V,e,x,k,l,m,q,r,t,y,n,f,D,j,E,g,z];rw[zY];simp[vp.V,e,x,k,l,m,q,r,t,y,n,f,D,j,E,g,z];rw[zY];simp[vp.V,e,x,k,l,m,q,r,t,y,d,w,o,n,f,D,j,E,g,z,zU,qn,zu,zP,zr,jr,qP,QF,ZA,qI,jV,yt.V,Cut.V,Wc,f67]
     ·have A:=vL H;have o:Zl p=1:=by simp[Zl,n,f,D,j,C,H,A]
      have d:=u 1 (by omega);rw[show((1:Nat):Int)=1 from rfl]at d;simp[vp.V,e,x,k,l,m,q,r,t,y,n,f,D,j,g,A,jr];rw[zY];simp[vp.V,e,x,k,l,m,q,r,t,y,n,f,D,j,g,A];rw[zY];simp[vp.V,e,x,k,l,m,q,r,t,y,d,w,o,n,f,D,j,g,A,zU,qn,zu,zP,zr,jr,qP,QF,ZA,qI,jV,yt.V,Cut.V,Wc,f67]
    ·have j:¬(1:Int)<p.has-1:=by omega
     have o:Zl p=1:=by simp[Zl,n,f,D,j,C]
     have d:=u 1 (by omega);rw[show((1:Nat):Int)=1 from rfl]at d;simp[vp.V,e,x,k,l,m,q,r,t,y,n,f,D,j,g,jr];rw[zY];simp[vp.V,e,x,k,l,m,q,r,t,y,n,f,D,j,g];rw[zY];simp[vp.V,e,x,k,l,m,q,r,t,y,d,w,o,n,f,D,j,g,zU,qn,zu,zP,zr,jr,qP,QF,ZA,qI,jV,yt.V,Cut.V,Wc,f67]
   ·have F:=vL C;have o:Zl p=0:=by simp[Zl,n,f,C,F]
    have d:=u 0 (by omega);rw[show((0:Nat):Int)=0 from rfl]at d;simp[vp.V,e,x,k,l,m,q,r,t,y,n,f,F,jr];rw[zY];simp[vp.V,e,x,k,l,m,q,r,t,y,d,w,o,n,f,F,zU,qn,zu,zP,zr,jr,qP,QF,ZA,qI,jV,yt.V,Cut.V,Wc,f67]
  ·have f:¬(0:Int)<p.has-1:=by omega
   have o:Zl p=0:=by simp[Zl,n,f]
   have d:=u 0 (by omega);rw[show((0:Nat):Int)=0 from rfl]at d;simp[vp.V,e,x,k,l,m,q,r,t,y,n,f,jr];rw[zY];simp[vp.V,e,x,k,l,m,q,r,t,y,d,w,o,n,f,zU,qn,zu,zP,zr,jr,qP,QF,ZA,qI,jV,yt.V,Cut.V,Wc,f67]
 have e7:=vL s7;have Q:=fun Y Z=>Vm (JM p) (Qn p) Y Z (Jv B) (Kz B)
 simp only[de,Cut.V]at Q;simp only[jr]at J;have e1':=T;simp[vp.V,e,G,Q,k,l,m,q,r,t,y,e7,J,T,W,s3,s4,s5,s6,s7,zU,qn,zu,zP,zr,jr,qP,QF,ZA,qI,jV,yt.V,Cut.V,Wc,f67]
noncomputable def Ui (f:vp->O):zb->Option O:=qD (α:=vp) (fun c=>[.agg c.V]) vp.ok f
theorem aG:zh prog 67 (qN [.g ik] (Ui QF)):=
 yC (fn:=f67) Ga (wL func67) _ _ fun args r h=>by obtain⟨c,rfl,a,rfl⟩:=zQ h;obtain⟨r0,b,d⟩:=df c a;exact⟨by simp[f67],r0,b,d⟩
def wM:List za:=[[62,61],[60,61],[62],[60],[61],[126],[94]]
def wQ:List za->za->za×za
 |[],s=>([],s)
 |g::l,s=>if g.isPrefixOf s=true then(g,s.drop g.length)else wQ l s
def Gb(s:za):O:=.qS [str (wQ wM s).1,str (wQ wM s).2]
noncomputable abbrev Cop:Ctx:=qp prog [(131,zp false [] (Wd FT fun _ _=>True))]
theorem Mo:Gd Cop:=qT mixed ⟨aA,trivial⟩
theorem eG(s:za)(h:s.length<=zX):zM Cop f90 [str s]=some (Gb s):=by
 refine zw rfl ?_;have l:∀Y Z,zu prog Y Z 55 7 [(0,str [62,61]),(1,str [60,61]),(2,str [62]),(3,str [60]),(4,str [61]),(5,str [126]),(6,str [94])]=some (.own Z 0 7,qb Y Z (some ⟨9,1,true,qo wM⟩),Z+1):=fun Y Z=>by simp[zu,zP,zr,wM,str]
 simp[str]at l;simp[l];refine qA (fun k X Y Z=>X 0=str s/\X 8=.own 0 0 7/\X 9=int 7/\X 10=int k/\Y 0=some ⟨9,1,true,qo wM⟩/\wQ wM s=wQ (wM.drop k) s) 7 ⟨by simp,by simp,by simp,by simp,by simp,by simp⟩ ?_;rintro k X Y Z p ⟨f,g,i,b,m,a⟩;by_cases c:k<7
 ·have e:k<wM.length:=c;have j:wM[k].length<=zX:=by
   have:∀q∈wM,q.length<=zX:=by decide
   exact this _ (zz e)
  have n:=fun Y Z=>sB s wM[k] Y Z h j
  have o:=wP k;have d:(k:Int)<7:=by omega
  rw[zj e]at a;simp only[wQ]at a;by_cases Y:(wM[k]).isPrefixOf s=true
  ·rw[zl Y]at a;simp[f,g,i,b,m,d,c,e,n,Y,o,Gb,a,ja,f90]
  ·rw[zg Y]at a;have Y':(wM[k]).isPrefixOf s=false:=Bool.eq_false_iff.2 Y;simp[f,g,i,b,m,d,c,e,n,Y',o];exact⟨by omega,a⟩
 ·obtain rfl:k=7:=by omega
  rw[show wM.drop 7=[]from rfl]at a;simp only[wQ]at a;simp[f,g,i,b,Gb,a,ja, f90]
theorem dh:zh prog 90 (zp false [] (L4 Gb)):=
 XV Mo func90 false [] fun l Y=>⟨by simp[f90],_,eG l Y,wy _⟩
def im(l:za):Bool:=l.isEmpty
theorem di:zh prog 88 (zp false [] (FS im)):=
 XV kM func88 false [] fun l Y=>⟨by simp[f88],_,zw rfl (by simp[ja,im,f88]),wy _⟩
def Xl:Nat->List za->Int
 |_,[]=>-1
 |k,x::l=>if x=[]then k else Xl (k+1) l
def bd:O:=.fn (.func 88) [] []
noncomputable def FIx:zb->Option O:=qD (α:=List za) (fun l=>[.sl 1 (qo l),bd]) vm (fun l=>int (Xl 0 l))
noncomputable abbrev RM:Ctx:=qp prog [(88,zp false [] (FS im))]
theorem Gc:Gd RM:=qT mixed ⟨di,trivial⟩
theorem aH(l:List za)(h:vm l):zM RM f126 [.sl 1 (qo l),bd]=some (int (Xl 0 l)):=by
 refine zw rfl ?_;obtain⟨o,e⟩:=h;unfold zX at o;simp[bd];refine qA (fun k X Y Z=>X 0=.sl 1 (qo l)/\X 1=bd/\X 7=int l.length/\X 8=int k/\Xl 0 l=Xl k (l.drop k)) l.length ⟨by simp,by simp[bd],by simp,by simp,by simp⟩ ?_;rintro k X Y Z p ⟨f,g,i,j,b⟩;by_cases a:k<l.length
 ·have m:=wP k;have n:=fun Y' Z=>vD im l[k] Y' Z (e _ (zz a))
  rw[zj a]at b;simp only[Xl]at b;by_cases d:l[k]=[]
  ·rw[zl d]at b;have c:im l[k]=true:=by simpa[im]using d
   simp[f,g,i,j,bd,a,n,c,m,b,ja,f126]
  ·rw[zg d]at b;have c:im l[k]=false:=by simpa[im]using d
   simp[f,g,i,j,bd,a,n,c,m];exact⟨a,b⟩
 ·obtain rfl:k=l.length:=by omega
  rw[zE]at b;simp only[Xl]at b;simp[f,g,i,j,b,ja,f126]
theorem CB:∀a b:List za,[O.sl 1 (qo a),bd]=[O.sl 1 (qo b),bd]->a=b:=fun a b e=>by
 simp only[zn,z7]at e;injection e with _ e
 exact ki e
theorem Xm:zh prog 126 (zp false [] FIx):=
 XV Gc func126 false [] fun l Y=>⟨by simp[f126],_,aH l Y,wy _⟩
theorem CC(l:List za)(Y:Hp)(Z id:Nat)(h:vm l)(b:Y id=some (Ks l)):zp false [] FIx [.own id 0 l.length,bd] Y Z=some (int (Xl 0 l),Y,Z):=by
 have c:(qo l).take l.length=qo l:=qv (by simp);refine yg (show zt Y [.own id 0 l.length,bd]=some ([.sl 1 (qo l),bd],qb Y id none) by have:Y id=some ⟨9,1,true,qo l⟩:=b;simp[bd,this,c]) (qj (V:=fun l:List za=>[O.sl 1 (qo l),bd]) (a:=l) CB h) (.inl rfl)
def qY(l:List za):List za:=l.filter fun x=>!im x
theorem fB:∀(l:List za) (k:Nat),(Xl k l=-1/\qY l=l)\/∃i,∃h:i<l.length,Xl k l=((k+i:Nat):Int)/\im l[i]=true/\qY (l.take i)=l.take i
 |[],k=>.inl ⟨rfl,rfl⟩
 |x::l,k=>by
  by_cases a:x=[]
  ·exact .inr ⟨0,by simp,by simp[Xl,a],by simp[im,a],by simp[qY]⟩
  ·have b:im x=false:=by simpa[im]using a
   rcases fB l (k+1)with⟨c,d⟩|⟨i,h,c,d,e⟩
   ·exact .inl ⟨by simp[Xl,a,c],by simp only[qY,List.filter_cons,b];simpa[qY]using d⟩
   ·refine .inr ⟨i+1,by simpa using h,by simp only[Xl,zg a,c];congr 1;omega,by simpa using d,?_⟩;simp only[xS,qY,List.filter_cons,b];simpa[qY]using e
theorem WS{l:List za}{j:Nat}(h:j<l.length):qY (l.take (j+1))=if im l[j]=true then qY (l.take j)else qY (l.take j)++[l[j]]:=by rw[qR h];simp only[qY,List.filter_append,List.filter_cons,List.filter_nil];cases im l[j]<;>simp
theorem X1(a b:List za):qo (a++b)=qo a++qo b:=by simp[qo]
theorem uH{l:List za}{i:Nat}(h:i<l.length):qo l=qo (l.take i)++[str l[i]]::qo (l.drop (i+1)):=by rw[<-Js,<-X1,<-zj h,Nu]
noncomputable abbrev Uj:Ctx:=qp prog [(88,zp false [] (FS im)),(126,zp false [] FIx)]
theorem Mp:Gd Uj:=qT mixed ⟨di,Xm,trivial⟩
theorem Xn:zh prog 86 (kE Uj f86):=KZ Mp func86
def RN(l:List za)(id:Nat)(Y:Hp)(Z:Nat)(x:O)(Y':Hp)(Z':Nat):Prop:=x=.own id 0 (qY l).length/\Z'=Z/\(∃a,Y' id=some ⟨9,1,true,qo (qY l)++a⟩)/\∀j,j≠id->Y' j=Y j
theorem pM(l:List za)(E:Hp)(R id:Nat)(h:vm l)(F:E id=some (Ks l)):∃x Y' Z',kE Uj f86 [.own id 0 l.length,bd] E R=some (x,Y',Z')/\RN l id E R x Y' Z':=by
 unfold kE;rw[zl (by simp[f86])];refine wX rfl ?_;have n:=CC l E R id h F;obtain⟨hl,U⟩:=h;unfold zX at hl;simp only[bd]at n;have G:E id=some ⟨9,1,true,qo l⟩:=F;rcases fB l 0 with⟨W,H⟩|⟨i,S,W,H,e3⟩
 ·rw[W]at n;simp[bd,n,RN,H,f86];exact⟨[],by simpa using G⟩
 ·rw[W]at n;have hi1:((i:Int)==-1)=false:=by simp
  have w:=wP i;simp[bd,n,hi1,w];refine qA (fun k X Y Z=>X 0=.own id 0 l.length/\X 1=bd/\X 5=int (qY (l.take (i+1+k))).length/\X 6=int ((i:Int)+1+k)/\Z=R/\(∀j,j≠id->Y j=E j) /\
    ∃a,Y id=some ⟨9,1,true,qo (qY (l.take (i+1+k)))++a++qo (l.drop (i+1+k))⟩/\(qY (l.take (i+1+k))).length+a.length=i+1+k/\0<a.length/\∀c∈a,c.length=1) (l.length-(i+1))
   ⟨by simp,by simp[bd],by simp[WS S,H,e3];omega,by simp,rfl,fun _ _=>rfl,[[str l[i]]],by simp[WS S,H,e3,G];exact uH S,by simp[WS S,H,e3];omega,by simp,by simp⟩ ?_
  rintro k X Y Z hk ⟨h0,h1,I,h6,rfl,z,a,s,A,J,B⟩;obtain⟨j,hj⟩:=yX (i+1+k);have C:X 6=int j:=by rw[h6];congr 2;omega
  rw[hj]at I s A;by_cases g:j<l.length
  ·have hc:=fun Y' Z=>vD im l[j] Y' Z (U _ (zz g))
   have K:=wP j;have hww:=wY (((qY (l.take j)).length:Int)+1);have u:(qo (qY (l.take j))++a++qo (l.drop j))[j]?=some [str l[j]]:=by rw[qQ (by simp;omega),zj g,Js];rw[show j-(qo (qY (l.take j))++a).length=0 by simp;omega];rfl
   have o:(qo (qY (l.take j))++a++qo (l.drop j)).length=l.length:=by simp;omega
   obtain⟨d,f⟩:=yX (qo (qY (l.take j))++a++qo (l.drop j));rw[f]at s u o;have p:∀h:j<d.length,d[j]=[str l[j]]:=fun h=>(ze.1 u).2
   have t:=WS g;have L:i+1+(k+1)=j+1:=by omega
   have w:(qY (l.take j)).length<l.length:=by omega
   cases T:im l[j]
   ·rw[T,zg (by simp)]at t;obtain⟨y,b,rfl,D⟩:∃y b,a=[y]::b/\∀c∈b,c.length=1:=by
     cases a with
     |nil=>simp at J
     |cons x b=>
      have:=B x (by simp)
      match x,this with
      |[y],_=>exact⟨y,b,rfl,fun c hc=>B c (by simp[hc])⟩
    have hg3:∀h:(qY (l.take j)).length<d.length,d[(qY (l.take j)).length]=[y]:=fun h=>by
     have:d[(qY (l.take j)).length]?=some [y]:=by rw[<-f,qt,qQ (by simp)];simp
     exact(ze.1 this).2
    have M:d.set (qY (l.take j)).length [str l[j]]=qo (qY (l.take j))++([str l[j]]::b++qo (l.drop j)):=by rw[<-f,qt,List.set_append_right _ _ (by simp)];simp
    simp only[zd]at A;simp[h0,h1,I,C,bd,g,s,p,hc,T,K,hww,w,o,hg3,M,L,t];refine⟨by omega,by omega,fun q N=>by rw[wA _ _ _ _ N];exact z q N,b++[[str l[j]]],?_,by simp;omega,by simp,?_⟩
    ·rw[X1];simp;rw[zj g,Js]
    ·intro c hc;rcases wg.1 hc with hc|hc
     ·exact D c hc
     ·simp at hc;subst hc;rfl
   ·rw[T,zl rfl]at t;simp[h0,h1,I,C,bd,g,s,p,hc,T,K,L,t,o];refine⟨by omega,by omega,z,a++[[str l[j]]],?_,by simp;omega,by simp,?_⟩
    ·rw[<-f];simp;rw[zj g,Js]
    ·intro c hc;rcases wg.1 hc with hc|hc
     ·exact B c hc
     ·simp at hc;subst hc;rfl
  ·obtain rfl:j=l.length:=by omega
   rw[js]at I s A;rw[zE,Cj,yo]at s;have hn1:¬(l.length:Int)<l.length:=by omega
   have v:(qY l).length<=l.length:=by omega
   have m:l.length-(qY l).length=a.length:=by omega
   have hcl:Yq prog Y Z 55 (.own id (qY l).length a.length)=some (.qS [],qb Y id (some ⟨9,1,true,qo (qY l)++List.replicate a.length [str []]⟩),Z):=by
    have ht:(qo (qY l)++a).take (qY l).length=qo (qY l):=by rw[List.take_append_of_le_length (by simp),uA]
    have hd:(qo (qY l)++a).drop ((qY l).length+a.length)=[]:=VW (by simp);simp[Yq,s,ht,hd,J,str]
   have hs1:∀Y:Hp,Y id=some ⟨9,1,true,qo (qY l)++a⟩->yL prog Y 55 (.own id 0 l.length) (some (some (int (qY l).length))) none=some (.own id (qY l).length a.length):=fun Y F=>by
    have:¬l.length=(qY l).length:=by omega
    simp[yL,F,je,v,m,this];intro e;rw[e]at m⊢;simp at m;simp[m]
   have hs2:∀(Y:Hp) (r:List zb),Y id=some ⟨9,1,true,r⟩->yL prog Y 55 (.own id 0 l.length) none (some (some (int (qY l).length)))=some (.own id 0 (qY l).length):=fun Y r F=>by simp[yL,F,je,v]
   have P:=hs1 Y s;have Q:=hs2 (qb Y id (some ⟨9,1,true,qo (qY l)++List.replicate a.length [str []]⟩)) _ (by simp;rfl);simp[h0,h1,I,C,bd,s,P,Q,hcl,f86];exact⟨rfl,rfl,⟨_,by simp;rfl⟩,fun q N=>by rw[wA _ _ _ _ N];exact z q N⟩
end Go.Q
