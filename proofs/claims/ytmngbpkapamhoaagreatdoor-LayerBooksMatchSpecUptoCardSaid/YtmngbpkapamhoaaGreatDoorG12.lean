/- Lemmas. -/
import Derived.Test.YtmngbpkapamhoaaGreatDoorG11
set_option maxRecDepth 100000
set_option maxHeartbeats 4000000
open Go Proofs Proofs.YtmngbpkapamhoaaGreatDoor Proofs.Tryz RowKit AM SpanLaw Q Zz
namespace Go.Q
noncomputable abbrev zdB:Ctx:=zV prog [(178,GV fun v=>int v.check),(177,hP (mi xz)),(179,hP (Nb zA))]
theorem T7:AM.Good zdB (fun g=>[179].contains g):=qC mixed ⟨Bo,by simp,dm,by simp,pI zA,fun _=>zu _ _,trivial⟩
theorem fk(c:qO)(h:c.cb<=zA):zv zdB f145 [.agg c.V]=some (int (Zx c.op c.jh)):=by
 have P:=Wh c;obtain⟨l,p⟩:=wZ c.jh;obtain⟨op,r⟩:=wZ c.op;have U:=jw l;rw[p]at P;rw[p,r];unfold zA at h;refine zn rfl ?_;by_cases o:(100:Int)<l.length
 ·have Q:Zx op l=2:=by unfold Zx;rw[zd o]
  simp[p,o,Q,f145]
 have Q:Zx op l=Xs op none l:=by unfold Zx;rw[ze o]
 rw[Q];simp[p,o];refine zL (fun k σ Y Z=>σ 1=.ref 0 0 0/\σ 11=.sl 5 (l.map qu.V)/\σ 12=int l.length/\σ 13=int k/\1<=Z/\Y 0=some ⟨53,7,false,[c.V]⟩/\Xs op none l=Xs op (Wj l k) (l.drop k)) l.length
  ⟨by simp,by simp,by simp,by simp,by simp,by simp,by simp[Wj]⟩ ?_
 rintro k σ Y Z hk ⟨s,b,d,e,hnx,t,f⟩;have u:¬0=Z:=by omega
 by_cases a:k<l.length
 ·have hm:=kY (zi a);have H:=qe k;have g:=fun Y Z=>JW (fun v=>int v.check) l[k] Y Z (by unfold zA;omega)
  rw[zc a]at f;simp only[Xs]at f;have E:Wj l (k+1)=some l[k]:=by simp[Wj,a]
  have i:EF op l[k]=(l[k].kind==0||xz op&&l[k].kind != 2):=rfl;by_cases q:l[k].check=0
  case neg=>rw[ze q]at f;have R:=vX q;simp[p,r,s,t,u,b,d,e,a,g,R,f,f145]
  rw[zd q]at f;cases w:EF op l[k]
  case true=>
   rw[w,zd rfl]at f;rw[w]at i;by_cases I:l[k].kind=0
   ·simp[p,r,s,t,u,b,d,e,a,g,q,I,f,f145]
   ·have F:=jN I;rw[F,yN]at i;have n:=i.symm;rw[zE]at n;simp[p,r,s,t,u,b,d,e,a,g,q,F,n.1,n.2,f,f145]
  rw[w,ze (by simp)]at f;rw[w]at i;have z:=i.symm;rw[wP]at z;obtain⟨B,W⟩:=z;have S:xz op=false\/(l[k].kind != 2)=false:=by
   cases hi:xz op
   ·exact .inl rfl
   ·rw[hi,kv]at W;exact .inr W
  by_cases I:k=0
  ·subst I;have Y0:cV (Wj l 0) l[0]=false:=rfl;rw[Y0,ze (by simp)]at f;have m:Xs op none l=Xs op (Wj l 1) l.tail:=by rw[f,show Wj l 1=some l[0]from E];simp
   cases hi:xz op
   ·simp[p,r,s,t,u,b,d,e,a,g,q,B,hi,H];exact⟨by omega,m⟩
   ·have G:(l[0].kind != 2)=false:=S.resolve_left (by rw[hi];simp);simp[p,r,s,t,u,b,d,e,a,g,q,B,hi,G,H];exact⟨by omega,m⟩
  ·obtain⟨j,rfl⟩:∃j,k=j+1:=⟨k-1,by omega⟩;have C:j<l.length:=by omega
   have hmj:=kY (zi C);have J:IntKind.i64.wrap ((j:Int)+1-1)=(j:Int):=by rw[wS (by omega) (by omega)];omega
   have x:=wq (j:Int);have K:((j:Int)+1).toNat=j+1:=by omega
   have L:0<(j:Int)+1:=by omega
   have M:0<=(j:Int)+1:=by omega
   have N:(j:Int)+1<l.length:=by omega
   have y:=fun Y Z=>KO zA l[j+1] l[j] Y Z ⟨by unfold zA;omega,by unfold zA;omega,by unfold zA;omega⟩
   have T:cV (Wj l (j+1)) l[j+1]=decide (yt l[j+1] l[j]<=0):=by simp only[Wj,cV];simp[C,E3]
   rw[T]at f;by_cases D:yt l[j+1] l[j]<=0
   ·have A:decide (yt l[j+1] l[j]<=0)=true:=by simpa using D
    rw[zd A]at f;cases hi:xz op
    ·simp[p,r,s,t,u,b,d,e,a,C,g,q,B,hi,H,J,x,K,L,M,N,y,D,f,f145]
    ·have G:(l[j+1].kind != 2)=false:=S.resolve_left (by rw[hi];simp);simp[p,r,s,t,u,b,d,e,a,C,g,q,B,hi,G,H,J,x,K,L,M,N,y,D,f,f145]
   ·have A:¬decide (yt l[j+1] l[j]<=0)=true:=by simpa using D
    rw[ze A]at f;have X:=wq ((j:Int)+1+1);have m:Xs op none l=Xs op (Wj l (j+1+1)) (l.drop (j+1+1)):=by rw[f,E]
    cases hi:xz op
    ·simp[p,r,s,t,u,b,d,e,a,C,g,q,B,hi,X,J,x,K,L,M,N,y,D];exact⟨by omega,m⟩
    ·have G:(l[j+1].kind != 2)=false:=S.resolve_left (by rw[hi];simp);simp[p,r,s,t,u,b,d,e,a,C,g,q,B,hi,G,X,J,x,K,L,M,N,y,D];exact⟨by omega,m⟩
 ·obtain rfl:k=l.length:=by omega
  rw[zp]at f;simp only[Xs]at f;simp[s,b,d,e,f,f145]
theorem dn:zg prog 145 (GC fun c=>int (Zx c.op c.jh)):=
 yy (fn:=f145) T7 (qX func145) false [] _ fun args r h=>by obtain⟨c,rfl,a,rfl⟩:=Wu h;exact⟨zI (zl 1) (by decide),_,fk c a.1,z8 _⟩
noncomputable abbrev zdC:Ctx:=zV prog [(180,hP (bz EC))]
theorem T8:Gd zdC:=zW mixed ⟨iu,trivial⟩
theorem dp(c:qO)(h:c.cb<=zA):zv zdC f146 [.agg c.V]=some (int (Jw c.op c.pat)):=by
 have q:=Wh c;obtain⟨s,hs⟩:=wZ c.pat;obtain⟨op,r⟩:=wZ c.op;rw[hs]at q;rw[hs,r];unfold zA at h;refine zn rfl ?_;by_cases a:(500:Int)<s.length
 ·have b:Jw op s=2:=by unfold Jw;rw[zd a]
  simp[hs,a,b,f146]
 have l:=fun Y Z=>ZM EC s Y Z (by unfold zA;omega)
 simp only[EC]at l;have b:Jw op s=if wc 32 126 s=true then(if op=11 then(QZ s).2 else 0)else 1:=by unfold Jw;rw[ze a]
 simp[hs,a];refine zL (fun k σ Y Z=>σ 1=.ref 0 0 0/\σ 12=int s.length/\σ 13=int k/\Y 0=some ⟨53,7,false,[c.V]⟩/\wc 32 126 s=wc 32 126 (s.drop k)) s.length ⟨by simp,by simp,by simp,by simp,by simp⟩ ?_;rintro k σ Y Z u ⟨n,d,e,o,i⟩;by_cases f:k<s.length
 ·have t:=qe k;rw[xJ f]at i;have j:=Vz 32 126 s[k];simp only[xF]at j;cases p:pr 32 126 s[k]
  ·have i:wc 32 126 s=false:=by rw[i,p];rfl
   rw[i,ze (by simp)]at b;simp[n,o,hs,d,e,f,b,j,p,f146]
  ·simp[n,o,hs,d,e,f,j,p,t];exact⟨f,by rw[i,p];rfl⟩
 ·obtain rfl:k=s.length:=by omega
  have i:wc 32 126 s=true:=by rw[i,zp];rfl
  rw[i,zd rfl]at b;by_cases g:op=11
  ·rw[zd g]at b;subst g;simp[n,o,hs,r,d,e,l,b,f146]
  ·rw[ze g]at b;have m:=jN g;simp[n,o,hs,r,d,e,m,b,f146]
theorem bF:zg prog 146 (GC fun c=>int (Jw c.op c.pat)):=
 yy (fn:=f146) T8 (qX func146) false [] _ fun args r h=>by obtain⟨c,rfl,a,rfl⟩:=Wu h;exact⟨zI (zl 1) (by decide),_,dp c a.1,z8 _⟩
theorem T9{c:qO}(b:Zw c=false)(a:EG c=false):Jw c.op c.pat=0:=by
 have g:∀op,op≠11->Jw op []=0:=fun op h=>by simp[Jw,h]
 have k:w1F c=false/\w5F c=false:=by unfold Zw at b;simp only[wP]at b;exact⟨b.1.1.1.1.1.1,b.1.1.2⟩
 obtain⟨i,j⟩:=k;unfold EG at a;cases d:c.kind==4
 ·simp only[w1F,d,Bool.not_false,kv,wP]at i;obtain⟨⟨⟨_,l⟩,_⟩,m⟩:=i;have n:c.op=0:=by simpa using l
  have f:c.pat=[]:=by simpa using m
  rw[n,f];exact g 0 (by decide)
 ·rw[d,kv]at a;simp only[w5F,d,a,kv,Bool.not_false]at j;have f:c.pat=[]:=by simpa using j
  rw[f];refine g _ fun e=>?_
  rw[e]at a;revert a;decide
noncomputable abbrev zdD (n:Nat):Ctx:=zV prog [(101,hP (FC (fun c=>int c.fault) n)),(144,GC fun c=>wb (pJ c)),(75,hP (FS wy)),(145,GC fun c=>int (Zx c.op c.jh)),(146,GC fun c=>int (Jw c.op c.pat))]
theorem iv(n:Nat)(c:qO)(h:c.cb<=zA/\c.cb<=n+1):zv (zdD n) f101 [.agg c.V]=some (int c.fault):=by
 have hcb:=Wh c;have hl1:=vp c.args;obtain⟨K,hb⟩:=h;have j:=gS c;have b:=fun Y Z=>vx (fun c=>wb (pJ c)) c Y Z K
 have v:=fun Y Z=>vx (fun c=>int (Zx c.op c.jh)) c Y Z K
 have D:=fun Y Z=>vx (fun c=>int (Jw c.op c.pat)) c Y Z K
 have E:c.attr.length<=zA:=by omega
 have F:c.name.length<=zA:=by omega
 unfold zA at K;refine zn rfl ?_;refine y1 (fun st=>st.σ 1=.ref 0 0 0/\st.Y 0=some ⟨53,7,false,[c.V]⟩/\st.Z=1) (by simp) ?_;rintro⟨σ,Y,Z⟩ ⟨d,e,l⟩;simp only at d e l;subst l;have w:Xk c=!jG c.kind 1 5:=rfl;refine y1 (fun st=>st.σ 1=.ref 0 0 0/\st.Y 0=some ⟨53,7,false,[c.V]⟩/\st.Z=1/\Xk c=false/\Io c=false/\Zw c=false/\X3 c=false) ?_ ?_
 ·by_cases L:c.kind<1
  ·have x:Xk c=true:=by rw[w];simp[jG];omega
   simp[d,e,L,j,vA,x,f101]
  by_cases Q:5<c.kind
  ·have x:Xk c=true:=by rw[w];simp[jG];omega
   simp[d,e,L,Q,j,vA,x,f101]
  have i:Xk c=false:=by rw[w];simp[jG];omega
  have y:=Of c (by simp[jG];omega);rw[y]at b;by_cases t:c.kind=4
  ·have z:Io c=!jG c.op 1 12:=by unfold Io;rw[t];rfl
   have a:X3 c=!wy c.attr:=by unfold X3;rw[t];simp
   by_cases G:c.op<1
   ·have x:Io c=true:=by rw[z];simp[jG];omega
    simp[d,e,t,G,j,vA,x,f101]
   by_cases M:12<c.op
   ·have x:Io c=true:=by rw[z];simp[jG];omega
    simp[d,e,t,G,M,j,vA,x,f101]
   have f:Io c=false:=by rw[z];simp[jG];omega
   cases g:Zw c
   case true=>simp[d,e,t,G,M,b,g,j,vA,i,f,f101]
   cases o:wy c.attr
   ·rw[o]at a;simp[d,e,t,G,M,b,g,E,o,j,vA,i,f,a,f101]
   ·rw[o]at a;simp[d,e,t,G,M,b,g,E,o,i,f,a]
  have p:=jN t;have f:Io c=false:=by unfold Io;rw[p];rfl
  cases g:Zw c
  case true=>simp[d,e,L,Q,p,b,g,j,vA,i,f,f101]
  by_cases q:c.kind=5
  ·have a:X3 c=!wy c.name:=by unfold X3;rw[q];simp
   cases o:wy c.name
   ·rw[o]at a;simp[d,e,q,b,g,F,o,j,vA,i,f,a,f101]
   ·rw[o]at a;simp[d,e,q,b,g,F,o,i,f,a]
  ·have u:=jN q;have a:X3 c=false:=by unfold X3;rw[p,u];rfl
   simp[d,e,L,Q,p,u,b,g,i,f,a]
 clear d e σ Y b;rintro⟨σ,Y,Z⟩ ⟨d,e,l,R,S,N,T⟩;simp only at d e l;subst l;by_cases H:Zx c.op c.jh=0
 case neg=>have U:=vX H;simp[d,e,v,H,U,j,vA,R,S,N,T,f101]
 by_cases I:Jw c.op c.pat=0
 case neg=>
  have W:=vX I;have c6:EG c=true:=by cases hx:EG c;exact absurd (T9 N hx) I;rfl
  simp[d,e,v,D,H,I,W,j,vA,R,S,N,T,c6,f101]
 have hh:vA c=0:=by simp[vA,R,S,N,T,H,I]
 have J:c.fault=xE c.args:=by rw[j,zd hh]
 simp[d,e,v,D,H,I];refine zL (fun k σ Y Z=>σ 64=.sl 7 (c.args.map qO.V)/\σ 65=int c.args.length/\σ 66=int k/\xE c.args=xE (c.args.drop k)) c.args.length ⟨by simp,by simp,by simp,by simp⟩ ?_;clear d e σ Y;rintro k σ Y Z hk ⟨A,B,C,r⟩;by_cases s:k<c.args.length
 ·have hm:=xL (zi s);have hw:=qe k;have m:=fun Y Z=>Qf (fun c=>int c.fault) n c.args[k] Y Z ⟨by unfold zA;omega,by omega⟩
  rw[X4 s]at r;by_cases P:c.args[k].fault=0
  ·rw[zd P]at r;simp[A,B,C,s,m,P,hw];exact⟨by omega,r⟩
  ·rw[ze P]at r;have X:=vX P;simp[A,B,C,s,m,X,J,r,f101]
 ·obtain rfl:k=c.args.length:=by omega
  rw[zp]at r;have r:xE c.args=0:=by rw[r];rfl
  simp[A,B,C,J,r,f101]
theorem fl:∀n,zg prog 101 (hP (FC (fun c=>int c.fault) n)):=by
 intro n
 induction n with
 |zero=>exact mL ⟨_,func101,by kernel_rfl,by kernel_rfl⟩
 |succ n a=>
  have b:Gd (zdD n):=zW mixed ⟨a,sY,Z1,dn,bF,trivial⟩;exact yy (fn:=f101) b (qX func101) false [] _ fun args r h=>by obtain⟨c,rfl,d,rfl⟩:=Wu h;exact⟨zI (zl 1) (by decide),_,iv n c d,z8 _⟩
noncomputable abbrev zim:Ctx:=zV prog [(101,GC fun c=>int c.fault),(100,GC fun c=>wb (Jz (c.rp 1)))]
theorem WX:zg prog 53 (GC fun c=>int c.check):=
 yy (fn:=f53) (zW mixed ⟨fl zA,Cp,trivial⟩:AM.Good zim _) (qX func53) false [] _ fun args r h=>by
  obtain⟨c,rfl,a,rfl⟩:=Wu h;have b:=fun Y Z=>vx (fun c=>int c.fault) c Y Z a.1
  have d:=fun Y Z=>vx (fun c=>wb (Jz (c.rp 1))) c Y Z a.1
  have f:=Oe c;refine⟨zI (zl 1) (by decide),_,zn rfl ?_,z8 _⟩;unfold qO.check;rw[<-f];cases e:Jz (c.rp 1)
  ·simp[b,d,e,f53]
  ·simp[b,d,e,f53]
end Go.Q
namespace Go.Q
open Go.RowKit Go.AM Go.PrLaw
theorem OM(l:List qO)(h:∀x∈l,dH x):(Lib.join (l.map qO.show) [44,32]).length<=30*iG l:=by
 have j:=Jq [44,32] (l.map qO.show);refine zI j ?_;clear j
 induction l with
 |nil=>simp
 |cons v l c=>
  have a:=gV v (h v (by simp));have b:=c fun x d=>h x (by simp[d])
  simp only[z6,yo,iG,zx,qj]at b⊢;omega
noncomputable def FCw (n:Nat):zb->Option O:=qd (α:=qO) (fun c=>[.agg c.V]) (fun c=>dH c/\c.cb<=zA/\c.cb<=n) (fun c=>str c.show)
theorem Fv(n:Nat)(c:qO)(Y:Hp)(Z:Nat)(h:dH c/\c.cb<=zA/\c.cb<=n):hP (FCw n) [.agg c.V] Y Z=some (str c.show,Y,Z):=
 QL c _ _ (by simp only[zC,Yb]) (fun a b e=>by simp only[zj,zG,O.agg.injEq]at e;exact xx e) h (.inl rfl)
theorem Ua{f:FuncId}(a:∃fn,prog.funcs[f]?=some fn/\(fn.name== "runtime.NumGoroutine")=false/\fn.body.isNone=false):yY False prog f (hP (FCw 0)):=by
 refine⟨a,fun args Y Z r Y' Z' h=>?_⟩
 try unfold hP at h
 unfold zh at h;split at h
 ·split at h
  ·rename_i b;obtain⟨c,_,d,_⟩:=zO b;have:=XU c;omega
  ·cases h
 ·cases h
abbrev qcw(n:Nat):List Nat:=[102,103,104,105]
noncomputable abbrev Ccw (n:Nat):Ctx:=zV prog [(54,hP (FCw n)),(11,hJn),(102,hP (mi ZQ)),(103,hP FOw),(104,hP FQr),(105,hP FVt)]
theorem Cr(n:Nat)(c:qO)(h:dH c/\c.cb<=zA/\c.cb<=n+1):zv (Ccw n) f54 [.agg c.V]=some (str c.show):=by
 obtain⟨e,I,hcn⟩:=h;have hcbe:=Wh c;have hl1:=vp c.args;have hkd:=e.kind;have K:=OM c.args e.args;have v:=fun Y Z=>pF c.pat Y Z (by omega)
 have w:=fun Y Z=>Tu c.jh Y Z e.jh (by omega)
 have L:=W9 c.pat;have M:=gU c.jh e.jh;have N:=BE c.op;unfold zA at I;refine zn rfl ?_;refine y1 (fun st=>st.σ 1=.ref 0 0 0/\st.Z=1/\st.Y 0=some ⟨53,7,false,[c.V]⟩) (by simp) ?_;rintro⟨σ,Y,Z⟩ ⟨a,y,b⟩;simp only at a y b;subst y;refine y1 (fun st=>st.σ 1=.ref 0 0 0/\st.Z=1/\st.Y 0=some ⟨53,7,false,[c.V]⟩/\st.σ 3=.nil) (by simp[a,b]) ?_;clear a b σ Y;rintro⟨σ,Y,Z⟩ ⟨a,y,b,z⟩;simp only at a y b z;subst y;refine y1 (fun st=>st.σ 1=.ref 0 0 0/\st.Y 0=some ⟨53,7,false,[c.V]⟩/\(∀m,st.σ 3≠.own 0 0 m)/\qN st.Y st.Z 9 1 (st.σ 3) (zy (c.args.map qO.show))) ?_ ?_
 ·simp[a,b];refine zL (fun k σ Y Z=>σ 1=.ref 0 0 0/\1<=Z/\Y 0=some ⟨53,7,false,[c.V]⟩/\σ 8=.sl 7 (c.args.map qO.V)/\σ 9=int c.args.length/\σ 10=int k/\(∀m,σ 3≠.own 0 0 m)/\qN Y Z 9 1 (σ 3) (zy ((c.args.map qO.show).take k))) c.args.length ⟨by simp[a],by simp,b,by simp,by simp,by simp,by simp[z],.inl ⟨by simp[z],rfl⟩⟩ ?_;clear a b z σ Y;rintro k σ Y Z hkl ⟨a,hnx,b,A,B,C,f,i⟩;by_cases p:k<c.args.length
  ·have hw:=qe k;have l:=zi p;have D:=xL l;have E:=e.args _ l;have H:=Q2 (c.args.map qO.show) k (by simpa using p);rw[Yp]at H;obtain⟨x,hx⟩:=wZ (c.args[k]);rw[hx]at D E H;obtain⟨ys,F⟩:=wZ (zy ((c.args.map qO.show).take k));have hyl:ys.length<=268435456:=by rw[<-F];simp;omega
   rw[F]at i H;have q:=fun Y Z=>Fv n x Y Z ⟨E,by unfold zA;omega,by omega⟩
   have Q:=i.more (some ⟨53,7,false,[x.V]⟩);have R:=qN.yx (P:=prog) (t:=38) (c:=[str x.show]) Q Jn mI oa ob rfl (by omega) (by unfold maxLen;omega) (by omega);have T:=fun Y'=>yr i Y' 0 f
   simp[a,A,B,C,p,hx,q,R,hw,zt,zJ,zr];exact⟨by omega,by simp[T,show¬0=Z by omega,show¬0=Z+1 by omega,b],by rw[H];simpa using qN.after⟩
  ·obtain rfl:k=c.args.length:=by omega
   rw[zZ (by simp)]at i;simp[a,A,B,C];exact⟨b,f,i⟩
 clear a b z σ Y;rintro⟨σ,Y,Z⟩ ⟨a,b,f,i⟩;simp only at a b f i;obtain⟨J,hJ⟩:=wZ (Lib.join (c.args.map qO.show) [44,32]);have r:=fun Z=>oL [44,32] i (by simp;omega) (by omega) Z
 rw[hJ]at r K;have m1:1+J.length<=maxLen:=by unfold maxLen;omega
 have m2:J.length+1+1<=maxLen:=by unfold maxLen;omega
 refine y1 (fun st=>st.σ 1=.ref 0 0 0/\st.Y 0=some ⟨53,7,false,[c.V]⟩/\st.σ 6=str ([40]++(J++[41]))) (by simp[a,b,r,m1,m2]) ?_;clear a b f i r σ Y Z;rintro⟨σ,Y,Z⟩ ⟨a,b,h6⟩;simp only at a b h6;by_cases s:c.kind=4
 ·have U:c.show=Q0 c:=by rw[Ye,zd s]
  obtain⟨o1,o2⟩:=e.op s;have u:=fun Y Z=>Tv c.op Y Z ⟨by omega,o2⟩
  by_cases g:c.op=1
  ·have D:5+c.attr.length<=maxLen:=by unfold maxLen;omega
   have d:c.show=[104,97,115,32,46]++c.attr:=by rw[U,Q0,zd g]
   simp[a,b,s,g,D,d,f54]
  ·have o:(c.op==1)=false:=qQ.2 g;obtain⟨S,W⟩:=wZ (nK c.op);rw[W]at u N;have n1:1+c.attr.length<=maxLen:=by unfold maxLen;omega
   have n2:c.attr.length+1+1<=maxLen:=by unfold maxLen;omega
   have n3:c.attr.length+1+1+S.length<=maxLen:=by unfold maxLen;omega
   have n4:c.attr.length+(S.length+1)+1+1<=maxLen:=by unfold maxLen;omega
   cases j:ZQ c.op
   ·obtain⟨V,G⟩:=wZ (KZ c.jh);rw[G]at w M;have d:c.show=[46]++(c.attr++([32]++(S++([32]++V)))):=by rw[U,Q0,ze g,pj,j,W,G];rfl
    have X:c.attr.length+(S.length+1+1)+1+V.length<=maxLen:=by unfold maxLen;omega
    simp[a,b,s,o,j,u,w,n1,n2,n3,n4,X,d,f54]
   ·obtain⟨V,G⟩:=wZ (Z2 c.pat);rw[G]at v L;have d:c.show=[46]++(c.attr++([32]++(S++([32]++V)))):=by rw[U,Q0,ze g,pj,j,W,G];rfl
    have X:c.attr.length+(S.length+1+1)+1+V.length<=maxLen:=by unfold maxLen;omega
    simp[a,b,s,o,j,u,v,n1,n2,n3,n4,X,d,f54]
 by_cases k5:c.kind=5
 ·have d:c.show=[105,110,32]++c.name:=by rw[Ye,ze s,zd k5]
  have D:3+c.name.length<=maxLen:=by unfold maxLen;omega
  simp[a,b,k5,D,d,f54]
 have d:c.show=Jy c.kind++([40]++(J++[41])):=by rw[Ye,ze s,ze k5,hJ]
 have m3:3+(J.length+1+1)<=maxLen:=by unfold maxLen;omega
 rcases(by omega:c.kind=1\/c.kind=2\/c.kind=3)with hk|hk|hk<;>rw[hk]at d <;>
  simp[a,b,h6,hk,m3,d,Jy,f54]
theorem sZ:∀n,yY False prog 54 (hP (FCw n)):=by
 intro n
 induction n with
 |zero=>exact Ua ⟨_,func54,by kernel_rfl,by kernel_rfl⟩
 |succ n a=>have b:AM.kB False (Ccw n) (fun g=>(qcw n).contains g):=qC mixed ⟨a,by simp,VG,by simp,fP.lax,fun _=>zu _ _,C5.lax,fun _=>zu _ _,eY,fun _=>zu _ _,E1,fun _=>zu _ _,trivial⟩;exact vM b func54 false [] fun c d=>⟨zI (zl 1) (by decide),_,Cr n c d,z8 _⟩
noncomputable abbrev Crpt:Ctx:=zV prog [(53,GC fun c=>int c.check),(54,hP (FCw zA))]
theorem zch:AM.kB False Crpt Hl:=zW mixed ⟨WX.lax,sZ zA,trivial⟩
theorem Fw(c:qO)(h:c.cb<=zA):zv Crpt f28 [.agg c.V]=some (JL c):=by
 have a:=fun Y Z=>vx (fun c=>int c.check) c Y Z h
 refine zn rfl ?_;by_cases b:c.check=0
 ·have d:=eN c b;have i:=gV c d;have g:=fun Y Z=>Fv zA c Y Z ⟨d,h,h⟩
  unfold zA at h;by_cases e:(20000:Int)<c.show.length
  ·have Y:JL c=.w5 [str [],int 2]:=by unfold JL Zc;rw[zd b,zd e]
   simp[a,b,g,e,Y,wK,AM.freeze,zC,qt,wI,f28]
  ·have Y:JL c=.w5 [str c.show,int 0]:=by unfold JL Zc;rw[zd b,ze e]
   simp[a,b,g,e,Y,wK,AM.freeze,zC,qt,wI,f28]
 ·have Y:JL c=.w5 [str [],int c.check]:=by unfold JL Zc;rw[ze b]
  have f:=vX b;simp[a,f,Y,wK,AM.freeze,zC,qt,wI,f28]
theorem Cs:yY False prog 28 (GC JL):=
 yy (fn:=f28) zch (qX func28) false [] _ fun args r h=>by obtain⟨c,rfl,a,rfl⟩:=Wu h;exact⟨by simp[f28],_,Fw c a.1,z8 _⟩
end Go.Q
namespace Go.Q
theorem ON(b:Nat)(cb:Array Value)(w:World)(hb:w.heap[b]?=some (.cells cb 37 (0,0)))(hcb:cb[1]?=some (.slice none 0 0)) :
  Calls prog 15 #[.pointer (some ⟨b,0,none⟩)] w fun e w'=>e=.returned (.string .empty)/\w'=w.drew:=by
 have c1:w.drew.cell? ⟨b,1,none⟩=some (.slice none 0 0):=by have:w.drew.heap[b]?=some (.cells cb 37 (0,0)):=hb;rw[Lib.cell_of_heap this];exact hcb
 have hSD:(Builtin.unsafeSliceData_ #[35] 80 #[.slice none 0 0]).run prog w.drew=.ok (.pointer none) w.drew:=Lib.run_unsafeSliceData_nil _ _ _ _ _;have hUS:(Builtin.unsafeString_ #[80,3] 9 #[.pointer none,.int .i64 0]).run prog w.drew=.ok (.string .empty) w.drew:=Lib.run_unsafeString_none _ _ _ _ _;have hmixed:=mixed
 go_enter func15,Tryz.ntmps15
 go_wp2
 go_region_o
 all_goals (go_wp2;go_ret;exact⟨rfl,rfl⟩)
open Classical in
noncomputable def rh:AM.Spec:=fun args Y Z=>if∃id,args=[.ref id 0 0]/\Y id=some (W7 37)then some (str [],Y,Z)else HN args Y Z
theorem rZ:zg prog 15 rh:=by
 refine⟨⟨_,func15,by kernel_rfl,by kernel_rfl⟩,?_⟩;intro args Y Z r Y' Z' h w S G vs hi i;unfold rh at h;split at h
 case isFalse=>exact iE.2 args Y Z r Y' Z' h w S G vs hi i
 rename_i k;obtain⟨id,rfl,l⟩:=k;injection h with h
 injection h with m h;injection h with n o;subst m;subst n;subst o;obtain⟨u,us,rfl,j,b⟩:=i.y9;have d:us=[]:=wx (by simpa using b.1.symm);subst d;have f:=j.WV;obtain⟨hid,rfl⟩:=j.xq;simp only[Y4,vS];have a:=hi.live id _ l;obtain⟨cur,p,A,q⟩:=a.row f;obtain⟨B,t,x⟩:=q 0 1 [.v (.pointer none),.nil] .nil rfl rfl;have y:(G id).s=2:=a.bs.symm;obtain rfl:=x.2.1.xQ;refine(ON (G id).g cur w p (by simpa using t)).mono fun e w' z=>?_
 obtain⟨rfl,rfl⟩:=z;exact⟨_,_,_,rfl,kW.drew hi,.c (.v rfl)⟩
theorem Ub(Y:Hp)(Z id:Nat)(h:Y id=some (W7 37)):wD nG f14 [.ref id 0 0] Y Z=some (int 0,Y,Z):=by
 unfold wD;rw[zd (by simp[f14])];obtain⟨x,Y',Z',a,b,c,d⟩:∃x Y' Z',yR nG f14 [.ref id 0 0] Y Z=some (x,Y',Z')/\x=int 0/\Y'=Y/\Z'=Z:=by have e:Y id=some ⟨37,2,false,[[.v (.pointer none),.nil]]⟩:=h;refine qF rfl ?_;simp[e,f14]
 rw[a,b,c,d]
theorem Mm{id:Nat}{Y:Hp}{Z:Nat}{cur:za}(B:tn TB UB id Y Z cur):wD nG f14 [.ref id 0 0] Y Z=some (int cur.length,Y,Z):=by
 obtain⟨_,⟨rfl,h⟩|⟨m,_,_,_,h,_⟩⟩:=B
 ·exact Ub Y Z id h
 ·exact LO Y Z id m _ h
theorem Mn{id:Nat}{Y:Hp}{Z:Nat}{cur:za}(B:tn TB UB id Y Z cur):∃Y',rh [.ref id 0 0] Y Z=some (str cur,Y',Z):=by
 obtain⟨_,⟨rfl,h⟩|⟨m,d,_,b,h,c⟩⟩:=B
 ·exact⟨Y,by unfold rh;rw[zd ⟨id,rfl,h⟩]⟩
 ·refine⟨qq (qq Y m none) id none,?_⟩;unfold rh;rw[ze (fun⟨id',e,a⟩=>by injection e with e _;injection e with e _ _;subst e;rw[h]at a;injection a with a;simp[xw,W7]at a)]
  exact oq Y Z id m cur h c b d
end Go.Q
namespace Go.AM
variable{dr:Prop}{C:Ctx}{N:Nat}{pf:FuncId->Bool}
def bu(a:Array Oper)(b:Array Bool):Prop:=∀(i:Nat) (o:Oper),b[i]?=some true->a[i]?=some o->∀e∈o.after,Region.binds .any e=true->b[e.on]?=some true
def zdE(a:Array Oper):Bool:=(List.range a.size).all fun i=>match a[i]? with
 |some o=>o.after.all fun e=>decide (e.on<i)
 |none=>true
structure Des (d:Nat->Nat) (v:Nat->O) (n:Nat) (σ0:Nat->O) (ls:Array Bool) (σ:Nat->O):Prop where
 done:∀j,j<n->ls[j]?=some true->σ (d j)=v j
 rest:∀t,(∀j,j<n->d j≠t)->σ t=σ0 t
theorem Mo{b:Array Bool}{i j:Nat}(h:(b.setIfInBounds i true)[j]?=some true):j=i\/b[j]?=some true:=by
 by_cases a:i=j
 ·exact .inl a.symm
 ·rw[qL a]at h;exact .inr h
theorem Ct{b:Array Bool}{i j:Nat}(h:b[j]?=some true):(b.setIfInBounds i true)[j]?=some true:=by
 by_cases a:i=j
 ·subst a;have c:=(zM.1 h).1;rw[wT c]
 ·rw[qL a];exact h
theorem Des.put{d:Nat->Nat}{v:Nat->O}{n:Nat}{b σ:Nat->O}{f:Array Bool}(h:Des d v n b f σ)(hd:∀i j,i<n->j<n->d i=d j->i=j){i:Nat}(hi:i<n):Des d v n b (f.setIfInBounds i true) (qq σ (d i) (v i)):=by
 refine⟨fun j g l=>?_,fun t k=>?_⟩
 ·by_cases a:j=i
  ·subst a;simp[qq]
  ·have c:d j≠d i:=fun e=>a (hd j i g hi e)
   rw[zD _ _ _ _ c];exact h.done j g ((Mo l).resolve_left a)
 ·rw[zD _ _ _ _ (fun e=>k i hi e.symm)];exact h.rest t k
theorem bu.put{c:Array Oper}{d:Array Bool}(h:bu c d){i:Nat}(n:i∈Region.ready .any c d):bu c (d.setIfInBounds i true):=by
 intro j o f g e k l;rcases Mo f with rfl|f
 ·obtain⟨_,o',a,p⟩:=lR.1 n;rw[g]at a;injection a with a;subst a;have:=p e k l;refine Ct ?_;rw[yJ]at this;cases m:d[e.on]? with
  |none=>rw[m]at this;cases this
  |some b=>rw[m]at this;rw[show b=true from this]
 ·exact Ct (h j o f g e k l)
theorem OO{a:Array Oper}(j:zdE a=true){ls:Array Bool}(hs:ls.size=a.size)(h:Region.ready .any a ls=[]):∀i,i<a.size->ls[i]?=some true:=by
 intro i
 induction i using Nat.strongRecOn with
 |_ i k=>
  intro hi;cases d:ls[i]? with
  |none=>rw[Vc]at d;omega
  |some b=>
   cases b with
   |true=>rfl
   |false=>
    have f:a[i]?=some a[i]:=jC hi;have c:i∈Region.ready .any a ls:=lR.2 ⟨by rw[yJ,d];rfl,a[i],f,fun e l _=>by
     have g:=ql.1 j i (jK.2 hi);rw[f]at g;have m:=Array.all_eq_true_iff_forall_mem.1 g e l;have n:e.on<i:=by simpa using m
     rw[yJ,k e.on n (by omega)];rfl⟩
    rw[h]at c;cases c
theorem Wp.nd(I:kB dr C pf)(J:C.P.follows .mixedOrders=true){id n:Nat}{b:Array Oper}{st:St}{K:Exit->St->Prop}(L:b.size=n+1)(Q:zdE b=true)(d:Nat->Nat)(v:Nat->O)(hd:∀i j,i<n->j<n->d i=d j->i=j)(R:∀i,i<n->d i<N)(s:∀i,i<n->∃o,b[i]?=some o/\o.dst=some (d i))
  (M:Array Bool->Hp->Nat->Prop) (S:M (Array.replicate b.size false) st.Y st.Z)
  (g:∀(c:Array Bool) (σ:Nat->O) (Y:Hp) (Z i:Nat),i<n->bu b c->c[n]?=some false->i∈Region.ready .any b c->Des d v n st.σ c σ->M c Y Z->∃o Y' Z',b[i]?=some o/\jd C b o ⟨σ,Y,Z⟩=some ⟨qq σ (d i) (v i),Y',Z'⟩/\M (c.setIfInBounds i true) Y' Z')
  (h:∀(c:Array Bool) (σ:Nat->O) (Y:Hp) (Z:Nat),bu b c->n∈Region.ready .any b c->Des d v n st.σ c σ->M c Y Z->(∀i,i<n->c[i]?=some true)/\∀l,(∀a,K .normal a->Wa dr C N b l a (Wf K))->Wa dr C N b (n::l) ⟨σ,Y,Z⟩ (Wf K)) :
  Wp dr C N (.region id b true) st K:=by
 refine Wp.zcS J (fun c a=>((∀j,j<n+1->c[j]?=some true)/\K .normal a)\/(c[n]?=some false/\bu b c/\Des d v n st.σ c a.σ/\M c a.Y a.Z)) (.inr ⟨by rw[L];simp,fun i o hi=>by simp[aF]at hi,⟨fun j _ E=>by simp[aF]at E,fun _ _=>rfl⟩,S⟩) ?_ ?_
 ·intro c a i hs t hi l F;have k:=QM hi;have u:i<n+1:=by have:=(zM.1 k).1;omega
  rcases t with⟨m,G⟩|⟨m,w,y,p⟩
  ·rw[m i u]at k;cases k
  ·by_cases q:i=n
   ·subst q;obtain⟨T,U⟩:=h c a.σ a.Y a.Z w hi y p;exact U l fun z W=>F z (.inl ⟨fun j E=>by
     by_cases A:j=i
     ·subst A;rw[wT (by omega)]
     ·exact Ct (T j (by omega)),W⟩)
   ·have e:i<n:=by omega
    obtain⟨o,Y',Z',H,X,B⟩:=g c a.σ a.Y a.Z i e w m hi y p;obtain⟨o2,f,D⟩:=s i e;rw[H]at f;injection f with f;subst f;refine Wa.cons I H (fun x r=>by rw[D]at r;injection r with r;subst r;exact R i e) X (F _ (.inr ⟨?_,w.put hi,y.put hd e,B⟩));rw[qL q];exact m
 ·intro c a hs t hr;rcases t with⟨_,G⟩|⟨m,_⟩
  ·exact G
  ·have:=OO Q hs hr n (by omega);rw[m]at this;cases this
end Go.AM
namespace Go.Q
def s8(n:Nat):Code->Option Code
 | .region i e d=>if i=n then some (.region i e d)else none
 | .seq a b=>match s8 n a with
  |some c=>some c
  |none=>s8 n b
 | .cond _ a b=>match s8 n a with
  |some c=>some c
  |none=>s8 n b
 | .block _ b=>s8 n b
 | .loop b=>s8 n b
 |_=>none
def K4(n:Nat):Code->Option Code
 | .block i b=>if i=n then some (.block i b)else K4 n b
 | .seq a b=>match K4 n a with
  |some c=>some c
  |none=>K4 n b
 | .cond _ a b=>match K4 n a with
  |some c=>some c
  |none=>K4 n b
 | .loop b=>K4 n b
 |_=>none
noncomputable abbrev Q4:Code:=Tryz.f4.body.getD .skip
noncomputable abbrev K5:Ctx:=zV prog [(8,hP (FBk fun b=>int (yg b))),(9,LS),(12,hP FIt),(13,GC JL),(14,wD nG f14),(15,rh)]
theorem xX:kB False K5 Hl:=zW mixed ⟨Px.lax,HX,JI.lax,GO.lax,iF.lax,rZ.lax,trivial⟩
theorem zin(x:w9){σ:Nat->O}{Y:Hp}{Z id j:Nat}{cur:za}{K:Exit->St->Prop}(W:σ 6=.fn (.func 9) [] [.ref id 0 0])(X:σ 7=.fn (.func 12) [] [])(hv:σ 9=.ref j 0 0)(p:j<Z)(k:Y j=some ⟨47,3,false,[x.V]⟩)
  (hn:0<=x.rest/\x.rest<=4000000000) (B:tn TB UB id Y Z cur) (G:cur.length+(Vf [ia,x.name,x.qp,jt x.rest]).length<=140737488355328)
  (hK:∀σ' Y' Z',(∀t,t<39->σ' t=σ t)->tn TB UB id Y' Z' (cur++Vf [ia,x.name,x.qp,jt x.rest])->Z<=Z'->(∀j b,j<Z->j≠id->Y j=some b->b.e≠UB->Y' j=some b)->K .normal ⟨σ',Y',Z'⟩) :
  Wp False K5 Tryz.f4.ntmps ((s8 10 Q4).getD .skip) ⟨σ,Y,Z⟩ K:=by
 have M:=xX;refine Wp.nd M mixed (n:=10) rfl (by kernel_rfl) (fun i=>39+i) (fun i=>match i with|0=>.fn (.func 9) [] [.ref id 0 0]|1=>.ref j 0 0|2=>str x.name|3=>.ref j 0 1|4=>str x.qp|5=>.fn (.func 12) [] []|6=>.ref j 0 2|7=>int x.rest|8=>str (jt x.rest)|_=>.own Z 0 4)
  (fun i j _ _ h=>by omega) (fun i hi=>by show 39+i<179;omega) ?_ (fun s Y' Z'=>(s[9]?=some true->Y'=qq Y Z (some ⟨9,1,true,zy [ia,x.name,x.qp,jt x.rest]⟩)/\Z'=Z+1)/\(s[9]?=some false->Y'=Y/\Z'=Z)) ⟨fun h=>by simp at h,fun _=>⟨rfl,rfl⟩⟩ ?_ ?_
 ·intro i hi;have:i=0\/i=1\/i=2\/i=3\/i=4\/i=5\/i=6\/i=7\/i=8\/i=9:=by omega
  rcases this with rfl|rfl|rfl|rfl|rfl|rfl|rfl|rfl|rfl|rfl<;>exact⟨_,rfl,rfl⟩
 ·intro s u Y2 c i hi y z D m q;have a:∀j:Nat,(s[j]?).getD false=true->s[j]?=some true:=fun j p=>by
   cases A:s[j]? with
   |none=>rw[A]at p;cases p
   |some b=>rw[A]at p;rw[show b=true from p]
  have r6:u 6=.fn (.func 9) [] [.ref id 0 0]:=by rw[m.rest 6 (fun j _=>by show 39+j≠6;omega)];exact W
  have r7:u 7=.fn (.func 12) [] []:=by rw[m.rest 7 (fun j _=>by show 39+j≠7;omega)];exact X
  have H:u 9=.ref j 0 0:=by rw[m.rest 9 (fun j _=>by show 39+j≠9;omega)];exact hv
  have k:Y2 j=some ⟨47,3,false,[x.V]⟩:=by
   cases I:s[9]? with
   |none=>have hsz:=(zM.1 z).1;rw[Vc]at I;omega
   |some b=>
    cases b with
    |true=>rw[(q.1 I).1,zD _ _ _ _ (by omega)];exact k
    |false=>rw[(q.2 I).1];exact k
  simp only[w9.V]at k;have f:∀j,j≠9->(s.setIfInBounds j true)[9]?=s[9]?:=fun j p=>qL p
  obtain⟨-,o,g,hd⟩:=lR.1 D;have:i=0\/i=1\/i=2\/i=3\/i=4\/i=5\/i=6\/i=7\/i=8\/i=9:=by omega
  rcases this with rfl|rfl|rfl|rfl|rfl|rfl|rfl|rfl|rfl|rfl
  ·refine⟨_,Y2,c,rfl,(qT _ _ _ _ _ _ _ _).trans ?_,by rw[f 0 (by decide)];exact q⟩;simp[r6]
  ·refine⟨_,Y2,c,rfl,(qT _ _ _ _ _ _ _ _).trans ?_,by rw[f 1 (by decide)];exact q⟩;simp[H]
  ·injection g with g;subst g;simp[Region.binds]at hd;have r:=m.done 1 (by decide) (a _ hd);simp at r;refine⟨_,Y2,c,rfl,(qT _ _ _ _ _ _ _ _).trans ?_,by rw[f 2 (by decide)];exact q⟩;simp[r,k]
  ·refine⟨_,Y2,c,rfl,(qT _ _ _ _ _ _ _ _).trans ?_,by rw[f 3 (by decide)];exact q⟩;simp[H]
  ·injection g with g;subst g;simp[Region.binds]at hd;have r:=m.done 3 (by decide) (a _ hd);simp at r;refine⟨_,Y2,c,rfl,(qT _ _ _ _ _ _ _ _).trans ?_,by rw[f 4 (by decide)];exact q⟩;simp[r,k]
  ·refine⟨_,Y2,c,rfl,(qT _ _ _ _ _ _ _ _).trans ?_,by rw[f 5 (by decide)];exact q⟩;simp[r7]
  ·refine⟨_,Y2,c,rfl,(qT _ _ _ _ _ _ _ _).trans ?_,by rw[f 6 (by decide)];exact q⟩;simp[H]
  ·injection g with g;subst g;simp[Region.binds]at hd;have r:=m.done 6 (by decide) (a _ hd);simp at r;refine⟨_,Y2,c,rfl,(qT _ _ _ _ _ _ _ _).trans ?_,by rw[f 7 (by decide)];exact q⟩;simp[r,k]
  ·injection g with g;subst g;simp[Region.binds]at hd;have r:=m.done 5 (by decide) (a _ hd.1);have C:=m.done 7 (by decide) (a _ hd.2);simp at r C;have hit:=kl x.rest Y2 c hn.1 (by omega);refine⟨_,Y2,c,rfl,(qT _ _ _ _ _ _ _ _).trans ?_,by rw[f 8 (by decide)];exact q⟩;simp[r,C,hit,jt]
  ·injection g with g;subst g;simp[Region.binds]at hd;have r:=m.done 2 (by decide) (a _ hd.1);have C:=m.done 4 (by decide) (a _ hd.2.1);have N:=m.done 8 (by decide) (a _ hd.2.2);simp at r C N;obtain⟨rfl,rfl⟩:=q.2 (QM D);refine⟨_,_,_,rfl,(qT _ _ _ _ _ _ _ _).trans ?_,⟨fun _=>⟨rfl,rfl⟩,fun h=>?_⟩⟩
   ·simp[r,C,N,zt,zJ,zr,zy,ia]
   ·rw[wT (by have:=(zM.1 z).1;omega)]at h;cases h
 ·intro s u Y2 c y D m q;have a:∀j:Nat,(s[j]?).getD false=true->s[j]?=some true:=fun j p=>by
   cases A:s[j]? with
   |none=>rw[A]at p;cases p
   |some b=>rw[A]at p;rw[show b=true from p]
  obtain⟨-,o,g,hd⟩:=lR.1 D;injection g with g;subst g;simp[Region.binds]at hd;have P:=a _ hd.1;have E:=a _ hd.2.1;have w:=y 9 _ E rfl;simp[Region.binds]at w;have F:=y 8 _ w.2.2 rfl;simp[Region.binds]at F;have Q:=y 7 _ F.2 rfl;simp[Region.binds]at Q;have R:=y 2 _ w.1 rfl;simp[Region.binds]at R;have S:=y 4 _ w.2.1 rfl;simp[Region.binds]at S;refine⟨fun i hi=>?_,fun l hl=>?_⟩
  ·have:i=0\/i=1\/i=2\/i=3\/i=4\/i=5\/i=6\/i=7\/i=8\/i=9:=by omega
   rcases this with rfl|rfl|rfl|rfl|rfl|rfl|rfl|rfl|rfl|rfl
   ·exact P
   ·exact R
   ·exact w.1
   ·exact S
   ·exact w.2.1
   ·exact F.1
   ·exact Q
   ·exact F.2
   ·exact w.2.2
   ·exact E
  ·obtain⟨rfl,rfl⟩:=q.1 E;have T:=m.done 0 (by decide) P;have U:=m.done 9 (by decide) E;simp at T U;have J:=B.keep (Y':=qq Y Z (some ⟨9,1,true,zy [ia,x.name,x.qp,jt x.rest]⟩)) (Z':=Z+1) (by omega) (fun j p=>by rw[zD _ _ _ _ (by omega)]);obtain⟨hp3,nx3,e1,e2,e3,e4⟩:=Jr J (v:=.own Z 0 4) (xs:=[ia,x.name,x.qp,jt x.rest]) (e:=9) (.inr ⟨Z,by omega,rfl,by simp⟩) (by simp) G;refine Wa.cons (st1:=⟨qq u (39+10) (.w5 []),hp3,nx3⟩) M rfl (fun d hd=>by simp at hd;subst hd;decide) ((qT _ _ _ _ _ _ _ _).trans ?_) (hl _ ?_)
   ·simp[T,U];exact⟨_,_,_,e1,rfl,rfl,rfl⟩
   ·exact hK _ _ _ (fun t ht=>by rw[zD _ _ _ _ (by omega)];exact m.rest t fun j _=>by show 39+j≠t;omega) e2 (by omega) (fun j b p L hb he=>e4 j b (by omega) L (by rw[zD _ _ _ _ (by omega)];exact hb) he)
theorem zio(x:vi){σ:Nat->O}{Y:Hp}{Z id j:Nat}{cur:za}{K:Exit->St->Prop}(W:σ 6=.fn (.func 9) [] [.ref id 0 0])(X:σ 7=.fn (.func 12) [] [])(hv:σ 11=.ref j 0 0)(p:j<Z)(k:Y j=some ⟨49,4,false,[x.V]⟩)
  (hn:0<=x.buckets/\x.buckets<=4000000000) (B:tn TB UB id Y Z cur) (G:cur.length+(Vf [X9,x.name,x.qp,jt x.buckets]).length<=140737488355328)
  (hK:∀σ' Y' Z',(∀t,t<58->σ' t=σ t)->tn TB UB id Y' Z' (cur++Vf [X9,x.name,x.qp,jt x.buckets])->Z<=Z'->(∀j b,j<Z->j≠id->Y j=some b->b.e≠UB->Y' j=some b)->K .normal ⟨σ',Y',Z'⟩) :
  Wp False K5 Tryz.f4.ntmps ((s8 15 Q4).getD .skip) ⟨σ,Y,Z⟩ K:=by
 have M:=xX;refine Wp.nd M mixed (n:=10) rfl (by kernel_rfl) (fun i=>58+i) (fun i=>match i with|0=>.fn (.func 9) [] [.ref id 0 0]|1=>.ref j 0 0|2=>str x.name|3=>.ref j 0 1|4=>str x.qp|5=>.fn (.func 12) [] []|6=>.ref j 0 2|7=>int x.buckets|8=>str (jt x.buckets)|_=>.own Z 0 4)
  (fun i j _ _ h=>by omega) (fun i hi=>by show 58+i<179;omega) ?_ (fun s Y' Z'=>(s[9]?=some true->Y'=qq Y Z (some ⟨9,1,true,zy [X9,x.name,x.qp,jt x.buckets]⟩)/\Z'=Z+1)/\(s[9]?=some false->Y'=Y/\Z'=Z)) ⟨fun h=>by simp at h,fun _=>⟨rfl,rfl⟩⟩ ?_ ?_
 ·intro i hi;have:i=0\/i=1\/i=2\/i=3\/i=4\/i=5\/i=6\/i=7\/i=8\/i=9:=by omega
  rcases this with rfl|rfl|rfl|rfl|rfl|rfl|rfl|rfl|rfl|rfl<;>exact⟨_,rfl,rfl⟩
 ·intro s u Y2 c i hi y z D m q;have a:∀j:Nat,(s[j]?).getD false=true->s[j]?=some true:=fun j p=>by
   cases A:s[j]? with
   |none=>rw[A]at p;cases p
   |some b=>rw[A]at p;rw[show b=true from p]
  have r6:u 6=.fn (.func 9) [] [.ref id 0 0]:=by rw[m.rest 6 (fun j _=>by show 58+j≠6;omega)];exact W
  have r7:u 7=.fn (.func 12) [] []:=by rw[m.rest 7 (fun j _=>by show 58+j≠7;omega)];exact X
  have H:u 11=.ref j 0 0:=by rw[m.rest 11 (fun j _=>by show 58+j≠11;omega)];exact hv
  have k:Y2 j=some ⟨49,4,false,[x.V]⟩:=by
   cases I:s[9]? with
   |none=>have hsz:=(zM.1 z).1;rw[Vc]at I;omega
   |some b=>
    cases b with
    |true=>rw[(q.1 I).1,zD _ _ _ _ (by omega)];exact k
    |false=>rw[(q.2 I).1];exact k
  simp only[vi.V]at k;have f:∀j,j≠9->(s.setIfInBounds j true)[9]?=s[9]?:=fun j p=>qL p
  obtain⟨-,o,g,hd⟩:=lR.1 D;have:i=0\/i=1\/i=2\/i=3\/i=4\/i=5\/i=6\/i=7\/i=8\/i=9:=by omega
  rcases this with rfl|rfl|rfl|rfl|rfl|rfl|rfl|rfl|rfl|rfl
  ·refine⟨_,Y2,c,rfl,(qT _ _ _ _ _ _ _ _).trans ?_,by rw[f 0 (by decide)];exact q⟩;simp[r6]
  ·refine⟨_,Y2,c,rfl,(qT _ _ _ _ _ _ _ _).trans ?_,by rw[f 1 (by decide)];exact q⟩;simp[H]
  ·injection g with g;subst g;simp[Region.binds]at hd;have r:=m.done 1 (by decide) (a _ hd);simp at r;refine⟨_,Y2,c,rfl,(qT _ _ _ _ _ _ _ _).trans ?_,by rw[f 2 (by decide)];exact q⟩;simp[r,k]
  ·refine⟨_,Y2,c,rfl,(qT _ _ _ _ _ _ _ _).trans ?_,by rw[f 3 (by decide)];exact q⟩;simp[H]
  ·injection g with g;subst g;simp[Region.binds]at hd;have r:=m.done 3 (by decide) (a _ hd);simp at r;refine⟨_,Y2,c,rfl,(qT _ _ _ _ _ _ _ _).trans ?_,by rw[f 4 (by decide)];exact q⟩;simp[r,k]
  ·refine⟨_,Y2,c,rfl,(qT _ _ _ _ _ _ _ _).trans ?_,by rw[f 5 (by decide)];exact q⟩;simp[r7]
  ·refine⟨_,Y2,c,rfl,(qT _ _ _ _ _ _ _ _).trans ?_,by rw[f 6 (by decide)];exact q⟩;simp[H]
  ·injection g with g;subst g;simp[Region.binds]at hd;have r:=m.done 6 (by decide) (a _ hd);simp at r;refine⟨_,Y2,c,rfl,(qT _ _ _ _ _ _ _ _).trans ?_,by rw[f 7 (by decide)];exact q⟩;simp[r,k]
  ·injection g with g;subst g;simp[Region.binds]at hd;have r:=m.done 5 (by decide) (a _ hd.1);have C:=m.done 7 (by decide) (a _ hd.2);simp at r C;have hit:=kl x.buckets Y2 c hn.1 (by omega);refine⟨_,Y2,c,rfl,(qT _ _ _ _ _ _ _ _).trans ?_,by rw[f 8 (by decide)];exact q⟩;simp[r,C,hit,jt]
  ·injection g with g;subst g;simp[Region.binds]at hd;have r:=m.done 2 (by decide) (a _ hd.1);have C:=m.done 4 (by decide) (a _ hd.2.1);have N:=m.done 8 (by decide) (a _ hd.2.2);simp at r C N;obtain⟨rfl,rfl⟩:=q.2 (QM D);refine⟨_,_,_,rfl,(qT _ _ _ _ _ _ _ _).trans ?_,⟨fun _=>⟨rfl,rfl⟩,fun h=>?_⟩⟩
   ·simp[r,C,N,zt,zJ,zr,zy,X9]
   ·rw[wT (by have:=(zM.1 z).1;omega)]at h;cases h
 ·intro s u Y2 c y D m q;have a:∀j:Nat,(s[j]?).getD false=true->s[j]?=some true:=fun j p=>by
   cases A:s[j]? with
   |none=>rw[A]at p;cases p
   |some b=>rw[A]at p;rw[show b=true from p]
  obtain⟨-,o,g,hd⟩:=lR.1 D;injection g with g;subst g;simp[Region.binds]at hd;have P:=a _ hd.1;have E:=a _ hd.2.1;have w:=y 9 _ E rfl;simp[Region.binds]at w;have F:=y 8 _ w.2.2 rfl;simp[Region.binds]at F;have Q:=y 7 _ F.2 rfl;simp[Region.binds]at Q;have R:=y 2 _ w.1 rfl;simp[Region.binds]at R;have S:=y 4 _ w.2.1 rfl;simp[Region.binds]at S;refine⟨fun i hi=>?_,fun l hl=>?_⟩
  ·have:i=0\/i=1\/i=2\/i=3\/i=4\/i=5\/i=6\/i=7\/i=8\/i=9:=by omega
   rcases this with rfl|rfl|rfl|rfl|rfl|rfl|rfl|rfl|rfl|rfl
   ·exact P
   ·exact R
   ·exact w.1
   ·exact S
   ·exact w.2.1
   ·exact F.1
   ·exact Q
   ·exact F.2
   ·exact w.2.2
   ·exact E
  ·obtain⟨rfl,rfl⟩:=q.1 E;have T:=m.done 0 (by decide) P;have U:=m.done 9 (by decide) E;simp at T U;have J:=B.keep (Y':=qq Y Z (some ⟨9,1,true,zy [X9,x.name,x.qp,jt x.buckets]⟩)) (Z':=Z+1) (by omega) (fun j p=>by rw[zD _ _ _ _ (by omega)]);obtain⟨hp3,nx3,e1,e2,e3,e4⟩:=Jr J (v:=.own Z 0 4) (xs:=[X9,x.name,x.qp,jt x.buckets]) (e:=9) (.inr ⟨Z,by omega,rfl,by simp⟩) (by simp) G;refine Wa.cons (st1:=⟨qq u (58+10) (.w5 []),hp3,nx3⟩) M rfl (fun d hd=>by simp at hd;subst hd;decide) ((qT _ _ _ _ _ _ _ _).trans ?_) (hl _ ?_)
   ·simp[T,U];exact⟨_,_,_,e1,rfl,rfl,rfl⟩
   ·exact hK _ _ _ (fun t ht=>by rw[zD _ _ _ _ (by omega)];exact m.rest t fun j _=>by show 58+j≠t;omega) e2 (by omega) (fun j b p L hb he=>e4 j b (by omega) L (by rw[zD _ _ _ _ (by omega)];exact hb) he)
theorem ri{Y:Hp}{Z:Nat}{v:O}{K:List za}(h:qN Y Z 9 1 v (zy K))(s:za)(i:K.length<1000000000000):∃Y2,jb prog (qq Y Z (some ⟨9,1,true,[[str s]]⟩)) (Z+1) 38 38 v (.own Z 0 1)=some (.own (Z+1) 0 (K.length+1),Y2,Z+2)/\qN Y2 (Z+2) 9 1 (.own (Z+1) 0 (K.length+1)) (zy (K++[s]))/\∀j,j<Z->(∀n,v≠.own j 0 n)->Y2 j=Y j:=by
 have a:=h.yx (P:=prog) (t:=38) (c:=[str s]) Jn mI oa ob rfl (by omega) (by simp[wa,maxLen];omega) (by simp[wa];omega);have b:=qN.after (Y:=Y) (Z:=Z) (e:=9) (s:=1) (v:=v) (xs:=zy K) (c:=[str s]) (tmp:=some ⟨9,1,true,[[str s]]⟩);have d:zy K++[[str s]]=zy (K++[s]):=by simp[zy]
 rw[wa]at a;refine⟨_,a,?_,fun j k f=>?_⟩
 ·rw[<-d];simpa[wa]using b
 ·rw[zz _ _ _ _ (by omega)];rcases h with⟨rfl,_⟩|⟨id,hid,rfl,l⟩
  ·simp only[Qx];rw[zz _ _ _ _ (by omega)]
  ·have g:j≠id:=by rintro rfl;exact f _ rfl
   simp only[Qx];rw[zz _ _ _ _ g,zz _ _ _ _ (by omega)]
theorem mW{Y:Hp}{Z:Nat}{v:O}{es:List zb}(c:qN Y Z 9 1 v es){j:Nat}{b:Blk}(d:Y j=some b)(he:b.e≠9\/b.arr=false):∀n,v≠.own j 0 n:=by
 rintro n rfl;rcases c with⟨h,_⟩|⟨id,_,h,a⟩
 ·cases h
 ·injection h with f _ _;subst f;rw[d]at a;injection a with a;subst a;rcases he with he|he
  ·exact he rfl
  ·cases he
theorem ziq(r:Rg){σ:Nat->O}{Y:Hp}{Z j:Nat}{D:List za}{K:Exit->St->Prop}(h7:σ 7=.fn (.func 12) [] [])(hv:σ 20=.ref j 0 0)(s:j<Z)(u:Y j=some ⟨60,3,false,[Qq r]⟩)
  (E:0<=r.2.1/\r.2.1<=4000000000/\0<=r.2.2/\r.2.2<=4000000000) (J:qN Y Z 9 1 (σ 18) (zy D)) (hl:D.length<1000000000000)
  (hK:∀σ' Y' Z',(∀t,t<121->t≠18->σ' t=σ t)->qN Y' Z' 9 1 (σ' 18) (zy (D++[aa r]))->Z<=Z'->(∀j b,j<Z->Y j=some b->(b.e≠9\/b.arr=false)->Y' j=some b)->K .normal ⟨σ',Y',Z'⟩) :
  Wp False K5 Tryz.f4.ntmps ((s8 34 Q4).getD .skip) ⟨σ,Y,Z⟩ K:=by
 have T:=xX;obtain⟨F,p1,p2,U⟩:=ri J (aa r) hl;have l1:=Zz ⟨E.1,E.2.1⟩;have l2:=Zz E.2.2;have hmx:maxLen=9223372036854775807:=rfl;have m5:(jt r.2.1).length+1<=maxLen:=by omega
 have L:(jt r.2.1).length+((jt r.2.2).length+1)<=maxLen:=by omega
 have G:(jt r.2.1).length+1+(jt r.2.2).length<=maxLen:=by omega
 refine Wp.nd T mixed (n:=13) rfl (by kernel_rfl) (fun i=>121+i) (fun i=>match i with|0=>σ 18|1=>.fn (.func 12) [] []|2=>.ref j 0 1|3=>int r.2.1|4=>str (jt r.2.1)|5=>str (jt r.2.1++[58])|6=>.fn (.func 12) [] []|7=>.ref j 0 2|8=>int r.2.2|9=>str (jt r.2.2)|10=>str (aa r)|11=>.own Z 0 1|_=>.own (Z+1) 0 (D.length+1))
  (fun i j _ _ h=>by omega) (fun i hi=>by show 121+i<179;omega) ?_ (fun g Y' Z'=>(g[12]?=some true->Y'=F/\Z'=Z+2)/\(g[12]?=some false->g[11]?=some true->Y'=qq Y Z (some ⟨9,1,true,[[str (aa r)]]⟩)/\Z'=Z+1)/\(g[12]?=some false->g[11]?=some false->Y'=Y/\Z'=Z)) ⟨fun h=>by simp at h,fun _ h=>by simp at h,fun _ _=>⟨rfl,rfl⟩⟩ ?_ ?_
 ·intro i hi;have:i=0\/i=1\/i=2\/i=3\/i=4\/i=5\/i=6\/i=7\/i=8\/i=9\/i=10\/i=11\/i=12:=by omega
  rcases this with rfl|rfl|rfl|rfl|rfl|rfl|rfl|rfl|rfl|rfl|rfl|rfl|rfl<;>exact⟨_,rfl,rfl⟩
 ·intro g v Y2 c i hi W M H q A;have a:∀j:Nat,(g[j]?).getD false=true->g[j]?=some true:=fun j s=>by
   cases B:g[j]? with
   |none=>rw[B]at s;cases s
   |some b=>rw[B]at s;rw[show b=true from s]
  have hsz:g.size=14\/13<g.size:=by have:=(zM.1 M).1;omega
  have C:∀k,k<13->g[k]?=some true\/g[k]?=some false:=fun k hk=>by
   cases B:g[k]? with
   |none=>rw[Vc]at B;omega
   |some b=>cases b<;>simp
  have y:Y j=some ⟨60,3,false,[Qq r]⟩:=u;have u:Y2 j=some ⟨60,3,false,[Qq r]⟩:=by
   rcases C 12 (by decide)with h12|h12
   ·rw[(A.1 h12).1,U j s (mW J y (.inr rfl))];exact y
   ·rcases C 11 (by decide)with Pz|Pz
    ·rw[(A.2.1 h12 Pz).1,zD _ _ _ _ (by omega)];exact y
    ·rw[(A.2.2 h12 Pz).1];exact y
  have X:v 7=.fn (.func 12) [] []:=by rw[q.rest 7 (fun j _=>by show 121+j≠7;omega)];exact h7
  have rb:v 20=.ref j 0 0:=by rw[q.rest 20 (fun j _=>by show 121+j≠20;omega)];exact hv
  have rv:v 18=σ 18:=q.rest 18 (fun j _=>by show 121+j≠18;omega);simp only[Qq]at u;have m:∀k,k≠11->k≠12->((g.setIfInBounds k true)[12]?=some true->Y2=F/\c=Z+2)/\((g.setIfInBounds k true)[12]?=some false->(g.setIfInBounds k true)[11]?=some true->Y2=qq Y Z (some ⟨9,1,true,[[str (aa r)]]⟩)/\c=Z+1)/\((g.setIfInBounds k true)[12]?=some false->(g.setIfInBounds k true)[11]?=some false->Y2=Y/\c=Z):=fun k h1 h2=>by rw[qL h2,qL h1];exact A
  obtain⟨-,o,f,hd⟩:=lR.1 H;have:i=0\/i=1\/i=2\/i=3\/i=4\/i=5\/i=6\/i=7\/i=8\/i=9\/i=10\/i=11\/i=12:=by omega
  rcases this with rfl|rfl|rfl|rfl|rfl|rfl|rfl|rfl|rfl|rfl|rfl|rfl|rfl
  ·refine⟨_,Y2,c,rfl,(qT _ _ _ _ _ _ _ _).trans ?_,m 0 (by decide) (by decide)⟩;simp[rv]
  ·refine⟨_,Y2,c,rfl,(qT _ _ _ _ _ _ _ _).trans ?_,m 1 (by decide) (by decide)⟩;simp[X]
  ·refine⟨_,Y2,c,rfl,(qT _ _ _ _ _ _ _ _).trans ?_,m 2 (by decide) (by decide)⟩;simp[rb]
  ·injection f with f;subst f;simp[Region.binds]at hd;have p:=q.done 2 (by decide) (a _ hd);simp at p;refine⟨_,Y2,c,rfl,(qT _ _ _ _ _ _ _ _).trans ?_,m 3 (by decide) (by decide)⟩;simp[p,u]
  ·injection f with f;subst f;simp[Region.binds]at hd;have p:=q.done 1 (by decide) (a _ hd.1);have w:=q.done 3 (by decide) (a _ hd.2);simp at p w;have hit:=kl r.2.1 Y2 c E.1 (by omega);refine⟨_,Y2,c,rfl,(qT _ _ _ _ _ _ _ _).trans ?_,m 4 (by decide) (by decide)⟩;simp[p,w,hit,jt]
  ·injection f with f;subst f;simp[Region.binds]at hd;have p:=q.done 4 (by decide) (a _ hd);simp at p;refine⟨_,Y2,c,rfl,(qT _ _ _ _ _ _ _ _).trans ?_,m 5 (by decide) (by decide)⟩;simp[p,m5]
  ·refine⟨_,Y2,c,rfl,(qT _ _ _ _ _ _ _ _).trans ?_,m 6 (by decide) (by decide)⟩;simp[X]
  ·refine⟨_,Y2,c,rfl,(qT _ _ _ _ _ _ _ _).trans ?_,m 7 (by decide) (by decide)⟩;simp[rb]
  ·injection f with f;subst f;simp[Region.binds]at hd;have p:=q.done 7 (by decide) (a _ hd);simp at p;refine⟨_,Y2,c,rfl,(qT _ _ _ _ _ _ _ _).trans ?_,m 8 (by decide) (by decide)⟩;simp[p,u]
  ·injection f with f;subst f;simp[Region.binds]at hd;have p:=q.done 6 (by decide) (a _ hd.1);have w:=q.done 8 (by decide) (a _ hd.2.1);simp at p w;have hit:=kl r.2.2 Y2 c E.2.2.1 (by omega);refine⟨_,Y2,c,rfl,(qT _ _ _ _ _ _ _ _).trans ?_,m 9 (by decide) (by decide)⟩;simp[p,w,hit,jt]
  ·injection f with f;subst f;simp[Region.binds]at hd;have p:=q.done 5 (by decide) (a _ hd.1);have w:=q.done 9 (by decide) (a _ hd.2);simp at p w;refine⟨_,Y2,c,rfl,(qT _ _ _ _ _ _ _ _).trans ?_,m 10 (by decide) (by decide)⟩;simp[p,w,L,G,aa]
  ·injection f with f;subst f;simp[Region.binds]at hd;have p:=q.done 10 (by decide) (a _ hd);simp at p;have Pz:=QM H;have h12:g[12]?=some false:=by
    rcases C 12 (by decide)with h|h
    ·have:=W 12 _ h rfl;simp[Region.binds]at this;rw[Pz]at this;simp at this
    ·exact h
   obtain⟨rfl,rfl⟩:=A.2.2 h12 Pz;have z:(g.setIfInBounds 11 true)[12]?=some false:=by rw[qL (by decide)];exact h12
   have N:(g.setIfInBounds 11 true)[11]?=some true:=by rw[wT (by omega)]
   refine⟨_,_,_,rfl,(qT _ _ _ _ _ _ _ _).trans ?_,⟨fun h=>?_,fun _ _=>⟨rfl,rfl⟩,fun _ h=>?_⟩⟩
   ·simp[p,zt,zJ,zr]
   ·rw[z]at h;cases h
   ·rw[N]at h;cases h
  ·injection f with f;subst f;simp[Region.binds]at hd;have p:=q.done 0 (by decide) (a _ hd.1);have w:=q.done 11 (by decide) (a _ hd.2.1);simp at p w;have h12:=QM H;obtain⟨rfl,rfl⟩:=A.2.1 h12 (a _ hd.2.1);have z:(g.setIfInBounds 12 true)[12]?=some true:=by rw[wT (by omega)]
   refine⟨_,_,_,rfl,(qT _ _ _ _ _ _ _ _).trans ?_,⟨fun _=>⟨rfl,rfl⟩,fun h _=>?_,fun h _=>?_⟩⟩
   ·simp[p,w,p1]
   ·rw[z]at h;cases h
   ·rw[z]at h;cases h
 ·intro g v Y2 c W H q A;have a:∀j:Nat,(g[j]?).getD false=true->g[j]?=some true:=fun j s=>by
   cases B:g[j]? with
   |none=>rw[B]at s;cases s
   |some b=>rw[B]at s;rw[show b=true from s]
  obtain⟨-,o,f,hd⟩:=lR.1 H;injection f with f;subst f;simp[Region.binds]at hd;obtain⟨x,d0,d1,d2,d3,d4,d5,d6,d7,d8,d9,P,Q,_⟩:=hd;have x:=a _ x;refine⟨fun i hi=>?_,fun l R=>?_⟩
  ·have:i=0\/i=1\/i=2\/i=3\/i=4\/i=5\/i=6\/i=7\/i=8\/i=9\/i=10\/i=11\/i=12:=by omega
   rcases this with rfl|rfl|rfl|rfl|rfl|rfl|rfl|rfl|rfl|rfl|rfl|rfl|rfl
   ·exact a _ d0
   ·exact a _ d1
   ·exact a _ d2
   ·exact a _ d3
   ·exact a _ d4
   ·exact a _ d5
   ·exact a _ d6
   ·exact a _ d7
   ·exact a _ d8
   ·exact a _ d9
   ·exact a _ P
   ·exact a _ Q
   ·exact x
  ·obtain⟨rfl,rfl⟩:=A.1 x;have I:=q.done 12 (by decide) x;simp at I;refine Wa.cons (st1:=⟨qq v 18 (.own (Z+1) 0 (D.length+1)),Y2,Z+2⟩) T rfl (fun d hd=>by simp at hd;subst hd;decide) ((qT _ _ _ _ _ _ _ _).trans ?_) (R _ ?_)
   ·simp[I]
   ·exact hK _ _ _ (fun t ht S=>by rw[zD _ _ _ _ S];exact q.rest t fun j _=>by show 121+j≠t;omega) (by simpa using p2) (by omega) (fun j b s hb he=>by rw[U j s (mW J hb he)];exact hb)
theorem zir(r:SpanLaw.Sp){σ:Nat->O}{Y:Hp}{Z j:Nat}{D:List za}{K:Exit->St->Prop}(h7:σ 7=.fn (.func 12) [] [])(hv:σ 25=.ref j 0 0)(s:j<Z)(u:Y j=some ⟨65,2,false,[jP r]⟩)
  (E:0<=r.1/\r.1<=4000000000/\0<=r.2/\r.2<=4000000000) (J:qN Y Z 9 1 (σ 23) (zy D)) (hl:D.length<1000000000000)
  (hK:∀σ' Y' Z',(∀t,t<157->t≠23->σ' t=σ t)->qN Y' Z' 9 1 (σ' 23) (zy (D++[bB r]))->Z<=Z'->(∀j b,j<Z->Y j=some b->(b.e≠9\/b.arr=false)->Y' j=some b)->K .normal ⟨σ',Y',Z'⟩) :
  Wp False K5 Tryz.f4.ntmps ((s8 44 Q4).getD .skip) ⟨σ,Y,Z⟩ K:=by
 have T:=xX;obtain⟨F,p1,p2,U⟩:=ri J (bB r) hl;have l1:=Zz ⟨E.1,E.2.1⟩;have l2:=Zz E.2.2;have hmx:maxLen=9223372036854775807:=rfl;have m5:(jt r.1).length+1<=maxLen:=by omega
 have L:(jt r.1).length+((jt r.2).length+1)<=maxLen:=by omega
 have G:(jt r.1).length+1+(jt r.2).length<=maxLen:=by omega
 refine Wp.nd T mixed (n:=13) rfl (by kernel_rfl) (fun i=>157+i) (fun i=>match i with|0=>σ 23|1=>.fn (.func 12) [] []|2=>.ref j 0 0|3=>int r.1|4=>str (jt r.1)|5=>str (jt r.1++[45])|6=>.fn (.func 12) [] []|7=>.ref j 0 1|8=>int r.2|9=>str (jt r.2)|10=>str (bB r)|11=>.own Z 0 1|_=>.own (Z+1) 0 (D.length+1))
  (fun i j _ _ h=>by omega) (fun i hi=>by show 157+i<179;omega) ?_ (fun g Y' Z'=>(g[12]?=some true->Y'=F/\Z'=Z+2)/\(g[12]?=some false->g[11]?=some true->Y'=qq Y Z (some ⟨9,1,true,[[str (bB r)]]⟩)/\Z'=Z+1)/\(g[12]?=some false->g[11]?=some false->Y'=Y/\Z'=Z)) ⟨fun h=>by simp at h,fun _ h=>by simp at h,fun _ _=>⟨rfl,rfl⟩⟩ ?_ ?_
 ·intro i hi;have:i=0\/i=1\/i=2\/i=3\/i=4\/i=5\/i=6\/i=7\/i=8\/i=9\/i=10\/i=11\/i=12:=by omega
  rcases this with rfl|rfl|rfl|rfl|rfl|rfl|rfl|rfl|rfl|rfl|rfl|rfl|rfl<;>exact⟨_,rfl,rfl⟩
 ·intro g v Y2 c i hi W M H q A;have a:∀j:Nat,(g[j]?).getD false=true->g[j]?=some true:=fun j s=>by
   cases B:g[j]? with
   |none=>rw[B]at s;cases s
   |some b=>rw[B]at s;rw[show b=true from s]
  have hsz:g.size=14\/13<g.size:=by have:=(zM.1 M).1;omega
  have C:∀k,k<13->g[k]?=some true\/g[k]?=some false:=fun k hk=>by
   cases B:g[k]? with
   |none=>rw[Vc]at B;omega
   |some b=>cases b<;>simp
  have y:Y j=some ⟨65,2,false,[jP r]⟩:=u;have u:Y2 j=some ⟨65,2,false,[jP r]⟩:=by
   rcases C 12 (by decide)with h12|h12
   ·rw[(A.1 h12).1,U j s (mW J y (.inr rfl))];exact y
   ·rcases C 11 (by decide)with Pz|Pz
    ·rw[(A.2.1 h12 Pz).1,zD _ _ _ _ (by omega)];exact y
    ·rw[(A.2.2 h12 Pz).1];exact y
  have X:v 7=.fn (.func 12) [] []:=by rw[q.rest 7 (fun j _=>by show 157+j≠7;omega)];exact h7
  have rb:v 25=.ref j 0 0:=by rw[q.rest 25 (fun j _=>by show 157+j≠25;omega)];exact hv
  have rv:v 23=σ 23:=q.rest 23 (fun j _=>by show 157+j≠23;omega);simp only[jP]at u;have m:∀k,k≠11->k≠12->((g.setIfInBounds k true)[12]?=some true->Y2=F/\c=Z+2)/\((g.setIfInBounds k true)[12]?=some false->(g.setIfInBounds k true)[11]?=some true->Y2=qq Y Z (some ⟨9,1,true,[[str (bB r)]]⟩)/\c=Z+1)/\((g.setIfInBounds k true)[12]?=some false->(g.setIfInBounds k true)[11]?=some false->Y2=Y/\c=Z):=fun k h1 h2=>by rw[qL h2,qL h1];exact A
  obtain⟨-,o,f,hd⟩:=lR.1 H;have:i=0\/i=1\/i=2\/i=3\/i=4\/i=5\/i=6\/i=7\/i=8\/i=9\/i=10\/i=11\/i=12:=by omega
  rcases this with rfl|rfl|rfl|rfl|rfl|rfl|rfl|rfl|rfl|rfl|rfl|rfl|rfl
  ·refine⟨_,Y2,c,rfl,(qT _ _ _ _ _ _ _ _).trans ?_,m 0 (by decide) (by decide)⟩;simp[rv]
  ·refine⟨_,Y2,c,rfl,(qT _ _ _ _ _ _ _ _).trans ?_,m 1 (by decide) (by decide)⟩;simp[X]
  ·refine⟨_,Y2,c,rfl,(qT _ _ _ _ _ _ _ _).trans ?_,m 2 (by decide) (by decide)⟩;simp[rb]
  ·injection f with f;subst f;simp[Region.binds]at hd;have p:=q.done 2 (by decide) (a _ hd);simp at p;refine⟨_,Y2,c,rfl,(qT _ _ _ _ _ _ _ _).trans ?_,m 3 (by decide) (by decide)⟩;simp[p,u]
  ·injection f with f;subst f;simp[Region.binds]at hd;have p:=q.done 1 (by decide) (a _ hd.1);have w:=q.done 3 (by decide) (a _ hd.2);simp at p w;have hit:=kl r.1 Y2 c E.1 (by omega);refine⟨_,Y2,c,rfl,(qT _ _ _ _ _ _ _ _).trans ?_,m 4 (by decide) (by decide)⟩;simp[p,w,hit,jt]
  ·injection f with f;subst f;simp[Region.binds]at hd;have p:=q.done 4 (by decide) (a _ hd);simp at p;refine⟨_,Y2,c,rfl,(qT _ _ _ _ _ _ _ _).trans ?_,m 5 (by decide) (by decide)⟩;simp[p,m5]
  ·refine⟨_,Y2,c,rfl,(qT _ _ _ _ _ _ _ _).trans ?_,m 6 (by decide) (by decide)⟩;simp[X]
  ·refine⟨_,Y2,c,rfl,(qT _ _ _ _ _ _ _ _).trans ?_,m 7 (by decide) (by decide)⟩;simp[rb]
  ·injection f with f;subst f;simp[Region.binds]at hd;have p:=q.done 7 (by decide) (a _ hd);simp at p;refine⟨_,Y2,c,rfl,(qT _ _ _ _ _ _ _ _).trans ?_,m 8 (by decide) (by decide)⟩;simp[p,u]
  ·injection f with f;subst f;simp[Region.binds]at hd;have p:=q.done 6 (by decide) (a _ hd.1);have w:=q.done 8 (by decide) (a _ hd.2.1);simp at p w;have hit:=kl r.2 Y2 c E.2.2.1 (by omega);refine⟨_,Y2,c,rfl,(qT _ _ _ _ _ _ _ _).trans ?_,m 9 (by decide) (by decide)⟩;simp[p,w,hit,jt]
  ·injection f with f;subst f;simp[Region.binds]at hd;have p:=q.done 5 (by decide) (a _ hd.1);have w:=q.done 9 (by decide) (a _ hd.2);simp at p w;refine⟨_,Y2,c,rfl,(qT _ _ _ _ _ _ _ _).trans ?_,m 10 (by decide) (by decide)⟩;simp[p,w,L,G,bB]
  ·injection f with f;subst f;simp[Region.binds]at hd;have p:=q.done 10 (by decide) (a _ hd);simp at p;have Pz:=QM H;have h12:g[12]?=some false:=by
    rcases C 12 (by decide)with h|h
    ·have:=W 12 _ h rfl;simp[Region.binds]at this;rw[Pz]at this;simp at this
    ·exact h
   obtain⟨rfl,rfl⟩:=A.2.2 h12 Pz;have z:(g.setIfInBounds 11 true)[12]?=some false:=by rw[qL (by decide)];exact h12
   have N:(g.setIfInBounds 11 true)[11]?=some true:=by rw[wT (by omega)]
   refine⟨_,_,_,rfl,(qT _ _ _ _ _ _ _ _).trans ?_,⟨fun h=>?_,fun _ _=>⟨rfl,rfl⟩,fun _ h=>?_⟩⟩
   ·simp[p,zt,zJ,zr]
   ·rw[z]at h;cases h
   ·rw[N]at h;cases h
  ·injection f with f;subst f;simp[Region.binds]at hd;have p:=q.done 0 (by decide) (a _ hd.1);have w:=q.done 11 (by decide) (a _ hd.2.1);simp at p w;have h12:=QM H;obtain⟨rfl,rfl⟩:=A.2.1 h12 (a _ hd.2.1);have z:(g.setIfInBounds 12 true)[12]?=some true:=by rw[wT (by omega)]
   refine⟨_,_,_,rfl,(qT _ _ _ _ _ _ _ _).trans ?_,⟨fun _=>⟨rfl,rfl⟩,fun h _=>?_,fun h _=>?_⟩⟩
   ·simp[p,w,p1]
   ·rw[z]at h;cases h
   ·rw[z]at h;cases h
 ·intro g v Y2 c W H q A;have a:∀j:Nat,(g[j]?).getD false=true->g[j]?=some true:=fun j s=>by
   cases B:g[j]? with
   |none=>rw[B]at s;cases s
   |some b=>rw[B]at s;rw[show b=true from s]
  obtain⟨-,o,f,hd⟩:=lR.1 H;injection f with f;subst f;simp[Region.binds]at hd;obtain⟨x,d0,d1,d2,d3,d4,d5,d6,d7,d8,d9,P,Q,_⟩:=hd;have x:=a _ x;refine⟨fun i hi=>?_,fun l R=>?_⟩
  ·have:i=0\/i=1\/i=2\/i=3\/i=4\/i=5\/i=6\/i=7\/i=8\/i=9\/i=10\/i=11\/i=12:=by omega
   rcases this with rfl|rfl|rfl|rfl|rfl|rfl|rfl|rfl|rfl|rfl|rfl|rfl|rfl
   ·exact a _ d0
   ·exact a _ d1
   ·exact a _ d2
   ·exact a _ d3
   ·exact a _ d4
   ·exact a _ d5
   ·exact a _ d6
   ·exact a _ d7
   ·exact a _ d8
   ·exact a _ d9
   ·exact a _ P
   ·exact a _ Q
   ·exact x
  ·obtain⟨rfl,rfl⟩:=A.1 x;have I:=q.done 12 (by decide) x;simp at I;refine Wa.cons (st1:=⟨qq v 23 (.own (Z+1) 0 (D.length+1)),Y2,Z+2⟩) T rfl (fun d hd=>by simp at hd;subst hd;decide) ((qT _ _ _ _ _ _ _ _).trans ?_) (R _ ?_)
   ·simp[I]
   ·exact hK _ _ _ (fun t ht S=>by rw[zD _ _ _ _ S];exact q.rest t fun j _=>by show 157+j≠t;omega) (by simpa using p2) (by omega) (fun j b s hb he=>by rw[U j s (mW J hb he)];exact hb)
def Fx(b:Bk)(id:Nat)(cur:za)(st:St):Prop:=st.σ 1=.ref 0 0 0/\st.σ 5=.ref id 0 0/\st.σ 6=.fn (.func 9) [] [.ref id 0 0]/\st.σ 7=.fn (.func 12) [] []/\st.Y 0=some ⟨27,3,false,[b.V]⟩/\id≠0/\tn TB UB id st.Y st.Z cur
def TxL(b:Bk)(id:Nat)(cur:za)(n:Nat)(st:St):Prop:=∃k,k+n=b.zf.length/\Fx b id (cur++(b.zf.take k).flatMap QC) st/\st.σ 33=.sl 3 (b.zf.map w9.V)/\st.σ 34=int b.zf.length/\st.σ 35=int k
theorem Qh{α:Type}(f:α->za)(l:List α){k:Nat}(h:k<l.length):((l.take k).flatMap f).length+(f l[k]).length<=(l.flatMap f).length:=by
 have e:l=l.take k++l[k]::l.drop (k+1):=by rw[<-zc h,xB]
 have:(l.flatMap f).length=((l.take k).flatMap f).length+((f l[k]).length+((l.drop (k+1)).flatMap f).length):=by
  conv=>lhs;rw[e]
  rw[List.flatMap_append,List.flatMap_cons,zm,zm]
 omega
theorem vJ{α:Type}(f:α->za)(l:List α){k:Nat}(h:k<l.length)(cur:za):cur++(l.take (k+1)).flatMap f=(cur++(l.take k).flatMap f)++f l[k]:=by rw[zQ h,List.flatMap_append,qG];simp
theorem txL(b:Bk)(D:b.cb<=zA)(J:yg b=0){id:Nat}{σ:Nat->O}{Y:Hp}{Z:Nat}{cur:za}(E:Fx b id cur ⟨σ,Y,Z⟩)(d:σ 33=.sl 3 (b.zf.map w9.V))(c:σ 34=int b.zf.length)(a:σ 35=int 0)(F:cur.length+(b.zf.flatMap QC).length<=140737488355328) :
  Wp False K5 Tryz.f4.ntmps ((K4 0 Q4).getD .skip) ⟨σ,Y,Z⟩ (fun e r=>e=.normal/\Fx b id (cur++b.zf.flatMap QC) r):=by
 have i:=xX;have G:zA=268435456:=rfl;have l:=(VQ J).1;refine Wp.block (Wp.loop (TxL b id cur) b.zf.length ⟨0,by simp,by simpa using E,d,c,a⟩ ?_);clear E d c a σ Y Z;rintro n ⟨σ,Y,Z⟩ ⟨k,K,⟨s,t,o,p,g,hid,m⟩,d,c,a⟩;simp only at s t o p d c a g m;by_cases f:k<b.zf.length
 case neg=>
  obtain rfl:k=b.zf.length:=by omega
  refine Wp.cut i (fun σ' Y' Z'=>qq σ 36 (wb false)=σ'/\Y=Y'/\Z=Z') (by simp[c,a]) ?_;rintro _ _ _ ⟨rfl,rfl,rfl⟩;refine Wp.seq (Wp.of i ?_);rw[qf]at m;simp;exact⟨by simp[s],by simp[t],by simp[o],by simp[p],g,hid,m⟩
 obtain⟨x,q⟩:=wZ (b.zf[k]);refine Wp.cut i (fun σ' Y' Z'=>qq σ 36 (wb true)=σ'/\Y=Y'/\Z=Z') (by simp[c,a,f]) ?_;rintro _ _ _ ⟨rfl,rfl,rfl⟩;refine Wp.cut i (fun σ' Y' Z'=>qq σ 36 (wb true)=σ'/\Y=Y'/\Z=Z') (by simp) ?_;rintro _ _ _ ⟨rfl,rfl,rfl⟩;refine Wp.seq (Wp.block ?_);refine Wp.cut i (fun σ' Y' Z'=>σ' 1=.ref 0 0 0/\σ' 5=σ 5/\σ' 6=σ 6/\σ' 7=σ 7/\σ' 33=σ 33/\σ' 34=σ 34/\σ' 35=σ 35/\σ' 9=.ref Z 0 0/\qq Y Z (some ⟨47,3,false,[x.V]⟩)=Y'/\Z+1=Z') (by simp[s,d,a,f,q,w9.V]) ?_;rintro L _ _ ⟨M,N,H,I,u,v,w,P,rfl,rfl⟩;have y:=m.keep (Y':=qq Y Z (some ⟨47,3,false,[x.V]⟩)) (Z':=Z+1) (by omega) (fun j W=>by rw[zD _ _ _ _ (by omega)]);have z:=Qh QC b.zf f;rw[q]at z;refine zin x (H.trans o) (I.trans p) P (by omega) (by simp) (l x (by rw[<-q];exact zi f)) y (by rw[zm];show _+(QC x).length<=_;omega) ?_;intro Q Y2 R h A S B;simp only[vj,kM];have T:=qZ vR b.zf;have U:IntKind.i64.wrap ((k:Int)+1)=(k:Int)+1:=wS (by unfold Bk.cb at D;omega) (by unfold Bk.cb at D;omega);have C:=(h 35 (by decide)).trans (w.trans a);refine Wp.of i ?_;simp[C,U];refine⟨n-1,by omega,k+1,by omega,⟨?_,?_,?_,?_,?_,hid,?_⟩,?_,?_,?_⟩
 ·simp[h 1 (by decide),M]
 ·simp[h 5 (by decide),N,t]
 ·simp[h 6 (by decide),H,o]
 ·simp[h 7 (by decide),I,p]
 ·exact B 0 _ (by omega) (fun e=>hid e.symm) (by rw[zD _ _ _ _ (by have:=m.1;omega)];exact g) (by show 27≠UB;decide)
 ·rw[vJ QC b.zf f,q];exact A
 ·simp[h 33 (by decide),u,d]
 ·simp[h 34 (by decide),v,c]
 ·simp
def TxHi(b:Bk)(x:vi)(id:Nat)(cur:za)(a:Nat->O)(n:Nat)(st:St):Prop:=∃k,k+n=x.zf.length/\Fx b id (cur++(x.zf.take k).flatMap YB) st/\st.σ 70=.sl 1 (zy x.zf)/\st.σ 71=int x.zf.length/\st.σ 72=int k/\st.σ 52=a 52/\st.σ 53=a 53/\st.σ 54=a 54
theorem txHi(b:Bk)(x:vi)(H:x.zf.length<=zA){id:Nat}{σ:Nat->O}{Y:Hp}{Z:Nat}{cur:za}(C:Fx b id cur ⟨σ,Y,Z⟩)(c:σ 70=.sl 1 (zy x.zf))(a:σ 71=int x.zf.length)(d:σ 72=int 0)(D:cur.length+(x.zf.flatMap YB).length<=140737488355328) :
  Wp False K5 Tryz.f4.ntmps ((K4 4 Q4).getD .skip) ⟨σ,Y,Z⟩ (fun e f=>e=.normal/\Fx b id (cur++x.zf.flatMap YB) f/\f.σ 52=σ 52/\f.σ 53=σ 53/\f.σ 54=σ 54):=by
 have E:=xX;have F:zA=268435456:=rfl;refine Wp.block (Wp.loop (TxHi b x id cur σ) x.zf.length ⟨0,by simp,by simpa using C,c,a,d,rfl,rfl,rfl⟩ ?_);generalize σ=I;clear C c a d Y Z;rintro n ⟨σ,Y,Z⟩ ⟨k,J,⟨s,u,q,w,h,hid,o⟩,c,a,d,i,l,m⟩;simp only at s u q w c a d i l m h o;by_cases g:k<x.zf.length
 case neg=>
  obtain rfl:k=x.zf.length:=by omega
  rw[qf]at o;refine Wp.of E ?_;simp[a,d];exact⟨⟨by simp[s],by simp[u],by simp[q],by simp[w],h,hid,o⟩,i,l,m⟩
 obtain⟨t,r⟩:=wZ (x.zf[k]);have y:=Qh YB x.zf g;rw[r]at y;have p:(zy x.zf)[k]?=some [str t]:=by simp[zy,g,r]
 have z:(zy x.zf).length=x.zf.length:=by simp[zy]
 have A:=o.keep (Y':=qq Y Z (some ⟨9,1,true,zy [32::32::t]⟩)) (Z':=Z+1) (by omega) (fun j P=>by rw[zD _ _ _ _ (by omega)]);obtain⟨hp3,nx3,G,K,Q,L⟩:=Jr A (v:=.own Z 0 1) (xs:=[32::32::t]) (e:=9) (.inr ⟨Z,by omega,rfl,by simp⟩) (by simp) (by rw[zm];show _+(YB t).length<=_;omega);have M:=qe k;have N:t.length<=(YB t).length:=by unfold YB Vf;simp[Lib.join];omega
 have B:2+t.length<=maxLen:=by unfold maxLen;omega
 simp only[zy,z6,yX]at G;refine Wp.of E ?_;simp[q,c,a,d,g,p,z,r,B,zt,zJ,zr,G,M];refine⟨n-1,by omega,k+1,by omega,⟨by simp[s],by simp[u],by simp[q],by simp[w],?_,hid,?_⟩,by simp[c],by simp[a],by simp,by simp[i],by simp[l],by simp[m]⟩
 ·exact L 0 _ (by omega) (fun e=>hid e.symm) (by rw[zD _ _ _ _ (by have:=o.1;omega)];exact h) (by show 27≠UB;decide)
 ·rw[vJ YB x.zf g,r];exact K
def TxH(b:Bk)(id:Nat)(cur:za)(n:Nat)(st:St):Prop:=∃k,k+n=b.holds.length/\Fx b id (cur++(b.holds.take k).flatMap Yg) st/\st.σ 52=.sl 4 (b.holds.map vi.V)/\st.σ 53=int b.holds.length/\st.σ 54=int k
theorem txH(b:Bk)(C:b.cb<=zA)(c0:yg b=0){id:Nat}{σ:Nat->O}{Y:Hp}{Z:Nat}{cur:za}(hI:Fx b id cur ⟨σ,Y,Z⟩)(d:σ 52=.sl 4 (b.holds.map vi.V))(c:σ 53=int b.holds.length)(a:σ 54=int 0)(hlen:cur.length+(b.holds.flatMap Yg).length<=140737488355328) :
  Wp False K5 Tryz.f4.ntmps ((K4 2 Q4).getD .skip) ⟨σ,Y,Z⟩ (fun e D=>e=.normal/\Fx b id (cur++b.holds.flatMap Yg) D):=by
 have i:=xX;have GQ:zA=268435456:=rfl;have o:=(VQ c0).2.1;have hll:=qZ Q1 b.holds;refine Wp.block (Wp.loop (TxH b id cur) b.holds.length ⟨0,by simp,by simpa using hI,d,c,a⟩ ?_);clear hI d c a σ Y Z;rintro n ⟨σ,Y,Z⟩ ⟨k,PQ,⟨y,E,z,A,l,hid,m⟩,d,c,a⟩;simp only at y E z A d c a l m;by_cases g:k<b.holds.length
 case neg=>
  obtain rfl:k=b.holds.length:=by omega
  refine Wp.cut i (fun σ' Y' Z'=>qq σ 55 (wb false)=σ'/\Y=Y'/\Z=Z') (by simp[c,a]) ?_;rintro _ _ _ ⟨rfl,rfl,rfl⟩;refine Wp.seq (Wp.of i ?_);rw[qf]at m;simp;exact⟨by simp[y],by simp[E],by simp[z],by simp[A],l,hid,m⟩
 obtain⟨x,B⟩:=wZ (b.holds[k]);have p:x∈b.holds:=by rw[<-B];exact zi g
 have F:x.zf.length<=zA:=by have y:x.cb<=yn vi.cb b.holds:=yD p;have h2:=qZ (f:=fun s:List UInt8=>1+s.length) (fun s=>by omega) x.zf;have h3:x.cb=1+x.name.length+x.qp.length+yn (fun s=>1+s.length) x.zf:=rfl;unfold Bk.cb at C;omega
 refine Wp.cut i (fun σ' Y' Z'=>qq σ 55 (wb true)=σ'/\Y=Y'/\Z=Z') (by simp[c,a,g]) ?_;rintro _ _ _ ⟨rfl,rfl,rfl⟩;refine Wp.cut i (fun σ' Y' Z'=>qq σ 55 (wb true)=σ'/\Y=Y'/\Z=Z') (by simp) ?_;rintro _ _ _ ⟨rfl,rfl,rfl⟩;refine Wp.seq (Wp.block ?_);refine Wp.cut i (fun σ' Y' Z'=>σ' 1=.ref 0 0 0/\σ' 5=σ 5/\σ' 6=σ 6/\σ' 7=σ 7/\σ' 52=σ 52/\σ' 53=σ 53/\σ' 54=σ 54/\σ' 11=.ref Z 0 0/\qq Y Z (some ⟨49,4,false,[x.V]⟩)=Y'/\Z+1=Z') (by simp[y,d,a,g,B,vi.V]) ?_;rintro σ1 _ _ ⟨g1,g5,g6,g7,G,H,I,q,rfl,rfl⟩;have J:=m.keep (Y':=qq Y Z (some ⟨49,4,false,[x.V]⟩)) (Z':=Z+1) (by omega) (fun j hj=>by rw[zD _ _ _ _ (by omega)]);have K:=Qh Yg b.holds g;rw[B]at K;have hxb:(Yg x).length=(Vf [X9,x.name,x.qp,jt x.buckets]).length+(x.zf.flatMap YB).length:=by unfold Yg;rw[zm]
 refine Wp.seq (zio x (g6.trans z) (g7.trans A) q (by omega) (by simp) (o x p) J (by rw[zm];omega) ?_);intro σ2 Y2 L h M hnx r;simp only[kM];have b2:Y2 Z=some ⟨49,4,false,[x.V]⟩:=r Z _ (by omega) (by have:=m.1;omega) (by simp) (by show 49≠UB;decide);have b0:Y2 0=some ⟨27,3,false,[b.V]⟩:=r 0 _ (by omega) (fun e=>hid e.symm) (by rw[zD _ _ _ _ (by have:=m.1;omega)];exact l) (by show 27≠UB;decide);have N:=(h 11 (by decide)).trans q;simp only[vi.V]at b2;refine Wp.cut i (fun σ' Y' Z'=>σ' 1=.ref 0 0 0/\σ' 5=.ref id 0 0/\σ' 6=σ 6/\σ' 7=σ 7/\σ' 52=σ 52/\σ' 53=σ 53/\σ' 54=σ 54/\σ' 70=.sl 1 (zy x.zf)/\σ' 71=int x.zf.length/\σ' 72=int 0/\Y2=Y'/\L=Z') (by
  have P:(zy x.zf).length=x.zf.length:=by simp[zy]
  simp[N,b2,P,h 1 (by decide),g1,h 5 (by decide),g5,E,h 6 (by decide),g6,h 7 (by decide),g7,h 52 (by decide),G,h 53 (by decide),H,h 54 (by decide),I]) ?_
 rintro σ3 _ _ ⟨k1,k5,k6,k7,Q,R,S,T,U,W,rfl,rfl⟩;refine Wp.mono (txHi b x F (cur:=(cur++(b.holds.take k).flatMap Yg)++Vf [X9,x.name,x.qp,jt x.buckets]) ⟨k1,k5,k6.trans z,k7.trans A,b0,hid,M⟩ T U W (by rw[zm,zm];omega)) ?_;rintro e ⟨σ4,hp4,nx4⟩ ⟨rfl,⟨m1,m5,m6,m7,t,_,mB⟩,u,v,w⟩;simp only at m1 m5 m6 m7 t mB u v w;simp only[vj,kM];have hw:IntKind.i64.wrap ((k:Int)+1)=(k:Int)+1:=wS (by unfold Bk.cb at C;omega) (by unfold Bk.cb at C;omega);have X:=(w.trans S).trans a;refine Wp.of i ?_;simp[X,hw];refine⟨n-1,by omega,k+1,by omega,⟨by simp[m1],by simp[m5],by simp[m6],by simp[m7],t,hid,?_⟩,by simp[u,Q,d],by simp[v,R,c],by simp⟩;rw[vJ Yg b.holds g,B];unfold Yg;rw[<-qG];exact mB
theorem u7{id:Nat}{Y Y':Hp}{Z Z':Nat}{cur:za}(B:tn TB UB id Y Z cur)(i:Z<=Z')(a:∀j b,j<Z->Y j=some b->(b.e≠9\/b.arr=false)->Y' j=some b):tn TB UB id Y' Z' cur:=by
 obtain⟨hid,B⟩:=B;refine⟨by omega,?_⟩;rcases B with⟨rfl,c⟩|⟨m,g,d,h,c,f⟩
 ·exact .inl ⟨rfl,a id _ hid c (.inr rfl)⟩
 ·exact .inr ⟨m,g,by omega,h,a id _ hid c (.inr rfl),a m _ d f (.inl (by show UB≠9;decide))⟩
def GZ(b:Bk)(x:Xp)(id a:Nat)(cur:za)(st:St):Prop:=Fx b id cur st/\st.σ 15=.ref a 0 0/\a<st.Z/\a≠id/\st.Y a=some ⟨57,13,false,[x.V]⟩
def rj:za:=[32,32,97,114,109,115]
def TxAr(b:Bk)(x:Xp)(id c:Nat)(cur:za)(a:Nat->O)(n:Nat)(st:St):Prop:=∃k,k+n=x.yF.length/\GZ b x id c cur st/\st.σ 115=.sl 3 (x.yF.map Qq)/\st.σ 116=int x.yF.length/\st.σ 117=int k/\qN st.Y st.Z 9 1 (st.σ 18) (zy (rj::(x.yF.take k).map aa))/\st.σ 84=a 84/\st.σ 85=a 85/\st.σ 86=a 86
theorem Fy{α a:Type}(f:α->a)(l:List α){k:Nat}(h:k<l.length):(l.take (k+1)).map f=(l.take k).map f++[f l[k]]:=by rw[zQ h,JH];rfl
theorem txAr(b:Bk)(x:Xp)(F:Ve x)(hal:x.yF.length<=zA){id v:Nat}{σ:Nat->O}{Y:Hp}{Z:Nat}{cur:za}(hI:GZ b x id v cur ⟨σ,Y,Z⟩)(d:σ 115=.sl 3 (x.yF.map Qq))(c:σ 116=int x.yF.length)(a:σ 117=int 0)(i:qN Y Z 9 1 (σ 18) (zy [rj])) :
  Wp False K5 Tryz.f4.ntmps ((K4 8 Q4).getD .skip) ⟨σ,Y,Z⟩ (fun e f=>e=.normal/\GZ b x id v cur f/\qN f.Y f.Z 9 1 (f.σ 18) (zy (ch x))/\f.σ 84=σ 84/\f.σ 85=σ 85/\f.σ 86=σ 86):=by
 have u:=xX;have GQ:zA=268435456:=rfl;refine Wp.block (Wp.loop (TxAr b x id v cur σ) x.yF.length ⟨0,by simp,hI,d,c,a,by rw[kV];exact i,rfl,rfl,rfl⟩ ?_);generalize σ=σ0;clear hI d c a i Y Z;rintro n ⟨σ,Y,Z⟩ ⟨k,PQ,⟨⟨G,H,I,D,l,hid,E⟩,m,w,y,o⟩,d,c,a,i,p,q,s⟩;simp only at G H I D m d c a p q s l E w o i;by_cases h:k<x.yF.length
 case neg=>
  obtain rfl:k=x.yF.length:=by omega
  refine Wp.cut u (fun σ' Y' Z'=>qq σ 118 (wb false)=σ'/\Y=Y'/\Z=Z') (by simp[c,a]) ?_;rintro _ _ _ ⟨rfl,rfl,rfl⟩;refine Wp.seq (Wp.of u ?_);rw[qf]at i;simp;exact⟨⟨⟨by simp[G],by simp[H],by simp[I],by simp[D],l,hid,E⟩,by simp[m],w,y,o⟩,i,p,q,s⟩
 obtain⟨r,J⟩:=wZ (x.yF[k]);have K:r∈x.yF:=by rw[<-J];exact zi h
 refine Wp.cut u (fun σ' Y' Z'=>qq σ 118 (wb true)=σ'/\Y=Y'/\Z=Z') (by simp[c,a,h]) ?_;rintro _ _ _ ⟨rfl,rfl,rfl⟩;refine Wp.cut u (fun σ' Y' Z'=>qq σ 118 (wb true)=σ'/\Y=Y'/\Z=Z') (by simp) ?_;rintro _ _ _ ⟨rfl,rfl,rfl⟩;refine Wp.seq (Wp.block ?_);refine Wp.cut u (fun σ' Y' Z'=>σ' 1=.ref 0 0 0/\σ' 5=σ 5/\σ' 6=σ 6/\σ' 7=σ 7/\σ' 15=σ 15/\σ' 18=σ 18/\σ' 84=σ 84/\σ' 85=σ 85/\σ' 86=σ 86/\σ' 115=σ 115/\σ' 116=σ 116/\σ' 117=σ 117/\σ' 20=.ref Z 0 0/\qq Y Z (some ⟨60,3,false,[Qq r]⟩)=Y'/\Z+1=Z') (by simp[G,d,a,h,J,Qq]) ?_;rintro L _ _ ⟨g1,g5,g6,g7,M,N,P,Q,R,z,A,B,S,rfl,rfl⟩;have T:qN (qq Y Z (some ⟨60,3,false,[Qq r]⟩)) (Z+1) 9 1 (L 18) (zy (rj::(x.yF.take k).map aa)):=by rw[N];exact i.more _
 refine ziq r (g7.trans D) S (by omega) (by simp) (F.yF r K) T (by have:=List.length_take_le k x.yF;simp only[zx,Zn];omega) ?_;intro σ2 Y2 U g W X t;simp only[vj,kM];have hw:=qe k;have C:=(g 117 (by decide) (by decide)).trans (B.trans a);have hB2:=u7 (E.keep (Y':=qq Y Z (some ⟨60,3,false,[Qq r]⟩)) (Z':=Z+1) (by omega) (fun j hj=>by rw[zD _ _ _ _ (by omega)])) X t;refine Wp.of u ?_;simp[C,hw];refine⟨n-1,by omega,k+1,by omega,⟨⟨?_,?_,?_,?_,?_,hid,hB2⟩,?_,(by show v<U;omega),y,?_⟩,?_,?_,by simp,?_,?_,?_,?_⟩
 ·simp[g 1 (by decide) (by decide),g1]
 ·simp[g 5 (by decide) (by decide),g5,H]
 ·simp[g 6 (by decide) (by decide),g6,I]
 ·simp[g 7 (by decide) (by decide),g7,D]
 ·exact t 0 _ (by omega) (by rw[zD _ _ _ _ (by have:=E.1;omega)];exact l) (.inr rfl)
 ·simp[g 15 (by decide) (by decide),M,m]
 ·exact t v _ (by omega) (by rw[zD _ _ _ _ (by omega)];exact o) (.inr rfl)
 ·simp[g 115 (by decide) (by decide),z,d]
 ·simp[g 116 (by decide) (by decide),A,c]
 ·rw[Fy aa x.yF h,J];simpa using W
 ·simp[g 84 (by decide) (by decide),P,p]
 ·simp[g 85 (by decide) (by decide),Q,q]
 ·simp[g 86 (by decide) (by decide),R,s]
noncomputable abbrev Cxt:Ctx:=zV prog [(28,GC JL),(12,hP FIt)]
theorem Cu:AM.kB False Cxt (fun g=>[12].contains g):=qC mixed ⟨Cs,by simp,JI.lax,fun _=>zu _ _,trivial⟩
noncomputable def Uc (x:Xp):O:=if(Zc x.cond).2=0 then .w5 [str (bC x),int 0]else .w5 [str [],int (Zc x.cond).2]
noncomputable def FXt:zb->Option O:=qd (α:=Xp) (fun x=>[.agg x.V]) (fun x=>Ve x/\x.cb<=zA) Uc
theorem Ud(x:Xp)(Y:Hp)(Z:Nat)(h:Ve x/\x.cb<=zA):hP FXt [.agg x.V] Y Z=some (Uc x,Y,Z):=
 QL x _ _ (by simp only[zC,bb]) (fun a b e=>by simp only[zj,zG,O.agg.injEq]at e;exact cX e) h (by unfold Uc;split<;>exact .inl rfl)
noncomputable abbrev IQ:Code:=f17.body.getD .skip
noncomputable abbrev xtN:Nat:=f17.ntmps
def fm(r:Rg):za:=32::aa r
def rk(s:Sp):za:=32::bB s
def G3(x:Xp)(cur:za)(st:St):Prop:=st.σ 1=.ref 0 0 0/\st.Y 0=some ⟨57,13,false,[x.V]⟩/\1<=st.Z/\st.σ 6=str cur
def XtA(x:Xp)(cur:za)(n:Nat)(st:St):Prop:=∃k,k+n=x.yF.length/\G3 x (cur++(x.yF.take k).flatMap fm) st/\st.σ 42=.sl 3 (x.yF.map Qq)/\st.σ 43=int x.yF.length/\st.σ 44=int k
theorem xtA(x:Xp)(E:Ve x)(F:x.yF.length<=zA){σ:Nat->O}{Y:Hp}{Z:Nat}{cur:za}(u:G3 x cur ⟨σ,Y,Z⟩)(b:σ 42=.sl 3 (x.yF.map Qq))(a:σ 43=int x.yF.length)(c:σ 44=int 0)(v:cur.length+(x.yF.flatMap fm).length<=140737488355328) :
  Wp False Cxt xtN ((K4 0 IQ).getD .skip) ⟨σ,Y,Z⟩ (fun e s=>e=.normal/\G3 x (cur++x.yF.flatMap fm) s):=by
 have w:=Cu;have y:zA=268435456:=rfl;refine Wp.block (Wp.loop (XtA x cur) x.yF.length ⟨0,by simp,by simpa using u,b,a,c⟩ ?_);clear u b a c σ Y Z;rintro n ⟨σ,Y,Z⟩ ⟨k,G,⟨p,t,j,l⟩,b,a,c⟩;simp only at p t j l b a c;by_cases d:k<x.yF.length
 case neg=>
  obtain rfl:k=x.yF.length:=by omega
  rw[qf]at l;refine Wp.of w ?_;simp[a,c];exact⟨by simp[p],t,j,by simp[l]⟩
 obtain⟨r,q⟩:=wZ (x.yF[k]);have h:=Qh fm x.yF d;rw[q]at h;have z:=E.yF r (by rw[<-q];exact zi d);have A:=fun Y Z=>kl r.2.1 Y Z z.1 (by omega)
 have B:=fun Y Z=>kl r.2.2 Y Z z.2.2.1 (by omega)
 have C:fm r=32::(jt r.2.1++58::jt r.2.2):=rfl;have H:=qe k;have f:=vJ fm x.yF d cur;rw[q]at f;obtain⟨W,D⟩:=wZ (cur++(x.yF.take k).flatMap fm);have I:W.length=cur.length+((x.yF.take k).flatMap fm).length:=by rw[<-D,zm]
 rw[D]at l f;obtain⟨g,m⟩:=wZ (Lib.decDigits r.2.1.toNat);obtain⟨i,o⟩:=wZ (Lib.decDigits r.2.2.toNat);rw[m]at A;rw[o]at B;simp only[jt,m,o]at C;rw[C]at h f;simp only[zx,zm]at h;have J:1+g.length<=maxLen:=by unfold maxLen;omega
 have K:g.length+1<=maxLen:=by unfold maxLen;omega
 have L:g.length+1+1<=maxLen:=by unfold maxLen;omega
 have M:g.length+1+i.length<=maxLen:=by unfold maxLen;omega
 have N:g.length+1+1+i.length<=maxLen:=by unfold maxLen;omega
 have P:W.length+(g.length+1+1+i.length)<=maxLen:=by unfold maxLen;omega
 have Q:W.length+(g.length+1+i.length+1)<=maxLen:=by unfold maxLen;omega
 have R:W.length+(g.length+(i.length+1)+1)<=maxLen:=by unfold maxLen;omega
 have S:g.length+(i.length+1)+1<=maxLen:=by unfold maxLen;omega
 refine Wp.of w ?_;simp[p,l,b,a,c,d,q,Qq,A,B,H,J,K,L,M,N,P,Q,R,S];refine⟨n-1,by omega,k+1,by omega,⟨by simp[p],?_,by show 1<=Z+1;omega,?_⟩,by simp[b],by simp[a],by simp⟩
 ·simp[t,show¬0=Z by omega]
 ·simp[f]
def XtS(x:Xp)(p:yz)(a:Nat->O)(cur:za)(n:Nat)(st:St):Prop:=∃k,k+n=p.qJ.length/\G3 x (cur++(p.qJ.take k).flatMap rk) st/\st.σ 76=.sl 2 (p.qJ.map jP)/\st.σ 77=int p.qJ.length/\st.σ 78=int k/\st.σ 63=a 63/\st.σ 64=a 64/\st.σ 65=a 65
theorem xtS(x:Xp)(J:Ve x)(p:yz)(y:p∈x.zF)(K:p.qJ.length<=zA){σ:Nat->O}{Y:Hp}{Z:Nat}{cur:za}(A:G3 x cur ⟨σ,Y,Z⟩)(b:σ 76=.sl 2 (p.qJ.map jP))(a:σ 77=int p.qJ.length)(c:σ 78=int 0)(B:cur.length+(p.qJ.flatMap rk).length<=140737488355328) :
  Wp False Cxt xtN ((K4 4 IQ).getD .skip) ⟨σ,Y,Z⟩ (fun e d=>e=.normal/\G3 x (cur++p.qJ.flatMap rk) d/\d.σ 63=σ 63/\d.σ 64=σ 64/\d.σ 65=σ 65):=by
 have C:=Cu;have D:zA=268435456:=rfl;refine Wp.block (Wp.loop (XtS x p σ cur) p.qJ.length ⟨0,by simp,by simpa using A,b,a,c,rfl,rfl,rfl⟩ ?_);generalize σ=L;clear A b a c Y Z;rintro n ⟨σ,Y,Z⟩ ⟨k,M,⟨v,z,q,s⟩,b,a,c,i,j,l⟩;simp only at v z q s b a c i j l;by_cases f:k<p.qJ.length
 case neg=>
  obtain rfl:k=p.qJ.length:=by omega
  rw[qf]at s;refine Wp.of C ?_;simp[a,c];exact⟨⟨by simp[v],z,q,by simp[s]⟩,by simp[i],by simp[j],by simp[l]⟩
 obtain⟨r,w⟩:=wZ (p.qJ[k]);have m:=Qh rk p.qJ f;rw[w]at m;have E:=J.spn p y r (by rw[<-w];exact zi f);have F:=fun Y Z=>kl r.1 Y Z E.1 (by omega)
 have G:=fun Y Z=>kl r.2 Y Z E.2.2.1 (by omega)
 have H:rk r=32::(jt r.1++45::jt r.2):=rfl;have N:=qe k;have g:=vJ rk p.qJ f cur;rw[w]at g;obtain⟨W,I⟩:=wZ (cur++(p.qJ.take k).flatMap rk);have P:W.length=cur.length+((p.qJ.take k).flatMap rk).length:=by rw[<-I,zm]
 rw[I]at s g;obtain⟨h,t⟩:=wZ (Lib.decDigits r.1.toNat);obtain⟨o,u⟩:=wZ (Lib.decDigits r.2.toNat);rw[t]at F;rw[u]at G;simp only[jt,t,u]at H;rw[H]at m g;simp only[zx,zm]at m;have Q:1+h.length<=maxLen:=by unfold maxLen;omega
 have R:h.length+1<=maxLen:=by unfold maxLen;omega
 have S:h.length+1+1<=maxLen:=by unfold maxLen;omega
 have T:h.length+1+o.length<=maxLen:=by unfold maxLen;omega
 have U:h.length+1+1+o.length<=maxLen:=by unfold maxLen;omega
 have X:W.length+(h.length+1+1+o.length)<=maxLen:=by unfold maxLen;omega
 have m7:W.length+(h.length+1+o.length+1)<=maxLen:=by unfold maxLen;omega
 have m8:W.length+(h.length+(o.length+1)+1)<=maxLen:=by unfold maxLen;omega
 have m9:h.length+(o.length+1)+1<=maxLen:=by unfold maxLen;omega
 refine Wp.of C ?_;simp[v,s,b,a,c,f,w,jP,F,G,N,Q,R,S,T,U,X,m7,m8,m9];refine⟨n-1,by omega,k+1,by omega,⟨by simp[v],?_,by show 1<=Z+1;omega,?_⟩,by simp[b],by simp[a],by simp,by simp[i],by simp[j],by simp[l]⟩
 ·simp[z,show¬0=Z by omega]
 ·simp[g]
def XtP(x:Xp)(cur:za)(n:Nat)(st:St):Prop:=∃k,k+n=x.zF.length/\G3 x (cur++(x.zF.take k).flatMap c8) st/\st.σ 63=.sl 2 (x.zF.map yz.V)/\st.σ 64=int x.zF.length/\st.σ 65=int k
theorem xtP(x:Xp)(T:Ve x)(U:x.zF.length<=zA)(w:∀p∈x.zF,p.qJ.length<=zA){σ:Nat->O}{Y:Hp}{Z:Nat}{cur:za}(X:G3 x cur ⟨σ,Y,Z⟩)(d:σ 63=.sl 2 (x.zF.map yz.V))(b:σ 64=int x.zF.length)(a:σ 65=int 0)(hlen:cur.length+(x.zF.flatMap c8).length<=140737488355328) :
  Wp False Cxt xtN ((K4 2 IQ).getD .skip) ⟨σ,Y,Z⟩ (fun e c=>e=.normal/\G3 x (cur++x.zF.flatMap c8) c):=by
 have h:=Cu;have GQ:zA=268435456:=rfl;refine Wp.block (Wp.loop (XtP x cur) x.zF.length ⟨0,by simp,by simpa using X,d,b,a⟩ ?_);clear X d b a σ Y Z;rintro n ⟨σ,Y,Z⟩ ⟨k,PQ,⟨y,z,o,q⟩,d,b,a⟩;simp only at y z o q d b a;by_cases f:k<x.zF.length
 case neg=>
  obtain rfl:k=x.zF.length:=by omega
  rw[qf]at q;refine Wp.cut h (fun σ' Y' Z'=>qq σ 66 (wb false)=σ'/\Y=Y'/\Z=Z') (by simp[b,a]) ?_;rintro _ _ _ ⟨rfl,rfl,rfl⟩;refine Wp.seq (Wp.of h ?_);simp;exact⟨by simp[y],z,o,by simp[q]⟩
 obtain⟨p,l⟩:=wZ (x.zF[k]);have m:p∈x.zF:=by rw[<-l];exact zi f
 have i:=Qh c8 x.zF f;have g:=vJ c8 x.zF f cur;rw[l]at i g;obtain⟨W,hW⟩:=wZ (cur++(x.zF.take k).flatMap c8);have hWl:W.length=cur.length+((x.zF.take k).flatMap c8).length:=by rw[<-hW,zm]
 rw[hW]at q g;have hn:=T.phs p m;have i1:=fun Y Z=>kl p.at_ Y Z hn.1 (by omega)
 have hq:c8 p=[32,32,97,116,32]++jt p.at_++p.qJ.flatMap rk++[10]:=rfl;obtain⟨j,r⟩:=wZ (Lib.decDigits p.at_.toNat);rw[r]at i1;simp only[jt,r]at hq;rw[hq]at i g;simp only[zx,zm,qj]at i;refine Wp.cut h (fun σ' Y' Z'=>qq σ 66 (wb true)=σ'/\Y=Y'/\Z=Z') (by simp[b,a,f]) ?_;rintro _ _ _ ⟨rfl,rfl,rfl⟩;refine Wp.cut h (fun σ' Y' Z'=>qq σ 66 (wb true)=σ'/\Y=Y'/\Z=Z') (by simp) ?_;rintro _ _ _ ⟨rfl,rfl,rfl⟩;refine Wp.seq (Wp.block ?_);have m1:5+j.length<=maxLen:=by unfold maxLen;omega
 have m2:W.length+(j.length+5)<=maxLen:=by unfold maxLen;omega
 have m3:j.length+5<=maxLen:=by unfold maxLen;omega
 refine Wp.cut h (fun σ' Y' Z'=>σ' 1=.ref 0 0 0/\σ' 63=σ 63/\σ' 64=σ 64/\σ' 65=σ 65/\σ' 6=σ 6/\σ' 10=.ref Z 0 0/\qq Y Z (some ⟨63,2,false,[p.V]⟩)=Y'/\Z+1=Z') (by simp[y,d,a,f,l,yz.V]) ?_;rintro σ1 _ _ ⟨g1,A,B,C,g6,E,rfl,rfl⟩;have q6:=g6.trans q;refine Wp.cut h (fun σ' Y' Z'=>σ' 1=.ref 0 0 0/\σ' 63=σ 63/\σ' 64=σ 64/\σ' 65=σ 65/\σ' 10=.ref Z 0 0/\σ' 6=str (W++([32,32,97,116,32]++j))/\qq Y Z (some ⟨63,2,false,[p.V]⟩)=Y'/\Z+1=Z') (by simp[g1,A,B,C,q6,E,yz.V,i1,m1,m2,m3]) ?_;rintro σ2 _ _ ⟨k1,F,G,H,I,k6,rfl,rfl⟩;refine Wp.seq (Wp.mono (K:=fun e c=>e=.normal/\G3 x (W++([32,32,97,116,32]++j)++p.qJ.flatMap rk) c/\c.σ 63=σ 63/\c.σ 64=σ 64/\c.σ 65=σ 65) ?_ ?_)
 ·refine Wp.cut h (fun σ' Y' Z'=>σ' 1=.ref 0 0 0/\σ' 63=σ 63/\σ' 64=σ 64/\σ' 65=σ 65/\σ' 76=.sl 2 (p.qJ.map jP)/\σ' 77=int p.qJ.length/\σ' 78=int 0/\σ' 6=str (W++([32,32,97,116,32]++j))/\qq Y Z (some ⟨63,2,false,[p.V]⟩)=Y'/\Z+1=Z') (by simp[k1,F,G,H,I,k6,yz.V]) ?_;rintro σ3 _ _ ⟨j1,J,L,M,N,P,Q,j6,rfl,rfl⟩;refine Wp.mono (xtS x T p m (w p m) (cur:=W++([32,32,97,116,32]++j)) ⟨j1,?_,by show 1<=Z+1;omega,j6⟩ N P Q ?_) ?_
  ·show qq Y Z _ 0=_;rw[zD _ _ _ _ (by omega)];exact z
  ·simp only[zm,zx,qj];omega
  ·rintro e c ⟨rfl,v,l2,l3,l4⟩;exact⟨rfl,v,l2.trans J,l3.trans L,l4.trans M⟩
 rintro e ⟨σ4,hp4,nx4⟩ ⟨rfl,⟨v,lb,ln,R⟩,s,t,u⟩;simp only at v lb ln R s t u;simp only[kM];have hw:=qe k;have S:=u.trans a;obtain⟨D,hD⟩:=wZ (p.qJ.flatMap rk);rw[hD]at R g i;have m4:W.length+(j.length+D.length+1+1+1+1+1)+1<=maxLen:=by unfold maxLen;omega
 refine Wp.of h ?_;simp[R,m4];refine Wp.of h ?_;simp[S,hw];refine⟨n-1,by omega,k+1,by omega,⟨by simp[v],lb,ln,?_⟩,by simp[s,d],by simp[t,b],by simp⟩;simp[g]
theorem Ue:yY False prog 17 (hP FXt):=
 YU (C:=Cxt) (fn:=f17) (code:=_) func17 (by kernel_rfl) rfl false [] _ fun args r h=>by
  obtain⟨x,rfl,⟨y,U⟩,rfl⟩:=zO h;clear h;refine⟨by simp[f17],?_⟩;have i:=Cu;have S:zA=268435456:=rfl;have hc:x.cb=x.name.length+x.wH.length+x.flag.length+x.cond.cb+x.qp.length+x.yF.length+yn yz.cb x.zF:=rfl;have X:=qZ J4 x.zF;have z:∀p∈x.zF,p.qJ.length<=zA:=fun p Y=>by have h3:p.cb<=yn yz.cb x.zF:=yD Y;have t:p.cb=1+p.qJ.length:=rfl;omega
  have j:=Mb y;have l:∀Y Z,GC JL [.agg x.cond.V] Y Z=some (.w5 [str (Zc x.cond).1,int (Zc x.cond).2],Y,Z):=fun Y Z=>vx JL x.cond Y Z (by omega)
  simp only[we]at l;refine Wp.cut i (fun σ Y Z=>σ 1=.ref 0 0 0/\Y 0=some ⟨57,13,false,[x.V]⟩/\Z=1) (by simp[qK]) ?_;rintro σ Y _ ⟨d,a,rfl⟩;have c:=a;simp only[qK]at c;obtain⟨b,k⟩:=wZ ((Zc x.cond).1);have hcl:b.length<=20000:=by rw[<-k];exact EZ x.cond
  have m:=zfl x;rw[k]at l m;refine Wp.cut i (fun σ Y Z=>σ 1=.ref 0 0 0/\Y 0=some ⟨57,13,false,[x.V]⟩/\Z=1/\σ 4=str b/\σ 5=int (Zc x.cond).2) (by simp[d,c,l,qK]) ?_;clear d a c σ Y;rintro σ Y _ ⟨d,a,rfl,t,A⟩;by_cases v:(Zc x.cond).2=0
  case neg=>
   have B:=vX v;have w:Uc x=.w5 [str [],int (Zc x.cond).2]:=by unfold Uc;rw[ze v]
   refine Wp.seq (Wp.of i ?_);simp[A,B,w,f17];exact⟨_,rfl,z8 _⟩
  have w:Uc x=.w5 [str (mq x b++x.yF.flatMap fm++[10]++x.zF.flatMap c8),int 0]:=by unfold Uc;rw[zd v,<-m];rfl
  have PO:(mq x b).length+((x.yF.flatMap fm).length+(1+(x.zF.flatMap c8).length))<=30000*(x.cb+1):=by rw[<-m]at j;simp only[zm,zx,qj]at j;have:(x.yF.flatMap fm).length=(x.yF.flatMap fun r=>32::aa r).length:=rfl;omega
  have hq0:(mq x b).length=27+x.name.length+x.wH.length+x.flag.length+x.qp.length+b.length:=by simp[mq,sK];omega
  refine Wp.cut i (fun σ Y Z=>σ 1=.ref 0 0 0/\Y 0=some ⟨57,13,false,[x.V]⟩/\Z=1/\σ 4=str b) (by simp[d,a,t,A,v]) ?_;clear d a t A σ Y;rintro σ Y _ ⟨d,a,rfl,t⟩;have c:=a;simp only[qK]at c;have n:(([101,120,112,101,114,105,109,101,110,116,32]:za)).length+x.name.length<=maxLen:=by unfold maxLen;simp;omega
  have D:(([101,120,112,101,114,105,109,101,110,116,32]:za)++x.name).length+([32]:za).length<=maxLen:=by unfold maxLen;simp;omega
  have E:(([101,120,112,101,114,105,109,101,110,116,32]:za)++x.name++([32]:za)).length+x.wH.length<=maxLen:=by unfold maxLen;simp;omega
  have F:(([101,120,112,101,114,105,109,101,110,116,32]:za)++x.name++([32]:za)++x.wH).length+([32]:za).length<=maxLen:=by unfold maxLen;simp;omega
  have G:(([101,120,112,101,114,105,109,101,110,116,32]:za)++x.name++([32]:za)++x.wH++([32]:za)).length+x.flag.length<=maxLen:=by unfold maxLen;simp;omega
  have o:(([101,120,112,101,114,105,109,101,110,116,32]:za)++x.name++([32]:za)++x.wH++([32]:za)++x.flag).length+([32]:za).length<=maxLen:=by unfold maxLen;simp;omega
  have H:(([101,120,112,101,114,105,109,101,110,116,32]:za)++x.name++([32]:za)++x.wH++([32]:za)++x.flag++([32]:za)).length+x.qp.length<=maxLen:=by unfold maxLen;simp;omega
  have I:(([101,120,112,101,114,105,109,101,110,116,32]:za)++x.name++([32]:za)++x.wH++([32]:za)++x.flag++([32]:za)++x.qp).length+([10,32,32,105,102,32]:za).length<=maxLen:=by unfold maxLen;simp;omega
  have J:(([101,120,112,101,114,105,109,101,110,116,32]:za)++x.name++([32]:za)++x.wH++([32]:za)++x.flag++([32]:za)++x.qp++([10,32,32,105,102,32]:za)).length+b.length<=maxLen:=by unfold maxLen;simp;omega
  have q:(([101,120,112,101,114,105,109,101,110,116,32]:za)++x.name++([32]:za)++x.wH++([32]:za)++x.flag++([32]:za)++x.qp++([10,32,32,105,102,32]:za)++b).length+([10,32,32,97,114,109,115]:za).length<=maxLen:=by unfold maxLen;simp;omega
  simp at n D E F G o H I J q;refine Wp.cut i (fun σ Y Z=>G3 x (mq x b) ⟨σ,Y,Z⟩) (by simp[d,c,t,G3,qK,mq,sK,n,D,E,F,G,o,H,I,J,q]) ?_;clear n D E F G o H I J q;clear d a c t σ Y;rintro σ Y Z u;refine Wp.seq (Wp.mono (K:=fun e s=>e=.normal/\G3 x (mq x b++x.yF.flatMap fm) s) ?_ ?_)
  ·obtain⟨d,a,f,g⟩:=u;have c:=a;simp only[qK]at d g c;refine Wp.cut i (fun σ' Y' Z'=>σ' 1=.ref 0 0 0/\σ' 6=str (mq x b)/\σ' 42=.sl 3 (x.yF.map Qq)/\σ' 43=int x.yF.length/\σ' 44=int 0/\Y=Y'/\Z=Z') (by simp[d,c,g]) ?_;rintro σ' _ _ ⟨n,o,L,M,N,rfl,rfl⟩;exact xtA x y (by omega) ⟨n,a,f,o⟩ L M N (by omega)
  clear u σ Y Z;rintro e ⟨σ,Y,Z⟩ ⟨rfl,d,a,f,g⟩;simp only at d a f g;simp only[kM];obtain⟨W,T⟩:=wZ (mq x b++x.yF.flatMap fm);have hWl:W.length=(mq x b).length+(x.yF.flatMap fm).length:=by rw[<-T,zm]
  rw[T]at g w;have m1:W.length+1<=maxLen:=by unfold maxLen;omega
  refine Wp.cut i (fun σ Y Z=>G3 x (W++[10]) ⟨σ,Y,Z⟩) (by simp[d,a,g,m1,G3,f]) ?_;clear d a f g σ Y Z;rintro σ Y Z u;refine Wp.seq (Wp.mono (K:=fun e s=>e=.normal/\G3 x (W++[10]++x.zF.flatMap c8) s) ?_ ?_)
  ·obtain⟨d,a,f,g⟩:=u;have c:=a;simp only[qK]at d g c;refine Wp.cut i (fun σ' Y' Z'=>σ' 1=.ref 0 0 0/\σ' 6=str (W++[10])/\σ' 63=.sl 2 (x.zF.map yz.V)/\σ' 64=int x.zF.length/\σ' 65=int 0/\Y=Y'/\Z=Z') (by simp[d,c,g]) ?_;rintro σ' _ _ ⟨n,o,P,Q,R,rfl,rfl⟩;exact xtP x y (by omega) z ⟨n,a,f,o⟩ P Q R (by rw[zm];simp only[zx,qj];omega)
  clear u σ Y Z;rintro e ⟨σ,Y,Z⟩ ⟨rfl,d,a,f,g⟩;simp only at d a f g;simp only[kM];refine Wp.of i ?_;simp[g,w,f17];exact⟨_,rfl,z8 _⟩
theorem s9:zg prog 130 (hP (mi X7)):=
 yy (fn:=f130) je (qX func130) false [] _ fun args r h=>by obtain⟨a,rfl,rfl⟩:=J0 h;exact⟨by simp[f130],_,zn rfl (by simp[X7,jG,f130]),z8 _⟩
theorem Uf(s:za):(wc 33 126 s&&(!(s==[])&&decide ((s.length:Int)<=40)))=Yf s:=by
 cases s with
 |nil=>rfl
 |cons c s=>rw[qA];simp[Yf,Zb,jG];exact⟨fun h=>⟨⟨by omega,h.2⟩,h.1,by omega,by omega⟩,fun h=>⟨h.2.1,h.1.2⟩⟩
theorem Cv(l:za)(h:l.length<=zA):zv C0 f82 [str l]=some (wb (Yf l)):=by
 refine zn rfl ?_;unfold zA at h;rw[<-Uf];simp;refine zL (fun k σ Y Z=>σ 0=str l/\σ 5=int l.length/\σ 6=int k/\wc 33 126 l=wc 33 126 (l.drop k)) l.length ⟨by simp,by simp,by simp,by simp⟩ ?_;rintro k σ Y Z j ⟨d,e,f,b⟩;by_cases a:k<l.length
 ·have i:=qe k;rw[xJ a]at b;have g:=Vz 33 126 l[k];simp only[xF]at g;cases c:pr 33 126 l[k]
  ·have b:wc 33 126 l=false:=by rw[b,c];rfl
   simp[d,e,f,a,b,g,c,f82]
  ·simp[d,e,f,a,g,c,i];exact⟨a,by rw[b,c];rfl⟩
 ·obtain rfl:k=l.length:=by omega
  have b:wc 33 126 l=true:=by rw[b,zp];rfl
  simp[d,e,f,b,f82]
theorem WU:zg prog 82 (hP (FS Yf)):=
 vM je func82 false [] fun l Y=>⟨by simp[f82],_,Cv l Y,z8 _⟩
def xO(name a:za)(first:Bool):Int:=if wy name=true then(if(!first&&Xh name a)=true then 8 else 0)else 5
noncomputable def FNb (f:za->za->Bool->O):zb->Option O:=qd (α:=za×za×Bool) (fun a=>[str a.1,str a.2.1,wb a.2.2]) (fun a=>a.1.length<=zA) (fun a=>f a.1 a.2.1 a.2.2)
theorem fo(f:za->za->Bool->O)(a b:za)(c:Bool)(Y:Hp)(Z:Nat)(h:a.length<=zA)(d:(f a b c).flat=true):hP (FNb f) [str a,str b,wb c] Y Z=some (f a b c,Y,Z):=
 QL (a,b,c) _ _ rfl (fun x y e=>by obtain⟨g,i,j⟩:=x;obtain⟨k,l,m⟩:=y;simp only[zj,zG]at e;rw[wC e.1,wC e.2.1,Wt e.2.2]) h (.inl d)
noncomputable abbrev Cnd4:Ctx:=zV prog [(75,hP (FS wy))]
theorem J7:zg prog 81 (hP (FNb fun a b c=>int (xO a b c))):=
 vM (zW mixed ⟨Z1,trivial⟩:AM.Good Cnd4 _) func81 false [] fun⟨a,b,c⟩ d=>by
  have e:(Op.bytesLess a b||a==b)=Xh a b:=rfl;refine⟨by simp[f81],_,zn rfl ?_,z8 _⟩;simp only at d;cases f:wy a
  ·simp[d,f,xO,f81]
  ·cases c
   ·cases g:Xh a b
    ·simp[d,f,e,g,xO,f81]
    ·simp[d,f,e,g,xO,f81]
   ·simp[d,f,xO,f81]
def kF(s:za):List w9->Option w9
 |[]=>none
 |x::l=>if x.name=s then some x else kF s l
def YK:Option w9->O
 |some x=>.w5 [.agg x.V,wb true]
 |none=>.w5 [.agg [str [],str [],int 0],wb false]
noncomputable def FBS (out:Bk->za->O):zb->Option O:=qd (α:=Bk×za) (fun a=>[.agg a.1.V,str a.2]) (fun a=>a.1.cb<=zA) (fun a=>out a.1 a.2)
theorem ax(out:Bk->za->O)(b:Bk)(s:za)(Y:Hp)(Z:Nat)(h:b.cb<=zA):hP (FBS out) [.agg b.V,str s] Y Z=some (out b s,Y,Z):=
 QL (b,s) _ _ (by simp only[zC,K0];rfl) (fun x y e=>by obtain⟨a,c⟩:=x;obtain⟨d,f⟩:=y;simp only[zj,zG,O.agg.injEq]at e;rw[Kr e.1,wC e.2]) h (.inr (by simp only[wi,pE];rfl))
theorem ta(b:Bk)(s:za)(h:b.cb<=zA):zv C0 f44 [.agg b.V,str s]=some (YK (kF s b.zf)):=by
 refine zn rfl ?_;have p:=qZ vR b.zf;have q:b.cb=yn w9.cb b.zf+yn vi.cb b.holds+yn Xp.cb b.zU:=rfl;unfold zA at h;simp[Bk.V];refine zL (fun k σ Y Z=>σ 1=str s/\σ 4=.ref 1 0 0/\2<=Z/\Y 1=some ⟨47,3,false,[[str [],str [],int 0]]⟩/\σ 9=.sl 3 (b.zf.map w9.V)/\σ 10=int b.zf.length/\σ 11=int k/\kF s b.zf=kF s (b.zf.drop k)) b.zf.length
  ⟨by simp,by simp,by simp,by simp,by simp,by simp,by simp,by simp⟩ ?_
 rintro k σ Y Z u ⟨j,l,r,m,n,c,d,a⟩;have n1:¬1=Z:=by omega
 have g:¬Z=1:=by omega
 by_cases e:k<b.zf.length
 ·obtain⟨x,o⟩:=wZ (b.zf[k]);have t:=qe k;rw[zc e,o]at a;simp only[kF]at a;by_cases i:x.name=s
  ·rw[zd i]at a;have f:(x.name==s)=true:=by simpa using i
   rw[a];simp[j,l,n,c,d,e,o,w9.V,m,n1,g,f,YK,wK,f44]
  ·rw[ze i]at a;have f:=jN i;simp[j,l,n,c,d,e,o,w9.V,m,n1,g,f,t];exact⟨by omega,by omega,a⟩
 ·obtain rfl:k=b.zf.length:=by omega
  rw[zp]at a;simp only[kF]at a;rw[a];simp[j,l,n,c,d,m,YK,wK,qv,qS,f44]
theorem ZB:zg prog 44 (hP (FBS fun b s=>YK (kF s b.zf))):=
 vM je func44 false [] fun⟨b,s⟩ a=>⟨by simp[f44],_,ta b s a,z8 _⟩
def bG(v:za):Nat->List za->Int
 |_,[]=>-1
 |k,s::l=>if v=s then k else bG v (k+1) l
theorem Fz(v:za):∀(l:List za) (k:Nat),decide (0<=bG v k l)=decide (v∈l)
 |[],k=>by simp[bG]
 |s::l,k=>by
  by_cases h:v=s
  ·have e:bG v k (s::l)=k:=by simp only[bG,zd h]
   rw[e];simp[h]
  ·have e:bG v k (s::l)=bG v (k+1) l:=by simp only[bG,ze h]
   rw[e,Fz v l (k+1)];simp[h]
noncomputable def OP (out:List za->za->O):zb->Option O:=qd (α:=List za×za) (fun a=>[.sl 1 (zy a.1),str a.2]) (fun a=>a.1.length<=zA) (fun a=>out a.1 a.2)
theorem Ug:∀a b:List za×za,[O.sl 1 (zy a.1),str a.2]=[O.sl 1 (zy b.1),str b.2]->a=b:=by rintro⟨f,g⟩ ⟨h,i⟩ e;simp only[zj,zG]at e;obtain⟨c,d⟩:=e;injection c with _ c;rw[km c,wC d]
theorem ay(out:List za->za->O)(l:List za)(v:za)(Y:Hp)(Z:Nat)(h:l.length<=zA):zh false [1] (OP out) [.sl 1 (zy l),str v] Y Z=some (out l v,Y,Z):=
 yI rfl (qD (V:=fun a:List za×za=>[O.sl 1 (zy a.1),str a.2]) (a:=(l,v)) Ug h) (.inr rfl)
theorem Cw(out:List za->za->O){l:List za}{v:za}{Y:Hp}{Z e:Nat}{x:O}(c:qN Y Z e 1 x (zy l))(h:l.length<=zA)(b:(out l v).flat=true):zh false [1] (OP out) [x,str v] Y Z=some (out l v,Y,Z):=by
 have hs:OP out [.sl 1 (zy l),str v]=some (out l v):=qD (V:=fun a:List za×za=>[O.sl 1 (zy a.1),str a.2]) (a:=(l,v)) Ug h;rcases c with⟨rfl,d⟩|⟨id,hid,rfl,f⟩
 ·have g:l=[]:=by simpa[zy]using d
  subst g;exact yI (Y1:=Y) rfl hs (.inl b)
 ·exact yI (Y1:=qq Y id none) (show zC Y [.own id 0 (zy l).length,str v]=some ([.sl 1 (zy l),str v],qq Y id none) by
   simp[f]
   try rw[zZ (by simp)]) hs (.inl b)
theorem OQ(l:List za)(v:za)(h:l.length<=zA):zv C0 f79 [.sl 1 (zy l),str v]=some (int (bG v 0 l)):=by
 refine zn rfl ?_;unfold zA at h;have b:(zy l).length=l.length:=by simp[zy]
 simp[b];refine zL (fun k σ Y Z=>σ 0=.sl 1 (zy l)/\σ 1=str v/\σ 7=int l.length/\σ 8=int k/\bG v 0 l=bG v k (l.drop k)) l.length ⟨by simp,by simp,by simp,by simp,by simp⟩ ?_;rintro k σ Y Z p ⟨i,j,m,n,a⟩;by_cases c:k<l.length
 ·obtain⟨s,hs⟩:=wZ (l[k]);have o:=qe k;have e:∀h:k<(zy l).length,(zy l)[k]=[str s]:=fun h=>by simp[zy,hs]
  have f:k<(zy l).length:=by omega
  rw[zc c,hs]at a;simp only[bG]at a;by_cases g:v=s
  ·rw[zd g]at a;have d:(v==s)=true:=by simpa using g
   simp[i,j,m,n,c,b,f,e,d,a,f79]
  ·rw[ze g]at a;have d:=jN g;simp[i,j,m,n,c,b,f,e,d,o];exact⟨by omega,a⟩
 ·obtain rfl:k=l.length:=by omega
  rw[zp]at a;simp only[bG]at a;simp[i,j,m,n,a,f79]
theorem IU:zg prog 79 (zh false [1] (OP fun l v=>int (bG v 0 l))):=
 vM je func79 false [1] fun⟨l,v⟩ a=>⟨by simp[f79],_,OQ l v a,z8 _⟩
noncomputable abbrev Cctt:Ctx:=zV prog [(79,zh false [1] (OP fun l v=>int (bG v 0 l)))]
theorem kQ:zg prog 39 (zh false [1] (OP fun l v=>wb (decide (v∈l)))):=
 vM (zW mixed ⟨IU,trivial⟩:AM.Good Cctt _) func39 false [1] fun⟨l,v⟩ a=>by
  have b:=fun Y Z=>ay (fun l v=>int (bG v 0 l)) l v Y Z a
  have c:=Fz v l 0;exact⟨by simp[f39],_,zn rfl (by simp[b,c,f39]),z8 _⟩
end Go.Q
namespace Go.Proofs
open Go.Shelf
end Go.Proofs
namespace Go.Q
theorem zci{s:za}(h:wy s=true):s≠[]:=fun e=>by rw[e]at h;exact absurd h (by decide)
def zis(a b:Sp):Prop:=a.2<=b.1\/b.2<=a.1
theorem rl:∀{lo:Int} {l:List Sp},ll lo l->∀s∈l,lo<s.1
 |_,[],_,s,h=>by simp at h
 |lo,x::l,a,s,h=>by
  rcases zw.1 h with rfl|h
  ·exact a.1
  ·have:=rl a.2.2 s h;have:=a.1;have:=a.2.1;omega
theorem dq:∀(l m:List Sp) {lo e:Int},ll lo l->ll e m->va l m=false->∀a∈l,∀c∈m,zis a c
 |[],m,_,_,_,_,_,a,b,c,d=>by simp at b
 |x::l,[],_,_,_,_,_,a,b,c,d=>by simp at d
 |x::l,y::m,lo,e,f,i,h,a,b,c,d=>by
  rw[va]at h;split at h
  ·rename_i g;have j:=dq l (y::m) f.2.2 i h;rcases zw.1 b with rfl|b
   ·left;rcases zw.1 d with rfl|d
    ·exact g
    ·have:=rl i.2.2 c d;have:=i.2.1;omega
   ·exact j a b c d
  ·split at h
   ·rename_i g;have j:=dq (x::l) m f i.2.2 h;rcases zw.1 d with rfl|d
    ·right;rcases zw.1 b with rfl|b
     ·exact g
     ·have:=rl f.2.2 a b;have:=f.2.1;omega
    ·exact j a b c d
   ·exact absurd h (by simp)
termination_by l m=>l.length+m.length
def cp(a c:Sp):Bool:=decide (a.1<c.2)&&decide (c.1<a.2)
def kj(a b:List Sp):Bool:=a.any fun s=>b.any (cp s)
theorem FA(a b:List Sp)(x:a.length<=zA)(y:b.length<=zA):zv C0 f88 [.sl 2 (a.map jP),.sl 2 (b.map jP)]=some (wb (kj a b)):=by
 unfold zA at x y;refine zn rfl ?_;simp;refine zL (fun i σ Y Z=>σ 1=.sl 2 (b.map jP)/\σ 9=.sl 2 (a.map jP)/\σ 10=int a.length/\σ 11=int i/\kj a b=kj (a.drop i) b) a.length
  ⟨by simp,by simp,by simp,by simp,by simp⟩ ?_
 rintro i σ Y Z hi ⟨g,h,c,d,e⟩;by_cases n:i<a.length
 ·obtain⟨s,hs⟩:=wZ (a[i]);have z:=qe i;rw[zc n,hs]at e;have e:kj a b=(b.any (cp s)||kj (a.drop (i+1)) b):=by rw[e];simp[kj]
  simp[g,h,c,d,n,hs,jP];obtain⟨P,hP⟩:=wZ Z;rw[hP];refine zL (fun k σ Y Z=>σ 1=.sl 2 (b.map jP)/\σ 9=.sl 2 (a.map jP)/\σ 10=int a.length/\σ 11=int i/\σ 6=.ref P 0 0/\σ 15=.sl 2 (b.map jP)/\σ 16=int b.length/\σ 17=int k/\P<Z/\Y P=some ⟨65,2,false,[[int s.1,int s.2]]⟩/\kj a b=((b.drop k).any (cp s)||kj (a.drop (i+1)) b)) b.length
   ⟨by simp[g],by simp[h],by simp[c],by simp[d],by simp,by simp,by simp,by simp,(by show P<P+1;omega),by simp,by simpa using e⟩ ?_
  clear g h c d e hi hP σ Y Z;rintro k σ Y Z B ⟨g,h,c,d,q,j,l,m,A,v,e⟩;by_cases f:k<b.length
  ·obtain⟨t,r⟩:=wZ (b[k]);have u:=qe k;have w:¬P=Z:=by omega
   rw[zc f,r,wX]at e;have o:(decide (s.1<t.2)&&decide (t.1<s.2))=cp s t:=rfl;cases p:cp s t
   ·rw[p,yN]at e;simp[g,q,h,c,d,j,l,m,f,r,jP,v,w,o,p,u];exact⟨by omega,by omega,e⟩
   ·rw[p,V3,V3]at e;simp[g,q,h,c,d,j,l,m,f,r,jP,v,w,o,p,e,f88]
  ·obtain rfl:k=b.length:=by omega
   rw[zp,List.any_nil,yN]at e;simp[g,q,h,c,d,j,l,m,z];exact⟨by omega,e⟩
 ·obtain rfl:i=a.length:=by omega
  rw[zp]at e;have e:kj a b=false:=by rw[e];rfl
  simp[g,h,c,d,e,f88]
theorem Cx:zg prog 88 (hP (S7 (fun a b=>wb (kj a b)) fun a b=>a.length<=zA/\b.length<=zA)):=
 vM je func88 false [] fun⟨a,b⟩ c=>⟨by simp[f88],_,FA a b c.1 c.2,z8 _⟩
theorem dt:∀(l m:List Sp),va l m=true->∃a∈l,∃c∈m,cp a c=true
 |[],m,h=>by rw[lr]at h;cases h
 |x::l,[],h=>by rw[lu]at h;cases h
 |x::l,y::m,h=>by
  rw[va]at h;split at h
  ·obtain⟨a,b,c,d,e⟩:=dt l (y::m) h;exact⟨a,by simp[b],c,d,e⟩
  ·split at h
   ·obtain⟨a,b,c,d,e⟩:=dt (x::l) m h;exact⟨a,b,c,by simp[d],e⟩
   ·exact⟨x,by simp,y,by simp,by simp[cp];omega⟩
termination_by l m=>l.length+m.length
theorem du{a b:List Sp}(d:jc a=0)(f:jc b=0):kj a b=va a b:=by
 have c:kj a b=true↔∃x∈a,∃y∈b,cp x y=true:=by simp[kj]
 cases h:va a b
 ·rw[MG];intro i;obtain⟨x,j,y,k,e⟩:=c.1 i;have:=dq a b (Kq d).1 (Kq f).1 h x j y k;simp[cp]at e;rcases this with g|g<;>omega
 ·exact c.2 (dt a b h)
def iw(l:List yz)(i:Nat):Int:=match l[i+1]? with
 |some p=>p.at_
 |none=>8200000000
noncomputable def FXn (out:Xp->Nat->O):zb->Option O:=qd (α:=Xp×Nat) (fun a=>[.agg a.1.V,int a.2]) (fun a=>a.1.zF.length<=zA/\a.2<=zA) (fun a=>out a.1 a.2)
theorem Uh(out:Xp->Nat->O)(x:Xp)(n:Nat)(Y:Hp)(Z:Nat)(h:x.zF.length<=zA/\n<=zA):hP (FXn out) [.agg x.V,int n] Y Z=some (out x n,Y,Z):=
 QL (x,n) _ _ (by simp only[zC,bb];rfl) (fun x y e=>by obtain⟨c,a⟩:=x;obtain⟨d,b⟩:=y;simp only[zj,zG,O.agg.injEq]at e;have:=qR e.2;rw[cX e.1,show a=b by omega]) h (.inr (by simp only[wi,Tg];rfl))
theorem IV:zg prog 87 (hP (FXn fun x i=>int (iw x.zF i))):=
 vM je func87 false [] fun⟨x,i⟩ ⟨d,e⟩=>by
  unfold zA at d e;simp only at d e;refine⟨by simp[f87],_,zn rfl ?_,z8 _⟩;have f:=qe i;by_cases b:i+1<x.zF.length
  ·have a:(i:Int)+1<x.zF.length:=by omega
   have g:((i:Int)+1).toNat=i+1:=by omega
   have h:0<=(i:Int)+1:=by omega
   simp[qK,f,b,a,g,h,iw,yz.V,f87]
  ·have a:¬(i:Int)+1<x.zF.length:=by omega
   have c:x.zF[i+1]?=none:=jk (by omega);simp[qK,f,a,iw,c,f87]
theorem Ui{a b:za}(h:jS a b=0):wy a=true/\Op.bytesLess b a=true:=by
 unfold jS at h;split at h
 ·rename_i c;split at h
  ·exact absurd h (by simp)
  ·rename_i d;exact⟨c,Zy (by simpa using d)⟩
 ·exact absurd h (by simp)
theorem iy:∀{xs:List w9} {a:za} {l:List za},(wz a l xs).1=0->(∀y∈xs,Op.bytesLess a y.name=true)/\eR (xs.map w9.name)/\(wz a l xs).2=l++xs.map w9.qp
 |[],_,l,_=>⟨fun y b=>by simp at b,.nil,by simp[wz]⟩
 |x::xs,a,l,h=>by
  simp only[wz]at h⊢;split at h
  ·rename_i d;rw[zd d];split at h
   ·rename_i e;rw[zd e];split at h
    ·rename_i i;rw[zd i];have f:=(Ui d).2;obtain⟨g,j,k⟩:=iy h;refine⟨fun y b=>?_,?_,?_⟩
     ·rcases zw.1 b with rfl|b
      ·exact f
      ·exact Qr f (g y b)
     ·rw[z6];exact yj.2 ⟨fun s hs=>by obtain⟨y,b,rfl⟩:=q9.1 hs;exact g y b,j⟩
     ·rw[k];unfold vk;rw[zd e];simp
    ·exact absurd h (by simp)
   ·rename_i c;exact absurd h c
  ·rename_i c;exact absurd h c
theorem Cy{L:List w9}:∀{xs:List vi} {a:za} {l:List za},(yq L a l xs).1=0->(yq L a l xs).2=l++xs.map vi.qp
 |[],_,l,_=>by simp[yq]
 |x::xs,a,l,h=>by
  simp only[yq]at h⊢;split at h
  ·rename_i d;rw[zd d];split at h
   ·rename_i b;rw[zd b];split at h
    ·rename_i e;rw[zd e,Cy h];unfold vk;rw[zd b];simp
    ·rename_i c;exact absurd h c
   ·rename_i c;exact absurd h c
  ·rename_i c;exact absurd h c
theorem Uj{L:List w9}{a:za}{l:List za}{x:Xp}(h:(ZU L a l x).1=0):(ZU L a l x).2=l++[x.qp]:=by
 unfold ZU at h⊢;split at h
 ·rename_i d;rw[zd d];split at h
  ·rename_i e;rw[zd e];split at h
   ·rename_i f;rw[zd f];split at h
    ·rename_i g;rw[zd g];split at h
     ·rename_i b;rw[zd b];split at h
      ·rename_i i;rw[zd i];unfold vk;rw[zd b]
      ·rename_i c;exact absurd h c
     ·rename_i c;exact absurd h c
    ·rename_i c;exact absurd h c
   ·exact absurd h (by simp)
  ·exact absurd h (by simp)
 ·rename_i c;exact absurd h c
theorem J8(name a:za)(first:Bool):xO name a first=jS name (if first=true then[]else a):=by
 unfold xO jS;cases h:wy name
 ·simp
 ·cases first
  ·simp
  ·have b:=zci h;have:Xh name []=false:=by
    cases name with
    |nil=>exact absurd rfl b
    |cons c l=>simp[Xh,Op.bytesLess]
   simp[this]
theorem u9:∀{L:List w9} {s:za},(∃y∈L,y.name=s)->∃j:Nat,∃h:j<L.length,kF s L=some L[j]/\L[j].name=s
 |[],s,h=>by obtain⟨y,hy,_⟩:=h;cases hy
 |x::L,s,h=>by
  by_cases a:x.name=s
  ·exact⟨0,by simp,by simp[kF,a],a⟩
  ·obtain⟨y,hy,e⟩:=h;rcases zw.1 hy with rfl|hy
   ·exact absurd e a
   ·obtain⟨j,b,c,d⟩:=u9 ⟨y,hy,e⟩;exact⟨j+1,by simpa using b,by simp[kF,a,c],by simpa using d⟩
theorem lH:∀{L:List w9} {s:za},(∀y∈L,y.name≠s)->kF s L=none
 |[],s,_=>rfl
 |x::L,s,h=>by have a:=h x (by simp);simp only[kF,ze a];exact lH fun y b=>h y (by simp[b])
theorem fp{L:List w9}(h:eR (L.map w9.name))(s:za):((ZF (L.map w9.name) s).2=true/\∃j,∃a:j<L.length,(ZF (L.map w9.name) s).1=j/\kF s L=some L[j])\/((ZF (L.map w9.name) s).2=false/\kF s L=none):=by
 by_cases b:∃y∈L,y.name=s
 ·obtain⟨j,a,d,f⟩:=u9 b;have:=BK h (j:=j) (s:=s) (by simp[a,f]);rw[this];exact .inl ⟨rfl,j,a,rfl,d⟩
 ·refine .inr ⟨?_,lH fun y g e=>b ⟨y,g,e⟩⟩;cases i:(ZF (L.map w9.name) s).2 with
  |false=>rfl
  |true=>
   have:=BJ i;rw[qz]at this;cases c:L[(ZF (L.map w9.name) s).1]? with
   |none=>rw[c]at this;cases this
   |some y=>rw[c]at this;simp only[zH,qa]at this;exact absurd ⟨y,zN c,this⟩ b
def tc(d:List yz)(i:Nat)(p:yz)(rest:Int)(q:yz):Bool:=decide (p.at_<=q.at_)&&decide (q.at_<iw d i+rest)&&kj p.qJ q.qJ
def PI(d e:List yz)(rest:Int):Nat->List yz->Bool
 |_,[]=>false
 |i,p::l=>e.any (tc d i p rest)||PI d e rest (i+1) l
def xP(a b:Xp)(rest:Int):Bool:=PI a.zF b.zF rest 0 a.zF
theorem Cz(d e:List yz)(rest:Int):∀(l:List yz) (i:Nat),PI d e rest i l=true↔∃(m:Nat) (p:yz),l[m]?=some p/\∃q∈e,tc d (i+m) p rest q=true
 |[],i=>by simp[PI]
 |x::l,i=>by
  simp only[PI,qx,Cz d e rest l (i+1),Yo];constructor
  ·rintro (⟨q,a,h⟩|⟨m,p,b,q,a,h⟩)
   ·exact⟨0,x,rfl,q,a,h⟩
   ·exact⟨m+1,p,by simpa using b,q,a,by rw[show i+(m+1)=i+1+m by omega];exact h⟩
  ·rintro⟨m,p,b,q,a,h⟩;cases m with
   |zero=>simp at b;subst b;exact .inl ⟨q,a,h⟩
   |succ m=>exact .inr ⟨m,p,by simpa using b,q,a,by rw[show i+1+m=i+(m+1) by omega];exact h⟩
theorem VW(a b:List yz)(i:Nat)(p:yz)(rest:Int):∀(l:List yz) (k:Nat),Yz a b i p rest k l=true↔∃(m:Nat) (q:yz),l[m]?=some q/\EO a b i (k+m) p q rest=true
 |[],k=>by simp[Yz]
 |x::l,k=>by
  simp only[Yz,qx,VW a b i p rest l (k+1)];constructor
  ·rintro (h|⟨m,q,c,h⟩)
   ·exact⟨0,x,rfl,h⟩
   ·exact⟨m+1,q,by simpa using c,by rw[show k+(m+1)=k+1+m by omega];exact h⟩
  ·rintro⟨m,q,c,h⟩;cases m with
   |zero=>simp at c;subst c;exact .inl h
   |succ m=>exact .inr ⟨m,q,by simpa using c,by rw[show k+1+m=k+(m+1) by omega];exact h⟩
theorem rm(a b:List yz)(rest:Int):∀(l:List yz) (i:Nat),YA a b rest i l=true↔∃(m:Nat) (p:yz),l[m]?=some p/\Yz a b (i+m) p rest 0 b=true
 |[],i=>by simp[YA]
 |x::l,i=>by
  simp only[YA,qx,rm a b rest l (i+1)];constructor
  ·rintro (h|⟨m,q,c,h⟩)
   ·exact⟨0,x,rfl,h⟩
   ·exact⟨m+1,q,by simpa using c,by rw[show i+(m+1)=i+1+m by omega];exact h⟩
  ·rintro⟨m,q,c,h⟩;cases m with
   |zero=>simp at c;subst c;exact .inl h
   |succ m=>exact .inr ⟨m,q,by simpa using c,by rw[show i+1+m=i+(m+1) by omega];exact h⟩
theorem fq{l:List yz}{i:Nat}{t rest:Int}(a:0<=t/\t<=4000000000)(b:0<=rest):t<X8 l i+rest↔t<iw l i+rest:=by
 unfold X8 iw;cases l[i+1]? with
 |some p=>exact Iff.rfl
 |none=>simp only;omega
theorem Aa(a b:List Sp):kj a b=kj b a:=by
 have c:∀a b:List Sp,kj a b=true->kj b a=true:=by intro a b h;simp only[kj,Yo]at h⊢;obtain⟨s,hs,t,d,h⟩:=h;refine⟨t,d,s,hs,?_⟩;simp only[cp,zE,zS]at h⊢;exact⟨h.2,h.1⟩
 rw[qA];exact⟨c a b,c b a⟩
theorem IW{x y:Xp}{rest:Int}(g:0<=rest)(m:VO x.zF)(n:VO y.zF)(j:∀p∈x.zF,jc p.qJ=0)(l:∀p∈y.zF,jc p.qJ=0):Ks x y rest=(xP y x rest||xP x y rest):=by
 rw[qA,qx];unfold Ks xP;rw[rm,Cz,Cz];constructor
 ·rintro⟨i,p,Y,h⟩;rw[VW]at h;obtain⟨k,q,f,h⟩:=h;simp only[wg]at h;have a:=zN Y;have b:=zN f;simp only[EO,uG,zE,qx,zS]at h;obtain⟨o,c⟩:=h;rw[<-du (j p a) (l q b)]at c;rcases o with⟨d,e⟩|⟨d,e⟩
  ·right;refine⟨i,p,Y,q,b,?_⟩;simp only[tc,wg,zE,zS];exact⟨⟨d,(fq (n q b) g).1 e⟩,c⟩
  ·left;refine⟨k,q,f,p,a,?_⟩;simp only[tc,wg,zE,zS];exact⟨⟨d,(fq (m p a) g).1 e⟩,by rw[Aa];exact c⟩
 ·rintro (⟨k,q,f,p,a,h⟩|⟨i,p,Y,q,b,h⟩)
  ·have b:=zN f;obtain⟨i,hi,rfl⟩:=List.getElem_of_mem a;simp only[tc,wg,zE,zS]at h;obtain⟨⟨d,e⟩,c⟩:=h;refine⟨i,x.zF[i],zq hi,?_⟩;rw[VW];refine⟨k,q,f,?_⟩;rw[Aa]at c;rw[du (j _ a) (l q b)]at c;simp only[EO,uG,wg,zE,qx,zS];exact⟨.inr ⟨d,(fq (m _ a) g).2 e⟩,c⟩
  ·have a:=zN Y;obtain⟨k,r,rfl⟩:=List.getElem_of_mem b;simp only[tc,wg,zE,zS]at h;obtain⟨⟨d,e⟩,c⟩:=h;refine⟨i,p,Y,?_⟩;rw[VW];refine⟨k,y.zF[k],zq r,?_⟩;rw[du (j p a) (l _ b)]at c;simp only[EO,uG,wg,zE,qx,zS];exact⟨.inl ⟨d,(fq (n _ b) g).2 e⟩,c⟩
def CA:Option yz->List yz->Int
 |_,[]=>0
 |p,x::l=>if X7 x.at_=true then(if(match p with
   |none=>false
   |some q=>decide (x.at_<=q.at_))=true then 8 else if jc x.qJ=0 then(if(match p with
   |none=>x.qJ.isEmpty
   |some q=>decide (x.qJ=q.qJ))=true then 7 else CA (some x) l)else jc x.qJ)else 1
def K6(l:List yz):Int:=if(50:Int)<l.length then 2 else CA none l
theorem Ab:∀(l:List yz) (p:Option yz),CA p l=Da (p.map (·.at_)) ((p.map (·.qJ)).getD []) l
 |[],p=>rfl
 |x::l,p=>by
  simp only[CA,Da];rw[Ab l (some x)];cases p with
  |none=>
   have:(x.qJ.isEmpty=true)=(x.qJ=[]):=by simp
   simp only[hC,xg,Option.getD_none,this,zH,Yn]
  |some q=>simp only[hC,zH,Yn,zS]
theorem CB(l:List yz):K6 l=yU l:=by unfold K6 yU;rw[Ab];rfl
theorem FB{l:List za}{s:za}(h:jg l s=0):vk l s=l++[s]:=by unfold vk;rw[zd h]
theorem FD(l:List za)(s:za):zy l++[[str s]]=zy (l++[s]):=by simp[zy]
theorem qN.zah{Y:Hp}{Z:Nat}{v:O}{l:List za}{s:za}{tmp:Option Blk}:qN (qq (Qx v (qq Y Z tmp)) (Z+1) (some ⟨9,1,true,zy (l++[s])⟩)) (Z+2) 9 1 (.own (Z+1) 0 (l.length+1)) (zy (l++[s])):=
 .inr ⟨Z+1,by omega,by simp,by simp⟩
theorem JD(y:w9):YK (some y)=.w5 [.agg [str y.name,str y.qp,int y.rest],wb true]:=rfl
theorem dv:YK none=.w5 [.agg [str [],str [],int 0],wb false]:=rfl
def fQ(Y:Hp)(Z:Nat)(v:O):Prop:=(∀id o n,v≠.own id o n)/\∀id i j,v=.ref id i j->id<Z/\∃blk,Y id=some blk/\blk.arr=false
@[simp]theorem zit(Y:Hp)(Z:Nat)(x:zb):fQ Y Z (.w5 x):=⟨(fun _ _ _ e=>by cases e),(fun _ _ _ e=>by cases e)⟩
theorem K7{Y:Hp}{Z id i j:Nat}{blk:Blk}(a:id<Z)(b:Y id=some blk)(c:blk.arr=false):fQ Y Z (.ref id i j):=
 ⟨(fun _ _ _ e=>by cases e),fun id' i' j' e=>by injection e with e;subst e;exact⟨a,blk,b,c⟩⟩
theorem FE{L:List Tmp}{st:St}(b:∀s∈L,s<zB)(h:∀s∈L,fQ st.Y st.Z (st.σ s)):QH L st:=fun s hs=>⟨h s hs,fun a=>absurd (b s hs) (Nat.not_lt.2 a)⟩
theorem fQ.keep{Y Y':Hp}{Z Z':Nat}{v:O}(h:fQ Y Z v)(f:Z<=Z')(b:∀id blk,id<Z->Y id=some blk->blk.arr=false->Y' id=some blk):fQ Y' Z' v:=
 ⟨h.1,fun id i j e=>by obtain⟨c,blk,d,a⟩:=h.2 id i j e;exact⟨by omega,blk,b id blk c d a,a⟩⟩
theorem bn{Y:Hp}{Z e s:Nat}{v:O}{xs:List zb}(a:qN Y Z e s v xs){c d:Option Blk}{id:Nat}{blk:Blk}(hid:id<Z)(b:Y id=some blk)(f:blk.arr=false):qq (Qx v (qq Y Z c)) (Z+1) d id=some blk:=by rw[zz _ _ _ _ (by omega),yr a _ id (KY a b f),zz _ _ _ _ (by omega)];exact b
noncomputable def FLys (out:List w9->O):zb->Option O:=qd (α:=List w9) (fun l=>[.sl 3 (l.map w9.V)]) (fun l=>yn w9.cb l<=zA) out
theorem Ac(out:List w9->O)(l:List w9)(Y:Hp)(Z:Nat)(h:yn w9.cb l<=zA):hP (FLys out) [.sl 3 (l.map w9.V)] Y Z=some (out l,Y,Z):=
 QL l _ _ rfl (fun a b e=>by
  simp only[zj,zG]at e;injection e with _ e
  exact jZ (fun _ _=>eQ) e) h (.inr rfl)
def LayI(xs:List w9)(k:Nat)(Y:Hp)(Z:Nat)(v w:O):Prop:=∃(a:za) (l:List za),v=str a/\qN Y Z 9 1 w (zy l)/\(k=0->a=[])/\l.length<=k/\wz [] [] xs=wz a l (xs.drop k)
noncomputable abbrev Crly:Ctx:=Yv prog [(81,hP (FNb fun a b c=>int (xO a b c))),(82,hP (FS Yf)),(39,zh false [1] (OP fun l v=>wb (decide (v∈l))))] 15 [6,43,46] []
theorem zcj:Gd Crly:=nZ mixed ⟨J7,by simp,WU,by simp,kQ,by simp,trivial⟩ (by simp[gg])
theorem CC(xs:List w9)(h:yn w9.cb xs<=zA):zv Crly f41 [.sl 3 (xs.map w9.V)]=some (int (wz [] [] xs).1):=by
 refine zn rfl ?_;have Q:=qZ vR xs;unfold zA at h;simp;refine zL (fun k σ Y Z=>σ 8=.sl 3 (xs.map w9.V)/\σ 9=int xs.length/\σ 10=int k/\fQ Y Z (σ 43)/\fQ Y Z (σ 46)/\LayI xs k Y Z (σ 4) (σ 3)) xs.length
  ⟨by simp,by simp,by simp,by simp,by simp,[],[],by simp,.inl ⟨by simp,rfl⟩,by simp,by simp,by simp⟩ ?_
 rintro k σ Y Z hk ⟨r,u,e,G,H,before,l,A,T,I,U,d⟩;by_cases g:k<xs.length
 ·obtain⟨x,w⟩:=wZ (xs[k]);have J:=yD (f:=w9.cb) (zi g);rw[w]at J;have W:x.cb=1+x.name.length+x.qp.length:=rfl;rw[zc g,w]at d;simp only[wz]at d;have X:=qe k;have D:=J8 x.name before (decide (k=0));have K:xO x.name before (decide (k=0))=jS x.name before:=by
   rw[D];by_cases R:k=0
   ·rw[I R];simp
   ·simp[R]
  have m:=fun Y Z=>fo (fun a b c=>int (xO a b c)) x.name before (decide (k=0)) Y Z (by unfold zA;omega) rfl
  simp only[K]at m;have o:((k:Int)==0)=decide (k=0):=by rw[qA];simp
  have p:x.qp.length<=zA:=by unfold zA;omega
  have q:=T.more (some ⟨47,3,false,[x.V]⟩);have n:=Cw (fun l v=>wb (decide (v∈l))) (v:=x.qp) q (by unfold zA;omega) rfl;have B:=qN.yx (P:=prog) (t:=38) (c:=[str x.qp]) q Jn mI oa ob rfl (by omega) (by rw[wa];unfold maxLen;omega) (by rw[wa];omega);rw[FD]at B;simp only[w9.V]at n B;by_cases y:jS x.name before=0
  case neg=>rw[ze y]at d;have L:=vX y;simp[A,r,u,e,g,w,w9.V,o,m,L,d,f41]
  rw[zd y]at d;cases z:Yf x.qp
  ·have C:jg l x.qp=3:=by simp[jg,z]
   rw[C]at d;simp at d;simp[A,r,u,e,g,w,w9.V,o,m,y,p,z,d,f41]
  by_cases F:x.qp∈l
  ·have C:jg l x.qp=7:=by simp[jg,z,F]
   rw[C]at d;simp at d;rw[kp F]at n;simp[A,r,u,e,g,w,w9.V,o,m,y,p,z,n,d,f41]
  have C:jg l x.qp=0:=by simp[jg,z,F]
  rw[zd C,FB C]at d;rw[kr F]at n;by_cases M:x.rest<0
  ·have E:jG x.rest 0 100000000=false:=by simp[jG];omega
   rw[E,ze (by simp)]at d;simp[A,r,u,e,g,w,w9.V,o,m,y,p,z,n,M,d,f41]
  by_cases S:100000000<x.rest
  ·have E:jG x.rest 0 100000000=false:=by simp[jG];omega
   rw[E,ze (by simp)]at d;simp[A,r,u,e,g,w,w9.V,o,m,y,p,z,n,M,S,d,f41]
  have E:jG x.rest 0 100000000=true:=by simp[jG];omega
  rw[E,zd rfl]at d;simp[A,r,u,e,g,w,w9.V,o,m,y,p,z,n,M,S];rw[Xg (FE (by decide) (by
   intro s hs;simp at hs;rcases hs with rfl|rfl|rfl
   ·exact K7 (id:=Z) (i:=0) (j:=0) (by simp) (by simp;rfl) rfl
   ·simp;exact G.keep (by omega) fun id blk hid N _=>by rw[zz _ _ _ _ (by omega)];exact N
   ·simp;exact H.keep (by omega) fun id blk hid N _=>by rw[zz _ _ _ _ (by omega)];exact N))]
  simp[A,r,u,e,X,B,zt,zJ,zr];exact⟨by omega,K7 (by omega) (bn q (by omega) (by simp;rfl) rfl) rfl,K7 (by omega) (bn q (by omega) (by simp;rfl) rfl) rfl,x.name,l++[x.qp],rfl,qN.zah,by simp,by simp;omega,d⟩
 ·obtain rfl:k=xs.length:=by omega
  rw[zp]at d;simp only[wz]at d;simp[r,u,e,d,f41]
theorem cq:zg prog 41 (hP (FLys fun l=>int (wz [] [] l).1)):=
 vM zcj func41 false [] fun l a=>⟨by simp[f41],_,CC l a,z8 _⟩
def yM(b:Bk)(n:Nat):List za:=b.zf.map w9.qp++(b.holds.map vi.qp++(b.zU.take n).map Xp.qp)
noncomputable def FBn (out:Bk->Nat->O):zb->Option O:=qd (α:=Bk×Nat) (fun a=>[.agg a.1.V,int a.2]) (fun a=>a.1.cb<=zA/\a.2<=a.1.zU.length) (fun a=>out a.1 a.2)
theorem FF(out:Bk->Nat->O)(b:Bk)(n:Nat)(Y:Hp)(Z:Nat)(h:b.cb<=zA/\n<=b.zU.length):hP (FBn out) [.agg b.V,int n] Y Z=some (out b n,Y,Z):=
 QL (b,n) _ _ (by simp only[zC,K0];rfl) (fun x y e=>by obtain⟨d,a⟩:=x;obtain⟨f,c⟩:=y;simp only[zj,zG,O.agg.injEq]at e;have:=qR e.2;rw[Kr e.1,show a=c by omega]) h (.inr (by simp only[wi,pE];rfl))
theorem Uk(l:List za):(zy l).map (QN [none])=zy l:=by simp[zy]
theorem FG(b:Bk)(n:Nat)(E:b.cb<=zA)(L:n<=b.zU.length):∃J,zv C0 f84 [.agg b.V,int n]=some J/\wL J (.sl 1 (zy (yM b n))):=by
 refine QO (sh:=.s 1 [none]) rfl ?_;have S:=qZ vR b.zf;have T:=qZ Q1 b.holds;have U:=qZ X5 b.zU;have M:b.cb=yn w9.cb b.zf+yn vi.cb b.holds+yn Xp.cb b.zU:=rfl;unfold zA at E;have y:=fun Y=>slX Y b.zU n L
 simp[Bk.V];refine zL (fun k σ Y Z=>σ 1=int n/\σ 2=.ref 0 0 0/\σ 13=.sl 3 (b.zf.map w9.V)/\σ 14=int b.zf.length/\σ 15=int k/\1<=Z/\Y 0=some ⟨27,3,false,[b.V]⟩/\(∀m,σ 5≠.own 0 0 m)/\qN Y Z 9 1 (σ 5) (zy ((b.zf.map w9.qp).take k))) b.zf.length
  ⟨by simp,by simp,by simp,by simp,by simp,by simp,by simp[Bk.V],by simp,.inl ⟨by simp,rfl⟩⟩ ?_
 rintro k σ Y Z D ⟨q,r,a,d,e,p,o,j,f⟩;have N:¬0=Z:=by omega
 by_cases g:k<b.zf.length
 ·obtain⟨x,u⟩:=wZ (b.zf[k]);have B:=qe k;have v:zy ((b.zf.map w9.qp).take (k+1))=zy ((b.zf.map w9.qp).take k)++[[str x.qp]]:=by rw[zQ (by simpa using g),Yp,u];simp[zy]
  obtain⟨ys,h⟩:=wZ (zy ((b.zf.map w9.qp).take k));have C:ys.length<=268435456:=by rw[<-h];simp;omega
  rw[h]at f v;have l:=f.more (some ⟨47,3,false,[x.V]⟩);have i:=qN.yx (P:=prog) (t:=38) (c:=[str x.qp]) l Jn mI oa ob rfl (by omega) (by unfold maxLen;omega) (by omega);have z:=fun Y'=>yr f Y' 0 j
  simp only[w9.V]at i;simp[q,r,a,d,e,g,u,w9.V,i,B,zt,zJ,zr];exact⟨by omega,by simp[z,show¬0=Z by omega,o],by rw[v];simpa using qN.after⟩
 obtain rfl:k=b.zf.length:=by omega
 rw[zZ (by simp)]at f;simp only[Bk.V]at o;simp[q,r,a,d,e,o];refine zL (fun k σ Y Z=>σ 1=int n/\σ 2=.ref 0 0 0/\σ 26=.sl 4 (b.holds.map vi.V)/\σ 27=int b.holds.length/\σ 28=int k/\1<=Z/\Y 0=some ⟨27,3,false,[b.V]⟩/\(∀m,σ 5≠.own 0 0 m)/\qN Y Z 9 1 (σ 5) (zy (b.zf.map w9.qp++(b.holds.map vi.qp).take k))) b.holds.length
  ⟨by simp[q],by simp[r],by simp,by simp,by simp,p,o,by simpa using j,by simpa using f⟩ ?_
 clear q r a d e p o j f D g N σ Y Z;rintro k σ Y Z D ⟨q,r,a,d,e,p,o,j,f⟩;by_cases g:k<b.holds.length
 ·obtain⟨x,u⟩:=wZ (b.holds[k]);have B:=qe k;have v:zy (b.zf.map w9.qp++(b.holds.map vi.qp).take (k+1))=zy (b.zf.map w9.qp++(b.holds.map vi.qp).take k)++[[str x.qp]]:=by rw[zQ (by simpa using g),Yp,u];simp[zy]
  obtain⟨ys,h⟩:=wZ (zy (b.zf.map w9.qp++(b.holds.map vi.qp).take k));have C:ys.length<=268435456:=by rw[<-h];simp;omega
  rw[h]at f v;have l:=f.more (some ⟨49,4,false,[x.V]⟩);have i:=qN.yx (P:=prog) (t:=38) (c:=[str x.qp]) l Jn mI oa ob rfl (by omega) (by unfold maxLen;omega) (by omega);have z:=fun Y'=>yr f Y' 0 j
  simp only[vi.V]at i;simp[q,r,a,d,e,g,u,vi.V,i,B,zt,zJ,zr];exact⟨by omega,by simp[z,show¬0=Z by omega,o],by rw[v];simpa using qN.after⟩
 obtain rfl:k=b.holds.length:=by omega
 rw[zZ (by simp)]at f;simp only[Bk.V]at o;simp[q,r,a,d,e,o,y];have Q:((b.zU.take n).map Xp.V).length=n:=by simp;omega
 have F:min n b.zU.length=n:=by omega
 simp[F];refine zL (fun k σ Y Z=>σ 41=.sl 13 ((b.zU.take n).map Xp.V)/\σ 42=int n/\σ 43=int k/\qN Y Z 9 1 (σ 5) (zy (b.zf.map w9.qp++(b.holds.map vi.qp++((b.zU.take n).map Xp.qp).take k)))) n
  ⟨by simp,by simp,by simp,by simpa using f⟩ ?_
 clear q r a d e p o j f D g σ Y Z;obtain⟨es,A⟩:=wZ (b.zU.take n);have K:es.length=n:=by rw[<-A];simp;omega
 rw[A];rintro k σ Y Z D ⟨a,d,e,f⟩;by_cases g:k<n
 ·have w:k<es.length:=by omega
  obtain⟨x,u⟩:=wZ (es[k]);have B:=qe k;have v:zy (b.zf.map w9.qp++(b.holds.map vi.qp++(es.map Xp.qp).take (k+1)))=zy (b.zf.map w9.qp++(b.holds.map vi.qp++(es.map Xp.qp).take k))++[[str x.qp]]:=by rw[zQ (by simpa using w),Yp,u];simp[zy]
  obtain⟨ys,h⟩:=wZ (zy (b.zf.map w9.qp++(b.holds.map vi.qp++(es.map Xp.qp).take k)));have C:ys.length<=268435456:=by rw[<-h];simp;omega
  rw[h]at f v;have l:=f.more (some ⟨57,13,false,[x.V]⟩);have i:=qN.yx (P:=prog) (t:=38) (c:=[str x.qp]) l Jn mI oa ob rfl (by omega) (by unfold maxLen;omega) (by omega);simp only[qK]at i;simp[a,d,e,g,w,u,qK,i,B,zt,zJ,zr];exact⟨by omega,by rw[v];simpa using qN.after⟩
 obtain rfl:k=n:=by omega
 rw[zZ (by simp;omega)]at f;have y:yM b k=b.zf.map w9.qp++(b.holds.map vi.qp++es.map Xp.qp):=by unfold yM;rw[A]
 rw[<-y]at f;have G:=Uk (yM b k);rcases f with⟨H,R⟩|⟨id,hid,H,E⟩
 ·simp[a,d,e,H,XP,R,f84]
 ·have I:(zy (yM b k)).take (yM b k).length=zy (yM b k):=zZ (by simp);simp[a,d,e,H,E,I,G,XP,f84]
theorem ft:zg prog 84 (hP (FBn fun b n=>.sl 1 (zy (yM b n)))):=
 W6 (fn:=f84) je (qX func84) false [] _ fun args r h w S vs a=>by obtain⟨⟨b,n⟩,rfl,⟨c,d⟩,rfl⟩:=zO h;obtain⟨e,f,g⟩:=FG b n c d;exact⟨_,e,a,by simp[f84],f,g⟩
end Go.Q
