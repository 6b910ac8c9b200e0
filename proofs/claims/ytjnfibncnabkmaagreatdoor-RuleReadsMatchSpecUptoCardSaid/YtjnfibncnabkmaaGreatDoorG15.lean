/- Lemmas. -/
import Derived.Test.YtjnfibncnabkmaaGreatDoorG14
set_option maxRecDepth 100000
set_option maxHeartbeats 4000000
open Go Proofs Proofs.YtjnfibncnabkmaaGreatDoor Proofs.Tryz RowKit AM SpanLaw Q Zz
namespace Go.Q
abbrev uP3:O->O:=TZ [uC]
theorem cp:sX uP3:=.wL fun u a=>by simp only[zv,wu,or_false]at a;subst a;exact xc
noncomputable def GJ (s:za):O:=.wL [.agg (vt zy jB s).1.V,int (vt zy jB s).2.1,int (vt zy jB s).2.2]
noncomputable def FPar:zb->Option O:=qW (α:=za) (fun s=>[str s]) (fun s=>s.length<=qg) GJ
noncomputable abbrev Sg:AM.Spec:=zn false [] FPar
theorem MI(s:za)(Y:Hp)(Z:Nat)(h:s.length<=qg):Sg [str s] Y Z=some (GJ s,Y,Z):=
 jm (Y1:=Y) rfl (qX (V:=fun s:List UInt8=>[str s]) (a:=s) (fun a b e=>by simp only[zq,qh]at e;exact yp e) h) (.inr rfl)
def Dpar:List (Tmp×Tmp):=[(5,2),(34,2),(35,2),(36,2),(38,2),(39,2),(40,2)]
theorem MJ{st:St}{blk:Blk}(a:st.M 2=.ref 0 0 0)(b:st.M 5=.ref 1 0 0)(c:∀t,33<=t->t<42->st.M t=.wL [])(d:st.Y 0=some blk)(f:blk.arr=false):Qg Dpar st:=by
 intro p Y id i j e;have Y2:p.2=2:=by simp only[Dpar,zv,wu,or_false]at Y;rcases Y with rfl|rfl|rfl|rfl|rfl|rfl|rfl<;>rfl
 rw[Y2];refine⟨0,0,0,blk,a,?_,d,f⟩;simp only[Dpar,zv,wu,or_false]at Y;rcases Y with rfl|Y
 ·rw[b]at e;injection e with e _ _
  omega
 ·have:33<=p.1/\p.1<42:=by rcases Y with rfl|rfl|rfl|rfl|rfl|rfl<;>decide
  rw[c _ this.1 this.2]at e;cases e
noncomputable abbrev Cpar:Ctx:=vS prog [(7,R0 102),(8,DA),(9,DB),(10,GC fun c=>int c.check)] (rD 9 Dpar)
theorem zbc:Gd Cpar:=V2 _ mixed ⟨sV 102,by simp,ax,by simp,Yy,by simp,uM,by simp,trivial⟩
set_option maxHeartbeats 8000000 in
theorem GU:zi prog 4 Sg:=
 JT (C:=Cpar) (pf:=fun g=>([]:List Nat).contains g) ⟨func4,by kernel_rfl,rfl,by kernel_rfl⟩ false [] _ fun args r h=>by
  obtain⟨s,rfl,hs,rfl⟩:=zL h;have T:qg=268435456:=rfl;refine⟨by simp[Tryz.f4],?_⟩;clear h;refine Wp.of zbc (by kernel_rfl) ?_;simp only[GJ,vt];refine zM (fun M Y Z=>M 0=str s/\M 2=.ref 0 0 0/\(∀t,33<=t->t<42->M t=.wL [])/\Y 0=some (jR kS)/\Z=1) ?_ ?_
  ·simp[kS];intro t j b;rw[zc _ _ _ _ (by omega),zc _ _ _ _ (by omega),zc _ _ _ _ (by omega)];show([str s][t]?).getD (.wL [])=_;rw[wq (by simp only[zd,ze];omega)];rfl
  rintro M Y1 _ ⟨i,b,l,q,rfl⟩;have f:=q;simp only[kS]at f;by_cases D:20000<s.length
  ·have m:(20000:Int)<s.length:=by omega
   rw[zg D];simp[i,b,m,f,zI,qe,zc,Tryz.f4];exact xU rfl cp (by simp[zC,qv];rfl)
  have m:¬(20000:Int)<s.length:=by omega
  rw[zf D];have E:s.length<=20000:=by omega
  refine zM (fun a Y Z=>a 0=str s/\a 2=.ref 0 0 0/\(∀t,33<=t->t<42->a t=.wL [])/\Y=Y1/\Z=1) ?_ ?_
  ·simp[i,b,m];intro t j b;rw[zc _ _ _ _ (by omega),zc _ _ _ _ (by omega),zc _ _ _ _ (by omega)];exact l t j b
  clear i b l f M;rintro M Y1 _ ⟨i,b,l,rfl,rfl⟩;refine zM (fun a Y Z=>a 0=str s/\a 2=.ref 0 0 0/\a 5=.ref 1 0 0/\(∀t,33<=t->t<42->a t=.wL [])/\Y 0=some (jR kS)/\Y 1=some (yg s ⟨0,0,0,0⟩)/\Z=2) ?_ ?_
  ·simp[i,b,q,zI,qe,zc,zz,qd];intro t j b;rw[zc _ _ _ _ (by omega),zc _ _ _ _ (by omega),zc _ _ _ _ (by omega),zc _ _ _ _ (by omega)];exact l t j b
  clear i b l q M Y1;rintro M Y1 _ ⟨i,b,v,l,q,y,rfl⟩;have G:=cn (s:=s) 102 ⟨0,0,0,0⟩ (jb _);have H:=ea (k:=102) (Z:=2) y E (jb _) ⟨by simp,.inl (by simp)⟩;obtain⟨c,w,P⟩:∃c w,iN s zy jB 102 ⟨0,0,0,0⟩=(c,w):=⟨_,_,rfl⟩;rw[show dZ s 102 ⟨0,0,0,0⟩=(c,w)from P]at H;rw[P]at G;simp only[P];obtain⟨F,Q,I⟩:=G;simp only at H F Q I;refine zM (fun a Y Z=>a 0=str s/\a 2=.ref 0 0 0/\a 5=.ref 1 0 0/\a 6=.ref 2 0 0/\(∀t,33<=t->t<42->a t=.wL [])/\Y 0=some (jR kS)/\Y 1=some (yg s w)/\Y 2=some (jR c.V)/\Z=3) ?_ ?_
  ·simp only[qv]at H;simp[i,b,v,H,q,zc,qv];intro t j b;rw[zc _ _ _ _ (by omega),zc _ _ _ _ (by omega),zc _ _ _ _ (by omega)];exact l t j b
  clear i b v l q y H M Y1;rintro M Y1 _ ⟨i,b,v,z,l,q,y,n,rfl⟩;have A:=kQ (s:=s) F;have J:=dT (Z:=3) y E F;obtain⟨u,j⟩:=wM (y8 s w);rw[j]at J A;simp only[j];have R:=YX (Y:=qf Y1 1 (some (yg s u))) (id:=1) (Z:=3) (by simp) E A.2.1;have S:=Vn (s:=s) A.2.1;obtain⟨K,d⟩:=wM (if u.p<s.length then ch s u else u);rw[d];simp only[zz,qd,zd,ze,zh,Nat.reduceAdd,qV]at J R;refine zM (fun a Y Z=>a 0=str s/\a 2=.ref 0 0 0/\a 5=.ref 1 0 0/\a 6=.ref 2 0 0/\(∀t,33<=t->t<42->a t=.wL [])/\Y 0=some (jR kS)/\Y 1=some (yg s K)/\Y 2=some (jR c.V)/\Z=3) ?_ ?_
  ·by_cases o:u.p<s.length
   ·rw[zg o]at d;subst d;simp[i,b,v,z,J,R,o,q,n,zc,zz,qd];intro t j b;rw[zc _ _ _ _ (by omega),zc _ _ _ _ (by omega),zc _ _ _ _ (by omega),zc _ _ _ _ (by omega),zc _ _ _ _ (by omega),zc _ _ _ _ (by omega),zc _ _ _ _ (by omega),zc _ _ _ _ (by omega),zc _ _ _ _ (by omega),zc _ _ _ _ (by omega),zc _ _ _ _ (by omega)];exact l t j b
   ·rw[zf o]at d;subst d;simp[i,b,v,z,J,o,q,n,zc,zz,qd];intro t j b;rw[zc _ _ _ _ (by omega),zc _ _ _ _ (by omega),zc _ _ _ _ (by omega),zc _ _ _ _ (by omega),zc _ _ _ _ (by omega),zc _ _ _ _ (by omega),zc _ _ _ _ (by omega),zc _ _ _ _ (by omega),zc _ _ _ _ (by omega)];exact l t j b
  clear i b v z l q y n J R M Y1;rintro M Y1 _ ⟨i,b,v,z,l,q,y,n,rfl⟩;have f:=q;simp only[kS]at f;simp only[zz,qd,zd,ze,zh,Nat.reduceAdd]at y;by_cases B:K.e=0
  case neg=>rw[zg B];simp[i,b,v,y,B,Zw B,bne];rw[kW _ 9 _ _ _ _ (MJ (blk:=jR kS) (by simp[b]) (by simp[v]) (fun t j b=>by simp;rw[zc _ _ _ _ (by omega),zc _ _ _ _ (by omega),zc _ _ _ _ (by omega),zc _ _ _ _ (by omega),zc _ _ _ _ (by omega)];exact l t j b) q rfl) (fun s hs=>by cases hs)];simp[b,v,y,f,zI,qe,zc,Tryz.f4];exact xU rfl cp (by simp[zC,qv];rfl)
  rw[zf (by simpa using B)];have L:c.cb<=qg:=by
   by_cases o:u.p<s.length
   ·rw[zg o]at d;rw[<-d]at B;exact absurd B S.2.2.2
   ·rw[zf o]at d;rw[<-d,A.2.2.1]at B;have:=(I B).2.2;omega
  have N:=fun Y Z=>Wg (fun c=>int c.check) c Y Z L
  simp only[qv]at N n;refine zM (fun a Y Z=>a 2=.ref 0 0 0/\a 6=.ref 2 0 0/\Y=Y1/\Z=3) (by simp[b,v,z,y,B]) ?_;clear i b v z l M;rintro M Y1 _ ⟨b,z,rfl,rfl⟩;by_cases x:c.check=0
  ·rw[zf (by simpa using x)];rw[x]at N;simp[b,z,n,N,f,zc,Tryz.f4];exact xU rfl .id (by simp[qv])
  ·rw[zg x];simp[b,z,n,N,f,x,Zw x,bne,zI,qe,zc,Tryz.f4];exact xU rfl cp (by simp[zC,qv];rfl)
noncomputable abbrev zcb:Ctx:=qj prog [(76,GV fun v=>int v.check),(52,zn false [] (oV jY)),(15,zn false [] (OJ qg))]
theorem Si:AM.Good zcb (fun g=>[15].contains g):=qx mixed ⟨ua,by simp,Vt,by simp,Xq qg,fun _=>zt _ _,trivial⟩
theorem ei(c:Cnd)(h:c.cb<=qg):zG zcb f57 [.agg c.V]=some (int (Qa c.op c.ki)):=by
 have R:=Jw c;obtain⟨l,p⟩:=wM c.ki;obtain⟨op,s⟩:=wM c.op;have X:=yT l;rw[p]at R;rw[p,s];unfold qg at h;refine zu rfl ?_;by_cases o:(100:Int)<l.length
 ·have S:Qa op l=2:=by unfold Qa;rw[zg o]
  simp[p,o,S,f57]
 have S:Qa op l=aI op none l:=by unfold Qa;rw[zf o]
 rw[S];simp[p,o];refine ql (fun k M Y Z=>M 1=.ref 0 0 0/\M 11=.sl 5 (l.map Val.V)/\M 12=int l.length/\M 13=int k/\1<=Z/\Y 0=some ⟨25,7,false,[c.V]⟩/\aI op none l=aI op (QR l k) (l.drop k)) l.length
  ⟨by simp,by simp,by simp,by simp,by simp,by simp,by simp[QR]⟩ ?_
 rintro k M Y Z hk ⟨t,b,d,e,hnx,u,f⟩;have w:¬0=Z:=by omega
 by_cases a:k<l.length
 ·have hm:=jZ (zw a);have I:=wv k;have g:=fun Y Z=>Jr (fun v=>int v.check) l[k] Y Z (by unfold qg;omega)
  rw[zl a]at f;simp only[aI]at f;have F:QR l (k+1)=some l[k]:=by simp[QR,a]
  have i:CG op l[k]=(l[k].kind==0||jY op&&l[k].kind != 2):=rfl;by_cases r:l[k].check=0
  case neg=>rw[zf r]at f;have T:=VF r;simp[p,s,t,u,w,b,d,e,a,g,T,f,f57]
  rw[zg r]at f;cases x:CG op l[k]
  case true=>
   rw[x,zg rfl]at f;rw[x]at i;by_cases J:l[k].kind=0
   ·simp[p,s,t,u,w,b,d,e,a,g,r,J,f,f57]
   ·have G:=jl J;rw[G,Zp]at i;have n:=i.symm;rw[zD]at n;simp[p,s,t,u,w,b,d,e,a,g,r,G,n.1,n.2,f,f57]
  rw[x,zf (by simp)]at f;rw[x]at i;have A:=i.symm;rw[wE]at A;obtain⟨C,t2⟩:=A;have U:jY op=false\/(l[k].kind != 2)=false:=by
   cases q:jY op
   ·exact .inl rfl
   ·rw[q,XW]at t2;exact .inr t2
  by_cases J:k=0
  ·subst J;have Y0:bW (QR l 0) l[0]=false:=rfl;rw[Y0,zf (by simp)]at f;have m:aI op none l=aI op (QR l 1) l.tail:=by rw[f,show QR l 1=some l[0]from F];simp
   cases q:jY op
   ·simp[p,s,t,u,w,b,d,e,a,g,r,C,q,I];exact⟨by omega,m⟩
   ·have H:(l[0].kind != 2)=false:=U.resolve_left (by rw[q];simp);simp[p,s,t,u,w,b,d,e,a,g,r,C,q,H,I];exact⟨by omega,m⟩
  ·obtain⟨j,rfl⟩:∃j,k=j+1:=⟨k-1,by omega⟩;have D:j<l.length:=by omega
   have hmj:=jZ (zw D);have K:IntKind.i64.wrap ((j:Int)+1-1)=(j:Int):=by rw[wU (by omega) (by omega)];omega
   have y:=wj (j:Int);have L:((j:Int)+1).toNat=j+1:=by omega
   have N:0<(j:Int)+1:=by omega
   have P:0<=(j:Int)+1:=by omega
   have Q:(j:Int)+1<l.length:=by omega
   have z:=fun Y Z=>Qv qg l[j+1] l[j] Y Z ⟨by unfold qg;omega,by unfold qg;omega,by unfold qg;omega⟩
   have W:bW (QR l (j+1)) l[j+1]=decide (qG l[j+1] l[j]<=0):=by simp only[QR,bW];simp[D,DN]
   rw[W]at f;by_cases E:qG l[j+1] l[j]<=0
   ·have B:decide (qG l[j+1] l[j]<=0)=true:=by simpa using E
    rw[zg B]at f;cases q:jY op
    ·simp[p,s,t,u,w,b,d,e,a,D,g,r,C,q,I,K,y,L,N,P,Q,z,E,f,f57]
    ·have H:(l[j+1].kind != 2)=false:=U.resolve_left (by rw[q];simp);simp[p,s,t,u,w,b,d,e,a,D,g,r,C,q,H,I,K,y,L,N,P,Q,z,E,f,f57]
   ·have B:¬decide (qG l[j+1] l[j]<=0)=true:=by simpa using E
    rw[zf B]at f;have wk:=wj ((j:Int)+1+1);have m:aI op none l=aI op (QR l (j+1+1)) (l.drop (j+1+1)):=by rw[f,F]
    cases q:jY op
    ·simp[p,s,t,u,w,b,d,e,a,D,g,r,C,q,wk,K,y,L,N,P,Q,z,E];exact⟨by omega,m⟩
    ·have H:(l[j+1].kind != 2)=false:=U.resolve_left (by rw[q];simp);simp[p,s,t,u,w,b,d,e,a,D,g,r,C,q,H,wk,K,y,L,N,P,Q,z,E];exact⟨by omega,m⟩
 ·obtain rfl:k=l.length:=by omega
  rw[zA]at f;simp only[aI]at f;simp[t,b,d,e,f,f57]
theorem cq:zi prog 57 (GC fun c=>int (Qa c.op c.ki)):=
 y3 (fn:=f57) Si (wc func57) false [] _ fun args r h=>by obtain⟨c,rfl,a,rfl⟩:=Vc h;exact⟨z8 (zk 1) (by decide),_,ei c a.1,q9 _⟩
noncomputable abbrev zcc:Ctx:=qj prog [(77,zn false [] (aF CC))]
theorem Sj:Gd zcc:=qQ mixed ⟨fR,trivial⟩
theorem cr(c:Cnd)(h:c.cb<=qg):zG zcc f58 [.agg c.V]=some (int (Jg c.op c.pat)):=by
 have q:=Jw c;obtain⟨s,hs⟩:=wM c.pat;obtain⟨op,r⟩:=wM c.op;rw[hs]at q;rw[hs,r];unfold qg at h;refine zu rfl ?_;by_cases a:(500:Int)<s.length
 ·have b:Jg op s=2:=by unfold Jg;rw[zg a]
  simp[hs,a,b,f58]
 have l:=fun Y Z=>Zd CC s Y Z (by unfold qg;omega)
 simp only[CC]at l;have b:Jg op s=if wX 32 126 s=true then(if op=11 then(Qz s).2 else 0)else 1:=by unfold Jg;rw[zf a]
 simp[hs,a];refine ql (fun k M Y Z=>M 1=.ref 0 0 0/\M 12=int s.length/\M 13=int k/\Y 0=some ⟨25,7,false,[c.V]⟩/\wX 32 126 s=wX 32 126 (s.drop k)) s.length ⟨by simp,by simp,by simp,by simp,by simp⟩ ?_;rintro k M Y Z u ⟨n,d,e,o,i⟩;by_cases f:k<s.length
 ·have t:=wv k;rw[Yd f]at i;have j:=eP 32 126 s[k];simp only[qu]at j;cases p:pr 32 126 s[k]
  ·have i:wX 32 126 s=false:=by rw[i,p];rfl
   rw[i,zf (by simp)]at b;simp[n,o,hs,d,e,f,b,j,p,f58]
  ·simp[n,o,hs,d,e,f,j,p,t];exact⟨f,by rw[i,p];rfl⟩
 ·obtain rfl:k=s.length:=by omega
  have i:wX 32 126 s=true:=by rw[i,zA];rfl
  rw[i,zg rfl]at b;by_cases g:op=11
  ·rw[zg g]at b;subst g;simp[n,o,hs,r,d,e,l,b,f58]
  ·rw[zf g]at b;have m:=jl g;simp[n,o,hs,r,d,e,m,b,f58]
theorem aL:zi prog 58 (GC fun c=>int (Jg c.op c.pat)):=
 y3 (fn:=f58) Sj (wc func58) false [] _ fun args r h=>by obtain⟨c,rfl,a,rfl⟩:=Vc h;exact⟨z8 (zk 1) (by decide),_,cr c a.1,q9 _⟩
theorem Sk{c:Cnd}(b:ZD c=false)(a:FN c=false):Jg c.op c.pat=0:=by
 have g:∀op,op≠11->Jg op []=0:=fun op h=>by simp[Jg,h]
 have k:w1F c=false/\w5F c=false:=by unfold ZD at b;simp only[wE]at b;exact⟨b.1.1.1.1.1.1,b.1.1.2⟩
 obtain⟨i,j⟩:=k;unfold FN at a;cases d:c.kind==4
 ·simp only[w1F,d,Bool.not_false,XW,wE]at i;obtain⟨⟨⟨_,l⟩,_⟩,m⟩:=i;have n:c.op=0:=by simpa using l
  have f:c.pat=[]:=by simpa using m
  rw[n,f];exact g 0 (by decide)
 ·rw[d,XW]at a;simp only[w5F,d,a,XW,Bool.not_false]at j;have f:c.pat=[]:=by simpa using j
  rw[f];refine g _ fun e=>?_
  rw[e]at a;revert a;decide
noncomputable abbrev zcd (n:Nat):Ctx:=qj prog [(31,zn false [] (FC (fun c=>int c.fault) n)),(55,GC fun c=>yh (oC c)),(56,zn false [] (FS y4)),(57,GC fun c=>int (Qa c.op c.ki)),(58,GC fun c=>int (Jg c.op c.pat))]
theorem fU(n:Nat)(c:Cnd)(h:c.cb<=qg/\c.cb<=n+1):zG (zcd n) f31 [.agg c.V]=some (int c.fault):=by
 have M9:=Jw c;have hl1:=Vb c.args;obtain⟨K,hb⟩:=h;have j:=sj c;have b:=fun Y Z=>Wg (fun c=>yh (oC c)) c Y Z K
 have v:=fun Y Z=>Wg (fun c=>int (Qa c.op c.ki)) c Y Z K
 have D:=fun Y Z=>Wg (fun c=>int (Jg c.op c.pat)) c Y Z K
 have E:c.attr.length<=qg:=by omega
 have F:c.name.length<=qg:=by omega
 unfold qg at K;refine zu rfl ?_;refine Qq (fun st=>st.M 1=.ref 0 0 0/\st.Y 0=some ⟨25,7,false,[c.V]⟩/\st.Z=1) (by simp) ?_;rintro⟨M,Y,Z⟩ ⟨d,e,l⟩;simp only at d e l;subst l;have w:gL c=!v7 c.kind 1 5:=rfl;refine Qq (fun st=>st.M 1=.ref 0 0 0/\st.Y 0=some ⟨25,7,false,[c.V]⟩/\st.Z=1/\gL c=false/\Pd c=false/\ZD c=false/\bm c=false) ?_ ?_
 ·by_cases L:c.kind<1
  ·have x:gL c=true:=by rw[w];simp[v7];omega
   simp[d,e,L,j,vM,x,f31]
  by_cases R:5<c.kind
  ·have x:gL c=true:=by rw[w];simp[v7];omega
   simp[d,e,L,R,j,vM,x,f31]
  have i:gL c=false:=by rw[w];simp[v7];omega
  have y:=Mp c (by simp[v7];omega);rw[y]at b;by_cases t:c.kind=4
  ·have z:Pd c=!v7 c.op 1 12:=by unfold Pd;rw[t];rfl
   have a:bm c=!y4 c.attr:=by unfold bm;rw[t];simp
   by_cases G:c.op<1
   ·have x:Pd c=true:=by rw[z];simp[v7];omega
    simp[d,e,t,G,j,vM,x,f31]
   by_cases N:12<c.op
   ·have x:Pd c=true:=by rw[z];simp[v7];omega
    simp[d,e,t,G,N,j,vM,x,f31]
   have f:Pd c=false:=by rw[z];simp[v7];omega
   cases g:ZD c
   case true=>simp[d,e,t,G,N,b,g,j,vM,i,f,f31]
   cases o:y4 c.attr
   ·rw[o]at a;simp[d,e,t,G,N,b,g,E,o,j,vM,i,f,a,f31]
   ·rw[o]at a;simp[d,e,t,G,N,b,g,E,o,i,f,a]
  have p:=jl t;have f:Pd c=false:=by unfold Pd;rw[p];rfl
  cases g:ZD c
  case true=>simp[d,e,L,R,p,b,g,j,vM,i,f,f31]
  by_cases q:c.kind=5
  ·have a:bm c=!y4 c.name:=by unfold bm;rw[q];simp
   cases o:y4 c.name
   ·rw[o]at a;simp[d,e,q,b,g,F,o,j,vM,i,f,a,f31]
   ·rw[o]at a;simp[d,e,q,b,g,F,o,i,f,a]
  ·have u:=jl q;have a:bm c=false:=by unfold bm;rw[p,u];rfl
   simp[d,e,L,R,p,u,b,g,i,f,a]
 clear d e M Y b;rintro⟨M,Y,Z⟩ ⟨d,e,l,S,T,P,U⟩;simp only at d e l;subst l;by_cases H:Qa c.op c.ki=0
 case neg=>have W:=VF H;simp[d,e,v,H,W,j,vM,S,T,P,U,f31]
 by_cases I:Jg c.op c.pat=0
 case neg=>
  have X:=VF I;have c6:FN c=true:=by cases hx:FN c;exact absurd (Sk P hx) I;rfl
  simp[d,e,v,D,H,I,X,j,vM,S,T,P,U,c6,f31]
 have hh:vM c=0:=by simp[vM,S,T,P,U,H,I]
 have J:c.fault=xY c.args:=by rw[j,zg hh]
 simp[d,e,v,D,H,I];refine ql (fun k M Y Z=>M 64=.sl 7 (c.args.map Cnd.V)/\M 65=int c.args.length/\M 66=int k/\xY c.args=xY (c.args.drop k)) c.args.length ⟨by simp,by simp,by simp,by simp⟩ ?_;clear d e M Y;rintro k M Y Z hk ⟨A,B,C,r⟩;by_cases s:k<c.args.length
 ·have hm:=dD (zw s);have hw:=wv k;have m:=fun Y Z=>ln (fun c=>int c.fault) n c.args[k] Y Z ⟨by unfold qg;omega,by omega⟩
  rw[Xx s]at r;by_cases Q:c.args[k].fault=0
  ·rw[zg Q]at r;simp[A,B,C,s,m,Q,hw];exact⟨by omega,r⟩
  ·rw[zf Q]at r;have hz2:=VF Q;simp[A,B,C,s,m,hz2,J,r,f31]
 ·obtain rfl:k=c.args.length:=by omega
  rw[zA]at r;have r:xY c.args=0:=by rw[r];rfl
  simp[A,B,C,J,r,f31]
theorem ej:∀n,zi prog 31 (zn false [] (FC (fun c=>int c.fault) n)):=by
 intro n
 induction n with
 |zero=>exact Hz ⟨_,func31,by kernel_rfl,by kernel_rfl⟩
 |succ n a=>
  have b:Gd (zcd n):=qQ mixed ⟨a,pV,pb,cq,aL,trivial⟩;exact y3 (fn:=f31) b (wc func31) false [] _ fun args r h=>by obtain⟨c,rfl,d,rfl⟩:=Vc h;exact⟨z8 (zk 1) (by decide),_,fU n c d,q9 _⟩
noncomputable abbrev zhf:Ctx:=qj prog [(31,GC fun c=>int c.fault),(30,GC fun c=>yh (YZ (c.rp 1)))]
theorem p9:zi prog 14 (GC fun c=>int c.check):=
 y3 (fn:=f14) (qQ mixed ⟨ej qg,Az,trivial⟩:AM.Good zhf _) (wc func14) false [] _ fun args r h=>by
  obtain⟨c,rfl,a,rfl⟩:=Vc h;have b:=fun Y Z=>Wg (fun c=>int c.fault) c Y Z a.1
  have d:=fun Y Z=>Wg (fun c=>yh (YZ (c.rp 1))) c Y Z a.1
  have f:=Mo c;refine⟨z8 (zk 1) (by decide),_,zu rfl ?_,q9 _⟩;unfold Cnd.check;rw[<-f];cases e:YZ (c.rp 1)
  ·simp[b,d,e,f14]
  ·simp[b,d,e,f14]
def Dqa:List (Tmp×Tmp):=[(5,2),(43,2),(44,2),(45,2)]
def Dqb:List (Tmp×Tmp):=[(5,2),(48,2),(49,2),(50,2),(52,2),(53,2),(54,2)]
def Sl(i:Nat):List (Tmp×Tmp):=if i=10 then Dqa else if i=11 then Dqb else[]
@[simp]theorem Sm(P:Program)(l:Je)(i:Nat)(a:Array Oper)(d:Bool)(st:St)(K:Exit->St->Prop)(h:¬i=10)(b:¬i=11):Zl (vS P l Sl) (.region i a d) st K=iV (vS P l Sl) a a.toList st (Wr K):=ZZ _ i a d st K (by show Sl i=[];unfold Sl;rw[zf h,zf b]) rfl
theorem Sn{D:List (Tmp×Tmp)}(b:D=Dqa\/D=Dqb){st:St}{blk:Blk}(c:st.M 2=.ref 0 0 0)(d:st.M 5=.ref 1 0 0)(f:∀t,43<=t->t<55->st.M t=.wL [])(g:st.Y 0=some blk)(k:blk.arr=false):Qg D st:=by
 intro p Y id i j e;have a:p.2=2/\(p.1=5\/43<=p.1/\p.1<55):=by
  rcases b with rfl|rfl
  ·simp only[Dqa,zv,wu,or_false]at Y;rcases Y with rfl|rfl|rfl|rfl<;>decide
  ·simp only[Dqb,zv,wu,or_false]at Y;rcases Y with rfl|rfl|rfl|rfl|rfl|rfl|rfl<;>decide
 rw[a.1];refine⟨0,0,0,blk,c,?_,g,k⟩;rcases a.2 with h|h
 ·rw[h,d]at e;injection e with e _ _
  omega
 ·rw[f _ h.1 h.2]at e;cases e
noncomputable abbrev zce:Ctx:=vS prog [(11,oG 102),(12,pS),(13,JR),(14,GC fun c=>int c.check)] Sl
theorem Sq:AM.jH False zce g0F:=V2 _ mixed ⟨sS 102,by simp,Yz.lax,by simp,xZ.lax,by simp,p9.lax,by simp,trivial⟩
theorem lE{s:za}{c:Cnd}{n:Nat}{f:Int}(h:vt zy jB s=(c,n,f)):GJ s=.wL [.agg c.V,int n,int f]:=by unfold GJ;rw[h]
set_option maxHeartbeats 8000000 in
theorem GK:wO False prog 5 Sg:=
 JT (C:=zce) (pf:=fun g=>([]:List Nat).contains g) ⟨func5,by kernel_rfl,rfl,by kernel_rfl⟩ false [] _ fun args r h=>by
  obtain⟨s,rfl,hs,rfl⟩:=zL h;have hlim:qg=268435456:=rfl;refine⟨by simp[Tryz.f5],?_⟩;clear h;refine Wp.of Sq (by kernel_rfl) ?_;refine zM (fun M Y Z=>M 0=str s/\M 2=.ref 0 0 0/\(∀t,37<=t->t<55->M t=.wL [])/\Y 0=some (jR kS)/\Z=1) ?_ ?_
  ·simp[kS];intro t m d
   repeat rw[zc _ _ _ _ (by omega)]
   show([str s][t]?).getD (.wL [])=_;rw[wq (by simp only[zd,ze];omega)];rfl
  rintro M Y1 _ ⟨l,d,n,y,rfl⟩;have o:=y;simp only[kS]at o;by_cases L:20000<s.length
  ·have B:(20000:Int)<s.length:=by omega
   rw[lE (show vt zy jB s=(zC,0,2) by unfold vt;rw[zg L])];simp[l,d,B,o,zI,qe,zc,Tryz.f5];exact xU rfl cp (by simp[zC,qv];rfl)
  have B:¬(20000:Int)<s.length:=by omega
  have I:s.length<=20000:=by omega
  have f:=MH L;refine zM (fun a Y Z=>a 0=str s/\a 2=.ref 0 0 0/\(∀t,37<=t->t<55->a t=.wL [])/\Y=Y1/\Z=1) ?_ ?_
  ·simp[l,d,B];intro t m d
   repeat rw[zc _ _ _ _ (by omega)]
   exact n t m d
  clear l d n o M;rintro M Y1 _ ⟨l,d,n,rfl,rfl⟩;refine zM (fun a Y Z=>a 0=str s/\a 2=.ref 0 0 0/\a 5=.ref 1 0 0/\(∀t,37<=t->t<55->a t=.wL [])/\Y 0=some (jR kS)/\Y 1=some (yq s ⟨0,0,none⟩)/\Z=2) ?_ ?_
  ·simp[l,d,y,zI,qe,zc,zz,zS,Qst.bad,Qst.QO];intro t m d
   repeat rw[zc _ _ _ _ (by omega)]
   exact n t m d
  clear l d n y M Y1;rintro M Y1 _ ⟨l,d,w,n,y,z,rfl⟩;have J:=ck (s:=s) 102 ⟨0,0,none⟩ (jb _);have A:=yP.co (s:=s) 102 ⟨0,0,0,0⟩ ⟨0,0,none⟩ (.Nb rfl rfl rfl rfl) rfl (jb _);have N:=cn (s:=s) 102 ⟨0,0,0,0⟩ (jb _);have S:=ec (k:=102) (Z:=2) z I (jb _) ⟨rfl,by simp,by simp⟩;obtain⟨c,F,hc⟩:∃c F,VN s 102 ⟨0,0,none⟩=(c,F):=⟨_,_,rfl⟩;rw[hc]at S J A;simp only at S J A;have T:F.b=none->c.cb<=qg:=fun e=>by have m:=N.2.2 (A.1.ne.2 e);rw[<-A.2 e];have h3:=m.2.2;have h4:=N.1;omega
  refine zM (fun a Y Z=>a 0=str s/\a 2=.ref 0 0 0/\a 5=.ref 1 0 0/\a 6=.ref 2 0 0/\(∀t,37<=t->t<55->a t=.wL [])/\Y 0=some (jR kS)/\Y 1=some (yq s F)/\Y 2=some (jR c.V)/\Z=3) ?_ ?_
  ·simp only[qv]at S;simp[l,d,w,S,y,zc,qv];intro t m d
   repeat rw[zc _ _ _ _ (by omega)]
   exact n t m d
  clear l d w n y z S N A M Y1;rintro M Y1 _ ⟨l,d,w,E,n,y,z,i,rfl⟩;have K:=Q7 (s:=s) J.2.1;have gb:=Kv (Z:=3) z I J.2.1;obtain⟨j,m⟩:=wM (yX s F);rw[m]at gb K;have u:(if j.p<s.length then j.fail j.p 10 else j)=stQ s:=by unfold stQ GH;rw[hc,m]
  rw[hc]at f;obtain⟨G,U⟩:=wM (stQ s);rw[U]at u f;have Q:=vu (Y:=qf Y1 1 (some (yq s j))) (id:=1) (Z:=3) j.p 10 (by simp) I K.2.1;simp only[zz,zS,zd,ze,zh,Nat.reduceAdd,qV]at gb Q;refine zM (fun a Y Z=>a 0=str s/\a 2=.ref 0 0 0/\a 5=.ref 1 0 0/\a 6=.ref 2 0 0/\(∀t,37<=t->t<55->a t=.wL [])/\Y 0=some (jR kS)/\Y 1=some (yq s j)/\Y 2=some (jR c.V)/\Z=3) ?_ ?_
  ·simp[l,d,w,E,gb,y,i,zc,zz,zS];intro t m d
   repeat rw[zc _ _ _ _ (by omega)]
   exact n t m d
  clear l d w E n y z i gb Q M Y1;rintro M Y1 _ ⟨l,d,w,E,n,y,z,i,rfl⟩;have Q:=vu (Z:=3) j.p 10 z I K.2.1;refine zM (fun a Y Z=>a 0=str s/\a 2=.ref 0 0 0/\a 5=.ref 1 0 0/\a 6=.ref 2 0 0/\(∀t,37<=t->t<55->a t=.wL [])/\Y 0=some (jR kS)/\Y 1=some (yq s G)/\Y 2=some (jR c.V)/\Z=3) ?_ ?_
  ·have P:=z;simp only[zz,zS,zd,ze,zh,Nat.reduceAdd]at P Q;by_cases D:j.p<s.length
   ·rw[zg D]at u;subst u;simp[l,d,w,E,P,Q,D,y,i,zc,zz,zS];intro t m d
    repeat rw[zc _ _ _ _ (by omega)]
    exact n t m d
   ·rw[zf D]at u;subst u;simp[l,d,w,E,P,D,y,i,zc,zz,zS];intro t m d
    repeat rw[zc _ _ _ _ (by omega)]
    exact n t m d
  clear l d w E n y z i Q M Y1;rintro M Y1 _ ⟨l,d,w,E,n,y,z,i,rfl⟩;have o:=y;simp only[kS]at o;cases v:G.b with
  |some q=>
   obtain⟨k,x⟩:=q;rw[v]at f;simp only at f;have W:G.bad=(k:Int):=by unfold Qst.bad;rw[v]
   have X:G.QO=x:=by unfold Qst.QO;rw[v]
   simp only[zz,zS,zd,ze,zh,Nat.reduceAdd,W,X]at z;have hk0:(0:Int)<=k:=by omega
   rw[lE f.1];by_cases R:x=2
   ·rw[zg R];simp[l,d,w,z,hk0,R];rw[kW _ 10 _ _ _ _ (Sn (blk:=jR kS) (.inl rfl) (by simp[d]) (by simp[w]) (fun t m d=>by(try simp);(repeat rw[zc _ _ _ _ (by omega)]);exact n t (by omega) d) y rfl) (fun s hs=>by cases hs)];simp[d,w,z,R,o,zI,qe,zc,Tryz.f5];exact xU rfl cp (by simp[zC,qv];rfl)
   ·rw[zf R];simp[l,d,w,z,hk0,R,Zw R];rw[kW _ 11 _ _ _ _ (Sn (blk:=jR kS) (.inr rfl) (by simp[d]) (by simp[w]) (fun t m d=>by(try simp);(repeat rw[zc _ _ _ _ (by omega)]);exact n t (by omega) d) y rfl) (fun s hs=>by cases hs)];simp[d,w,z,o,zI,qe,zc,Tryz.f5];exact xU rfl cp (by simp[zC,qv];rfl)
  |none=>
   rw[v]at f;simp only at f;have hcbl:c.cb<=qg:=by
    by_cases D:j.p<s.length
    ·rw[zg D]at u;rw[<-u]at v;exact absurd v (vg _ _ _)
    ·rw[zf D]at u;rw[<-u,K.2.2.1]at v;exact T v
   have hneg:¬(0:Int)<=G.bad:=by rw[WG v];decide
   have gk:=fun Y Z=>Wg (fun c=>int c.check) c Y Z hcbl
   simp only[qv]at gk i;simp only[zz,zS,zd,ze,zh,Nat.reduceAdd]at z;refine zM (fun a Y Z=>a 2=.ref 0 0 0/\a 6=.ref 2 0 0/\Y=Y1/\Z=3) (by simp[d,w,E,z,hneg]) ?_;clear l d w E n M;rintro M Y1 _ ⟨d,E,rfl,rfl⟩;by_cases H:c.check=0
   ·rw[zf (by simpa using H)]at f;rw[lE f];rw[H]at gk;simp[d,E,i,gk,o,zc,Tryz.f5];exact xU rfl .id (by simp[qv])
   ·rw[zg H]at f;rw[lE f];simp[d,E,i,gk,o,H,Zw H,bne,zI,qe,zc,Tryz.f5];exact xU rfl cp (by simp[zC,qv];rfl)
end Go.Q
namespace Go.Q
open Go.RowKit Go.AM Go.PrLaw
section
variable{s:za}{p d i:Nat}{e:Int}{l:za}
end
section
variable{s:za}{p d i:Nat}{l:za}
variable{srt:List (za×Val)->List (za×Val)}
end
inductive ROk:Cnd->Prop
 |all {k:Int} {l:List Cnd}:k=1\/k=2->(∀x∈l,ROk x)->ROk (.mk k [] 0 [] [] [] l)
 |not {x:Cnd}:ROk x->ROk (.mk 3 [] 0 [] [] [] [x])
 |pZ {n:List UInt8}:y4 n=true->ROk (.mk 5 [] 0 [] [] n [])
 |has {a:List UInt8}:y4 a=true->ROk (.mk 4 a 1 [] [] [] [])
 |pat {a p:List UInt8} {o:Int}:y4 a=true->7<=o->o<=11->wX 32 126 p=true->p.length<=500->ROk (.mk 4 a o [] p [] [])
 |ord {a:List UInt8} {o:Int} {v:Val}:y4 a=true->3<=o->o<=6->v.fault=0->ROk (.mk 4 a o [v] [] [] [])
 |ki {a:List UInt8} {o:Int} {v:List Val}:y4 a=true->o=2\/o=12->(∀x∈v,x.fault=0)->UO v->ROk (.mk 4 a o v [] [] [])
section
variable{s:za}{srt:List (za×Val)->List (za×Val)}{srv:List Val->List Val}
end
end Go.Q
namespace Go.Q
noncomputable def FSm (n:Nat):zb->Option O:=qW (α:=Cnd) (fun c=>[.agg c.V,.agg c.V]) (fun c=>c.cb<=qg/\c.cb<=n) fun _=>yh true
theorem D3(n:Nat)(c:Cnd)(Y:Hp)(Z:Nat)(h:c.cb<=qg/\c.cb<=n):zn false [] (FSm n) [.agg c.V,.agg c.V] Y Z=some (yh true,Y,Z):=
 iX c _ _ (by simp[qv]) (fun a b e=>by simp only[zq,qh,O.agg.injEq]at e;exact dC e.1) h (.inl rfl)
noncomputable abbrev Csm (n:Nat):Ctx:=qj prog [(15,zn false [] (FVV (fun _=>int 0) qg)),(6,zn false [] (FSm n))]
abbrev qsm:List Nat:=[15,6]
theorem MK(n:Nat)(c:Cnd)(h:c.cb<=qg/\c.cb<=n+1):zG (Csm n) Tryz.f6 [.agg c.V,.agg c.V]=some (yh true):=by
 obtain⟨s,x⟩:=h;have t:=Jw c;have u:=Vb c.args;have v:=yT c.ki;unfold qg at s;refine zu rfl ?_;simp[qv c];refine ql (fun k M Y Z=>M 2=.ref 0 0 0/\M 3=.ref 1 0 0/\M 60=int c.ki.length/\M 61=int k/\Y 0=some ⟨25,7,false,[c.V]⟩/\Y 1=some ⟨25,7,false,[c.V]⟩) c.ki.length
  ⟨by simp,by simp,by simp,by simp,by simp[qv c],by simp[qv c]⟩ ?_
 rintro k M Y Z r ⟨e,f,g,i,j,l⟩;have a:=j;have b:=l;rw[qv c]at a b;by_cases d:k<c.ki.length
 ·have p:=wv k;have w:=jZ (zw d);have q:=fun Y Z=>mW (fun _=>int 0) qg c.ki[k] Y Z ⟨by unfold qg;omega,by unfold qg;omega⟩
  simp[e,f,g,i,d,a,b,q,p];exact⟨by omega,(qv c).symm⟩
 obtain rfl:k=c.ki.length:=by omega
 simp[e,f,g,i,a,b];refine ql (fun k M Y Z=>M 2=.ref 0 0 0/\M 3=.ref 1 0 0/\M 79=int c.args.length/\M 80=int k/\Y 0=some ⟨25,7,false,[c.V]⟩/\Y 1=some ⟨25,7,false,[c.V]⟩) c.args.length
  ⟨by simp[e],by simp[f],by simp,by simp,j,l⟩ ?_
 clear e f g i j l a b d r;rintro k M Y Z r ⟨e,f,m,o,j,l⟩;have a:=j;have b:=l;rw[qv c]at a b;by_cases d:k<c.args.length
 ·have p:=wv k;have w:=dD (zw d);have q:=fun Y Z=>D3 n c.args[k] Y Z ⟨by unfold qg;omega,by omega⟩
  simp[e,f,m,o,d,a,b,q,p];exact⟨by omega,(qv c).symm⟩
 ·obtain rfl:k=c.args.length:=by omega
  simp[e,f,m,o,yx,Tryz.f6]
theorem oL:∀n,zi prog 6 (zn false [] (FSm n))
 | 0=>Kk ⟨_,func6,by kernel_rfl,by kernel_rfl⟩ fun args r h=>by obtain⟨a,_,⟨_,d⟩,_⟩:=zL h;have:=FH a;omega
 |n+1=>VG (C:=Csm n) (qx (q:=qsm) mixed ⟨pn qg,fun _=>zt _ _,oL n,fun _=>zt _ _,trivial⟩) func6 false [] fun c b=>⟨by simp[Tryz.f6],_,MK n c b,q9 _⟩
theorem sW{s:za}{c:Cnd}{a b:Pst}(d:¬20000<s.length)(f:iN s zy jB 102 ⟨0,0,0,0⟩=(c,a))(g:(if(y8 s a).p<s.length then ch s (y8 s a)else y8 s a)=b):vt zy jB s=if b.e≠0 then(zC,b.i,b.e)else if c.check≠0 then(zC,0,c.check)else(c,0,0):=by unfold vt;rw[zf d];simp only[f,g]
theorem ML{s:za}(h:(vt zy jB s).2.2=0):(vt zy jB s).1.check=0/\(vt zy jB s).1.cb<=20001:=by
 by_cases f:20000<s.length
 ·exfalso;unfold vt at h;rw[zg f]at h;simp at h
 have m:=cn (s:=s) 102 ⟨0,0,0,0⟩ (jb _);obtain⟨c,a,n⟩:∃c a,iN s zy jB 102 ⟨0,0,0,0⟩=(c,a):=⟨_,_,rfl⟩;rw[n]at m;obtain⟨o,r,q⟩:=m;simp only at o r q;have i:=kQ (s:=s) o;have k:=Vn (s:=s) i.2.1;obtain⟨l,b⟩:=wM (if(y8 s a).p<s.length then ch s (y8 s a)else y8 s a);rw[sW f n b]at h⊢;by_cases g:l.e=0
 case neg=>rw[zg g]at h;exact absurd h g
 rw[zf (by simpa using g)]at h⊢;by_cases d:c.check=0
 case neg=>rw[zg d]at h;exact absurd h d
 rw[zf (by simpa using d)];refine⟨d,?_⟩;by_cases j:(y8 s a).p<s.length
 ·rw[zg j]at b;rw[<-b]at g;exact absurd g k.2.2.2
 ·rw[zf j]at b;rw[<-b,i.2.2.1]at g;have:=(q g).2.2;simp only;omega
theorem MM(s:za):(vt zy jB s).1.cb<=20001:=by
 by_cases h:(vt zy jB s).2.2=0
 ·exact(ML h).2
 ·have j:(vt zy jB s).1=zC:=by
   by_cases b:20000<s.length
   ·unfold vt;rw[zg b]
   obtain⟨c,a,k⟩:∃c a,iN s zy jB 102 ⟨0,0,0,0⟩=(c,a):=⟨_,_,rfl⟩;obtain⟨d,f⟩:=wM (if(y8 s a).p<s.length then ch s (y8 s a)else y8 s a);rw[sW b k f]at h⊢;by_cases g:d.e≠0
   ·rw[zg g]
   ·rw[zf g]at h⊢;by_cases i:c.check≠0
    ·rw[zg i]
    ·rw[zf i]at h;exact absurd rfl h
  rw[j];decide
noncomputable abbrev Crrd:Ctx:=qj prog [(4,Sg),(5,Sg),(6,zn false [] (FSm qg))]
theorem zbd:AM.jH False Crrd (fun g=>[6].contains g):=qx mixed ⟨GU.lax,by simp,GK,by simp,(oL qg).lax,fun _=>zt _ _,trivial⟩
theorem Sr:bE Crrd (fun g=>[6].contains g) 3 Tryz.f3:=wc func3
theorem zbe(t:za)(g:t.length<=qg):zG Crrd Tryz.f3 [str t]=some (yh true):=by
 have c:qg=268435456:=rfl;have b:=fun Y Z=>MI t Y Z g
 have a:=MM t;obtain⟨⟨x,n,f⟩,d⟩:∃r,vt zy jB t=r:=⟨_,rfl⟩;rw[d]at a;simp only at a;rw[show GJ t=.wL [.agg x.V,int n,int f] by unfold GJ;rw[d]]at b;have e:=fun Y Z=>D3 qg x Y Z ⟨by omega,by omega⟩
 refine zu rfl ?_;simp only[qv]at b e;simp[b,e,zc,Tryz.f3]
end Go.Q
namespace Go.AM
open Go.RowKit Go.WideShapes Go.ChangeShapes
def Y6{H:Type}(P:Program):Nat->TypeId->DataW H->zb->Prop
 | 0,_,_,_=>False
 |n+1,t,d,a=>match P.underlying t with
  |some .bool=>∃b,d=.lit (.bool b)/\a=[.v (.bool b)]
  |some (.int k)=>∃i,d=.lit (.int k i)/\a=[.v (.int k i)]/\(Lit.int k i).wf=true
  |some .string=>∃s:ByteArray,d=.lit (.string s.data.toList)/\a=[.v (.string s)]/\s.size<=maxLen
  |some (.slice e)=>∃(es:List zb) (g:List (DataW H)),((d=.nil/\g=[])\/∃sp,d=.slice g sp)/\a=[.sl (P.cellsOf e) es]/\es.length<=maxLen/\Zip (fun c y=>c.length=P.cellsOf e/\Y6 P n e y c) es g
  |some (.struct h)=>∃g:List (DataW H),d=.agg g/\a.length=P.cellsOf t/\g.length=h.size/\∀(i:Nat) f y,h[i]?=some f->g[i]?=some y->Y6 P n f.type y ((a.drop f.offset).take (P.cellsOf f.type))
  |_=>False
section
variable{H:Type}{V:TypeId×Value->H}{P:Program}{w:World}{sp:Nat->Bool}{held:Bool}
theorem ct{T:List TypeId}(hT:tF P T=true):∀(I:Nat) (t:TypeId) (cs:List Value) (d:DataW H) (ps:List MemPlace),t∈T->DataW.trod V P w 0 sp held I t cs=some (d,ps) ->
  ∃o,Zip (fun z u=>wT w (fun b=>b<w.heap.size) z u/\u.oneCell'=true) o cs/\cs.length=P.cellsOf t/\Y6 P I t d o
 | 0,t,cs,d,ps,_,h=>by simp[DataW.trod]at h
 |n+1,t,cs,d,ps,ht,h=>by
  have r:=qB.1 hT t ht;have one:∀{z:O} {u:Value},wT w (fun b=>b<w.heap.size) z u->u.oneCell'=true->Zip (fun z u=>wT w (fun b=>b<w.heap.size) z u/\u.oneCell'=true) [z] [u]:=fun E h2=>.cons ⟨E,h2⟩ .nil
  split at r
  ·rename_i B;obtain⟨b,rfl,A⟩:=DataW.trod_bool B h;simp only[Jb]at A;exact⟨[.v (.bool b)],one (.v rfl) rfl,by simpa using(by simpa using r:P.cellsOf t=1).symm,by unfold Y6;rw[B];exact⟨b,A.1,rfl⟩⟩
  ·rename_i k B;obtain⟨i,rfl,A,hwf⟩:=DataW.trod_int B h;simp only[Jb]at A;exact⟨[.v (.int k i)],one (.v rfl) rfl,by simpa using(by simpa using r:P.cellsOf t=1).symm,by unfold Y6;rw[B];exact⟨i,A.1,rfl,hwf⟩⟩
  ·rename_i B;obtain⟨s,rfl,A,hs⟩:=DataW.trod_string B h;simp only[Jb]at A;exact⟨[.v (.string s)],one (.v rfl) rfl,by simpa using(by simpa using r:P.cellsOf t=1).symm,by unfold Y6;rw[B];exact⟨s,A.1,rfl,hs⟩⟩
  ·rename_i e B;simp only[zD,yI,q5,ZU]at r;obtain⟨⟨W,heT⟩,hce⟩:=r;rcases DataW.trod_slice B h with⟨rfl,A⟩|⟨a,len,cap,g,rest,m,hm,rfl,A,_,hlc,hcm,hel,X,_,_⟩
   ·simp only[Jb]at A;refine⟨[.sl (P.cellsOf e) []],one ?_ rfl,by simp[W],by unfold Y6;rw[B];exact⟨[],[],.inl ⟨A.1,rfl⟩,rfl,by simp,.nil⟩⟩;exact wT.sl (es:=[]) (s:=P.cellsOf e) (fun _ _=>undef) (by simp) (by simp) (by simp[maxLen]) (by simp) (by simp) (by simp)
   ·obtain rfl:m=n:=by omega
    simp only[Jb]at A;have hel':∀i (l:i<len),∃cs',w.cells? 0 (a.add (i*P.cellsOf e)) (P.cellsOf e)=some cs'/\DataW.trod V P w 0 sp held m e cs'=some (g[i]'(by omega)):=by
     intro i l;have E:=X i l;have h2:g[i]?=some (g[i]'(by omega)):=zo (by omega);rw[h2]at E;cases hc:w.cells? 0 (a.add (i*P.cellsOf e)) (P.cellsOf e)with
     |none=>simp[hc]at E
     |some cs'=>exact⟨cs',rfl,by simpa[hc]using E⟩
    have hch:∀i,∃q:List Value×zb,∀l:i<len,w.cells? 0 (a.add (i*P.cellsOf e)) (P.cellsOf e)=some q.1/\Zip (fun z u=>wT w (fun b=>b<w.heap.size) z u/\u.oneCell'=true) q.2 q.1/\q.1.length=P.cellsOf e/\Y6 P m e (g[i]'(by omega)).1 q.2:=by
     intro i;by_cases l:i<len
     ·obtain⟨cs',g1,g3⟩:=hel' i l;obtain⟨o,q1,q2,q3⟩:=ct hT m e cs' (g[i]'(by omega)).1 (g[i]'(by omega)).2 heT (by rw[g3]);exact⟨(cs',o),fun _=>⟨g1,q1,q2,q3⟩⟩
     ·exact⟨([],[]),fun h=>absurd h l⟩
    let q:Nat->List Value×zb:=fun i=>Classical.choose (hch i)
    have hq:∀i (l:i<len),w.cells? 0 (a.add (i*P.cellsOf e)) (P.cellsOf e)=some (q i).1/\Zip (fun z u=>wT w (fun b=>b<w.heap.size) z u/\u.oneCell'=true) (q i).2 (q i).1/\(q i).1.length=P.cellsOf e/\Y6 P m e (g[i]'(by omega)).1 (q i).2:=fun i=>yK (hch i)
    have D:((List.range len).map fun i=>(q i).2).length=len:=by simp
    have J:∀(i:Nat) (c:zb),((List.range len).map fun i=>(q i).2)[i]?=some c->i<len/\c=(q i).2:=by
     intro i c l;have p:i<len:=by have:=(zj.1 l).1;simpa using this
     rw[qD,Wl p]at l;simp at l;exact⟨p,l.symm⟩
    have key:wT w (fun b=>b<w.heap.size) (.sl (P.cellsOf e) ((List.range len).map fun i=>(q i).2)) (.slice (some a) ((List.range len).map fun i=>(q i).2).length cap):=by
     refine .sl (fun i j=>((q i).1[j]?).getD undef) (by simp) (by rw[D];exact hlc) hcm (fun c hc=>?_) (fun i j c z l K=>?_) (fun i j c z l K=>?_)
     ·obtain⟨i,l,rfl⟩:=qq.1 hc;have E:=hq i (xd.1 l);rw[E.2.1.1,E.2.2.1]
     ·obtain⟨p,rfl⟩:=J i c l;obtain⟨g1,L,g3,_⟩:=hq i p;have N:j<(q i).1.length:=by rw[<-L.1];exact(zj.1 K).1
      have C:(q i).1[j]?=some ((q i).1[j]):=zo N;obtain⟨_,g5,g6⟩:=World.cells?_some g1;have x:=g6 j (by omega);rw[cy]at x;rw[C]at x;refine⟨a,rfl,?_,?_,?_⟩
      ·have:=block_lt_of_cell x;rwa [QT]at this
      ·rw[x,C];rfl
      ·rw[C];exact(L.2 j z _ K C).2
     ·obtain⟨p,rfl⟩:=J i c l;obtain⟨g1,L,g3,_⟩:=hq i p;have N:j<(q i).1.length:=by rw[<-L.1];exact(zj.1 K).1
      have C:(q i).1[j]?=some ((q i).1[j]):=zo N;rw[C];exact(L.2 j z _ K C).1
    rw[D]at key;refine⟨[.sl (P.cellsOf e) ((List.range len).map fun i=>(q i).2)],one key rfl,by simp[W],?_⟩;unfold Y6;rw[B];refine⟨_,g.map (·.1),.inr ⟨_,A.1⟩,rfl,by rw[D];omega,by rw[D,yj,hel],fun i c y l F=>?_⟩;obtain⟨p,rfl⟩:=J i c l;have E:=hq i p;rw[qD,zo (by omega)]at F;simp only[zE,zY]at F;subst F;exact⟨by rw[E.2.1.1,E.2.2.1],E.2.2.2⟩
  ·rename_i fs B;simp only[zD,yI,qB,ZU]at r;obtain⟨S,hfT⟩:=r;obtain⟨xs,m,hm,A,hcl,hxl,hf⟩:=DataW.trod_struct B h;obtain rfl:m=n:=by omega
   simp only[Jb]at A;obtain⟨o,g1,L,g3⟩:=rA (P:=P) (R:=fun z u=>wT w (fun b=>b<w.heap.size) z u/\u.oneCell'=true) (Q:=fun f o=>∀(i:Nat) y,fs[i]?=some f->(xs.map (·.1))[i]?=some y->Y6 P m f.type y o) fs.toList 0 (P.cellsOf t) cs S hcl (fun f G=>by
    obtain⟨i,l⟩:=List.getElem?_of_mem G;have U:=hf i f (by simpa using l);have p:i<xs.length:=by rw[hxl];have:=(zj.1 l).1;simpa using this
    rw[zo p]at U;obtain⟨o,q1,_,q3⟩:=ct hT m f.type _ (xs[i]).1 (xs[i]).2 (hfT f G) U;refine⟨o,q1,fun k y hk F=>?_⟩;have hfk:=hf k f hk;rw[U]at hfk;rw[qD,<-hfk]at F;simp only[zE,zY]at F;subst F;exact q3)
   refine⟨o,⟨by omega,fun j z u K hu'=>L j z u K (by simpa using hu')⟩,hcl,?_⟩;unfold Y6;rw[B];refine⟨xs.map (·.1),A.1,by omega,by rw[yj,hxl],fun i f y l F=>?_⟩;have G:f∈fs.toList:=by
    have:fs.toList[i]?=some f:=by simpa using l
    exact zT this
   have:=(g3 f G).2 i y l F;simpa using this
  ·cases r
theorem Ss{T:List TypeId}(y:tF P T=true){t:TypeId}{v:Value}{d:DataW H}{z:List MemPlace}{r:Reach}{f:Nat}(A:t∈T)(B:¬∃g,P.underlying t=some (.struct g))(j:Value.okWide P w r f t v)(h:DataW.Trod V P w 0 sp held t v d z) :
  ∃(n:Nat) (p:O),Y6 P n t d [p]/\wT w (fun b=>b<w.heap.size) p v:=by
 obtain⟨n,C⟩:=h;obtain⟨k,e,m,i⟩:=ct y n t v.cells.toList d z A C;have c:=qB.1 y t A;have o:P.cellsOf t=1:=by
  split at c
  ·simpa using c
  ·simpa using c
  ·simpa using c
  ·simp only[zD,yI]at c;exact c.1.1
  ·rename_i g a;exact absurd ⟨g,a⟩ B
  ·cases c
 rw[o]at m
 match k,e,i with
 |[],e,i=>have:=e.1;rw[m]at this;simp at this
 |p::q::l,e,i=>have:=e.1;rw[m]at this;simp at this
 |[p],e,i=>
  obtain⟨u,s,D,E⟩:=Jp e;have x:v=u:=by
   cases v with
   |agg cs=>
    exfalso;split at c
    ·rename_i a;simp[Value.okWide,a,Cell.okWide,Cell.ok]at j
    ·rename_i a;simp[Value.okWide,a,Cell.okWide,Cell.ok]at j
    ·rename_i a;simp[Value.okWide,a,Cell.okWide,Cell.ok]at j
    ·rename_i a;simp[Value.okWide,a,Cell.okWide,Cell.ok]at j
    ·rename_i g a;exact B ⟨g,a⟩
    ·cases c
   |_=>simpa[Value.cells]using s
  subst x;exact⟨n,p,i,D⟩
end
end Go.AM
namespace Go.AM
section
variable{H:Type}{P:Program}{n:Nat}{t:TypeId}{d:DataW H}{pvs:zb}
theorem AK(a:P.underlying t=some .string)(h:Y6 P n t d pvs):∃l:za,d=.lit (.string l)/\pvs=[str l]/\l.length<=maxLen:=by
 cases n with
 |zero=>exact h.elim
 |succ m=>unfold Y6 at h;rw[a]at h;obtain⟨s,b,c,e⟩:=h;exact⟨s.data.toList,b,by rw[c],e⟩
end
end Go.AM
