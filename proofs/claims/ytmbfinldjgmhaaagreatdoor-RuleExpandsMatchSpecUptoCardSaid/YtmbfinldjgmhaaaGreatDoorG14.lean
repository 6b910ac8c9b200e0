/- Lemmas. -/
import Derived.Test.YtmbfinldjgmhaaaGreatDoorG13
set_option maxRecDepth 100000
set_option maxHeartbeats 4000000
open Go Proofs Proofs.YtmbfinldjgmhaaaGreatDoor Proofs.Tryz RowKit AM SpanLaw Q Zz
namespace Go.Q
theorem Mj{K m t a b:Nat}(e:1<=m)(d:m*K+a<=t+1)(f:0<a)(g:b<K):(m-1)*K+b<=t:=by obtain⟨c,rfl⟩:∃c,m=c+1:=⟨m-1,by omega⟩;rw[qK]at d;simp only[Nat.add_sub_cancel];omega
def Mk(t:Nat)(l:List qd)(c:zG):Prop:=Qa l/\Qb l<=1048576/\c.cb<=1048576/\∃m,(∀n∈c.names,yx l n=true/\Co l (wS l n)<m)/\m*1048577+c.cb<=t
def xeP(q:zG×Bool):O:=.wq [.agg q.1.V,q8 q.2]
noncomputable def FXe (t:Nat):zb->Option O:=qu (α:=List qd×zG) (fun a=>[.sl 10 (a.1.map qd.V),.agg a.2.V]) (fun a=>Mk t a.1 a.2) fun a=>xeP (b9 a.1 a.2)
theorem oo{t:Nat}{l:List qd}{c:zG}(h:Mk t l c)(Y:Hp)(Z:Nat):zi false [] (FXe t) [.sl 10 (l.map qd.V),.agg c.V] Y Z=some (xeP (b9 l c),Y,Z):=
 Js (l,c) _ _ (by simp[zI]) (fun a b e=>by obtain⟨d,f⟩:=a;obtain⟨g,i⟩:=b;simp only[zl,zM,O.agg.injEq]at e;rw[Za e.1,ka e.2]) h (.inr (by simp[O.noOwn,zI]))
noncomputable abbrev Cre (t:Nat) (a:zb) (b:Bool):Ctx:=ZO prog [(33,zi false [] (LJ (fun l s=>J7 (yC s l)) fun l _=>l.length<=zx)),(14,zi false [] (FXe t)),(34,zi false [] FKt),(35,zi false [] (atF [.agg a] (q8 b)))] 7 [8] []
abbrev qre:List Nat:=[34,35]
abbrev Yj(k:Int)(o:O):zb:=[int k,.v (.string ⟨#[]⟩),int 0,.nil,.v (.string ⟨#[]⟩),.v (.string ⟨#[]⟩),o]
def PX(t:Nat)(l:List qd)(c:zG):Prop:=∃(a:zb) (d:zG),qg (.agg a) (.agg d.V)/\d.parts<=zx/\∃b,zt (Cre t a (ah d)) f14 [.sl 10 (l.map qd.V),.agg c.V]=some b/\qg b (xeP (b9 l c))
theorem Kc{x r:O}{Y Y1:Hp}{a:zb}(Z:Nat)(h:qa Y x=some (.agg a,Y1))(b:r.flat=true):zi false [] (atF [.agg a] r) [x] Y Z=some (r,Y,Z):=
 yk (Y1:=Y1) (by simp only[zw,h]) (PW _ _) (.inl b)
theorem DJ(t:Nat)(l:List qd)(c:zG)(h:Mk (t+1) l c)(F:c.kind=5):PX t l c:=by
 obtain⟨o,Q,hc,m,R,S⟩:=h;have N:zx=268435456:=rfl;have G:=VX c;obtain⟨T,W⟩:=R c.name (by rw[yU,zf F];simp);rcases Yh o.up c.name with⟨_,P,X,hnj⟩|⟨e,_⟩
 case inr=>rw[T]at e;cases e
 obtain⟨i,hi⟩:=jj (wS l c.name);obtain⟨s,hs⟩:=jj (l[wS l c.name]);have hll:=xJ l;have u:=fun Y Z=>eY (fun l s=>J7 (yC s l)) (fun l _=>l.length<=zx) l c.name Y Z (by omega)
 have H:J7 (yC c.name l)=.wq [.agg s.V,q8 true]:=by rw[X,hs];rfl
 simp only[H]at u;have z:l[wS l c.name]?=some s:=by rw[zj P,hs]
 have Gy:=xI (zz z);have hmc:s.cb=1+s.name.length+Qh s.ins+Qh s.outs+s.cond.cb:=rfl;have t1:=Qy s.ins;have t2:=Qy s.outs;have I:1<=m:=by omega
 have J:=Mj I S G (b:=s.cond.cb) (by omega);have p:=oo (t:=t) (l:=l) (c:=s.cond) ⟨o,Q,by omega,m-1,fun n C=>⟨o.known s (zz z) n C,by
  have K:wS l n∈wb l (wS l c.name):=by unfold wb;rw[z];exact wo C
  have:=Jz o _ _ K;omega⟩,J⟩
 obtain⟨q,r,E⟩:∃q r,b9 l s.cond=(q,r):=⟨_,_,rfl⟩;have L:b9 l c=(jA s q,r&&!ah (jA s q)):=by unfold b9 Hv;rw[uB,zf F,zcq o P,hs,E]
 have v:r=true->q.parts<=200:=fun e=>by
  have:=Ar (sg:=fun n=>vW l 101 (wS l n)) (c:=s.cond) (by show(b9 l s.cond).2=true;rw[E];exact e);have e2:(s.cond.xU fun n=>vW l 101 (wS l n)).1=q:=by show(b9 l s.cond).1=q;rw[E]
  rw[e2]at this;exact this
 rw[E]at p;simp[xeP,zI s.cond,zI q]at p;have w:=fun Y Z=>dk s.ins Y Z (by omega)
 have x:=fun Y Z=>dk s.outs Y Z (by omega)
 have y:qP [int q.kind,str q.attr,int q.op,.sl 5 (q.qZ.map zZ.V),str q.pat,str q.name,.sl 7 (q.args.map zG.V)] q.V:=by rw[<-zI];exact .refl _
 have f:(c.kind==5)=true:=by simpa using F
 unfold PX;rw[L];have d:∀(A:zb),qg (.agg A) (.agg (jA s q).V)->∀b,(b=(r&&!ah (jA s q)))->qg (.wq [.agg A,q8 b]) (xeP (jA s q,r&&!ah (jA s q))):=fun A M b hb=>by rw[hb];exact qP.wq (.cons M (.cons (.refl _) .nil))
 unfold jA Hs at d⊢;by_cases g:0<s.ins.length<;>by_cases k:0<s.outs.length
 ·rw[zf k,zf g]at d⊢;have a:qg (.agg (Yj 1 (.sl 7 [Yj 3 (.sl 7 [(vm s.outs).V]),Yj 2 (.sl 7 [(vm s.ins).V,[int q.kind,str q.attr,int q.op,.sl 5 (q.qZ.map zZ.V),str q.pat,str q.name,.sl 7 (q.args.map zG.V)]])]))) (.agg (zG.mk 1 [] 0 [] [] [] [zG.mk 3 [] 0 [] [] [] [vm s.outs],zG.mk 2 [] 0 [] [] [] [vm s.ins,q]]).V):=qP.agg (ga (Hw (.refl _)) (ga (.refl _) y));cases r
  ·refine⟨yG,.mk 0 [] 0 [] [] [] [],kJ,by simp[kb,wI,zx],wW rfl ?_⟩;simp[zI c,f,u,p,wE,g,k,w,zS,qn,zp,zy,zo];rw[jb (Z7 (id:=3) (i:=0) (j:=0) (by simp) (by simp) (by simp;rfl) rfl (x4 _))];simp[x,zS,qn,zp,zy,zo];exact⟨.wq [.agg (Yj 1 (.sl 7 [Yj 3 (.sl 7 [(vm s.outs).V]),Yj 2 (.sl 7 [(vm s.ins).V,[int q.kind,str q.attr,int q.op,.sl 5 (q.qZ.map zZ.V),str q.pat,str q.name,.sl 7 (q.args.map zG.V)]])])),_],by simp,d _ a _ rfl⟩
  ·have B:=v rfl;refine⟨(Yj 1 (.sl 7 [Yj 3 (.sl 7 [(vm s.outs).V]),Yj 2 (.sl 7 [(vm s.ins).V,[int q.kind,str q.attr,int q.op,.sl 5 (q.qZ.map zZ.V),str q.pat,str q.name,.sl 7 (q.args.map zG.V)]])])),_,a,by simp only[kb,wI];have:∀D,(vm D).parts=1:=fun _=>rfl;simp only[this];omega,wW rfl ?_⟩;simp[zI c,f,u,p,wE,g,k,w,zS,qn,zp,zy,zo];rw[jb (Z7 (id:=3) (i:=0) (j:=0) (by simp) (by simp) (by simp;rfl) rfl (x4 _))];simp[x,zS,qn,zp,zy,zo];rw[Kc _ (by simp;rfl) rfl];simp[f14];exact⟨.wq [.agg (Yj 1 (.sl 7 [Yj 3 (.sl 7 [(vm s.outs).V]),Yj 2 (.sl 7 [(vm s.ins).V,[int q.kind,str q.attr,int q.op,.sl 5 (q.qZ.map zZ.V),str q.pat,str q.name,.sl 7 (q.args.map zG.V)]])])),_],by simp,d _ a _ rfl⟩
 ·rw[zc k,zf g]at d⊢;have a:qg (.agg (Yj 2 (.sl 7 [(vm s.ins).V,[int q.kind,str q.attr,int q.op,.sl 5 (q.qZ.map zZ.V),str q.pat,str q.name,.sl 7 (q.args.map zG.V)]]))) (.agg (zG.mk 2 [] 0 [] [] [] [vm s.ins,q]).V):=qP.agg (ga (.refl _) y);cases r
  ·refine⟨yG,.mk 0 [] 0 [] [] [] [],kJ,by simp[kb,wI,zx],wW rfl ?_⟩;simp[zI c,f,u,p,wE,g,k,w,zS,qn,zp,zy,zo];exact⟨.wq [.agg (Yj 2 (.sl 7 [(vm s.ins).V,[int q.kind,str q.attr,int q.op,.sl 5 (q.qZ.map zZ.V),str q.pat,str q.name,.sl 7 (q.args.map zG.V)]])),_],by simp,d _ a _ rfl⟩
  ·have B:=v rfl;refine⟨(Yj 2 (.sl 7 [(vm s.ins).V,[int q.kind,str q.attr,int q.op,.sl 5 (q.qZ.map zZ.V),str q.pat,str q.name,.sl 7 (q.args.map zG.V)]])),_,a,by simp only[kb,wI];have:∀D,(vm D).parts=1:=fun _=>rfl;simp only[this];omega,wW rfl ?_⟩;simp[zI c,f,u,p,wE,g,k,w,zS,qn,zp,zy,zo];rw[Kc _ (by simp;rfl) rfl];simp[f14];exact⟨.wq [.agg (Yj 2 (.sl 7 [(vm s.ins).V,[int q.kind,str q.attr,int q.op,.sl 5 (q.qZ.map zZ.V),str q.pat,str q.name,.sl 7 (q.args.map zG.V)]])),_],by simp,d _ a _ rfl⟩
 ·rw[zf k,zc g]at d⊢;have a:qg (.agg (Yj 1 (.sl 7 [Yj 3 (.sl 7 [(vm s.outs).V]),[int q.kind,str q.attr,int q.op,.sl 5 (q.qZ.map zZ.V),str q.pat,str q.name,.sl 7 (q.args.map zG.V)]]))) (.agg (zG.mk 1 [] 0 [] [] [] [zG.mk 3 [] 0 [] [] [] [vm s.outs],q]).V):=qP.agg (ga (Hw (.refl _)) y);cases r
  ·refine⟨yG,.mk 0 [] 0 [] [] [] [],kJ,by simp[kb,wI,zx],wW rfl ?_⟩;simp[zI c,f,u,p,wE,g,k];rw[jb (Z7 (id:=3) (i:=0) (j:=0) (by simp) (by simp) (by simp;rfl) rfl (x4 _))];simp[x,zS,qn,zp,zy,zo];exact⟨.wq [.agg (Yj 1 (.sl 7 [Yj 3 (.sl 7 [(vm s.outs).V]),[int q.kind,str q.attr,int q.op,.sl 5 (q.qZ.map zZ.V),str q.pat,str q.name,.sl 7 (q.args.map zG.V)]])),_],by simp,d _ a _ rfl⟩
  ·have B:=v rfl;refine⟨(Yj 1 (.sl 7 [Yj 3 (.sl 7 [(vm s.outs).V]),[int q.kind,str q.attr,int q.op,.sl 5 (q.qZ.map zZ.V),str q.pat,str q.name,.sl 7 (q.args.map zG.V)]])),_,a,by simp only[kb,wI];have:∀D,(vm D).parts=1:=fun _=>rfl;simp only[this];omega,wW rfl ?_⟩;simp[zI c,f,u,p,wE,g,k];rw[jb (Z7 (id:=3) (i:=0) (j:=0) (by simp) (by simp) (by simp;rfl) rfl (x4 _))];simp[x,zS,qn,zp,zy,zo];rw[Kc _ (by simp;rfl) rfl];simp[f14];exact⟨.wq [.agg (Yj 1 (.sl 7 [Yj 3 (.sl 7 [(vm s.outs).V]),[int q.kind,str q.attr,int q.op,.sl 5 (q.qZ.map zZ.V),str q.pat,str q.name,.sl 7 (q.args.map zG.V)]])),_],by simp,d _ a _ rfl⟩
 ·rw[zc k,zc g]at d⊢;have a:qg (.agg [int q.kind,str q.attr,int q.op,.sl 5 (q.qZ.map zZ.V),str q.pat,str q.name,.sl 7 (q.args.map zG.V)]) (.agg (q).V):=qP.agg y;cases r
  ·refine⟨yG,.mk 0 [] 0 [] [] [] [],kJ,by simp[kb,wI,zx],wW rfl ?_⟩;simp[zI c,f,u,p,wE,g,k];exact⟨.wq [.agg [int q.kind,str q.attr,int q.op,.sl 5 (q.qZ.map zZ.V),str q.pat,str q.name,.sl 7 (q.args.map zG.V)],_],by simp,d _ a _ rfl⟩
  ·have B:=v rfl;refine⟨[int q.kind,str q.attr,int q.op,.sl 5 (q.qZ.map zZ.V),str q.pat,str q.name,.sl 7 (q.args.map zG.V)],_,a,by omega,wW rfl ?_⟩;simp[zI c,f,u,p,wE,g,k];rw[Kc _ (by simp;rfl) rfl];simp[f14];exact⟨.wq [.agg [int q.kind,str q.attr,int q.op,.sl 5 (q.qZ.map zZ.V),str q.pat,str q.name,.sl 7 (q.args.map zG.V)],_],by simp,d _ a _ rfl⟩
theorem sM(sg:za->zG×Bool):∀l:List zG,WG sg l=if(l.all fun y=>(y.xU sg).2)=true then some (l.map fun y=>(y.xU sg).1)else none
 |[]=>by simp[WG]
 |y::l=>by rw[WG,sM sg l];cases a:(y.xU sg).2<;>cases b:l.all fun y=>(y.xU sg).2<;>simp[a,b]
theorem zcr(l:List qd){c:zG}(d:c.kind≠5):b9 l c=if(c.args.all fun y=>(b9 l y).2)=true then(.mk c.kind c.attr c.op c.qZ c.pat c.name (c.args.map fun y=>(b9 l y).1),!ah (.mk c.kind c.attr c.op c.qZ c.pat c.name (c.args.map fun y=>(b9 l y).1)))else(c,false):=by
 show c.xU (fun n=>vW l 101 (wS l n))=_;rw[uB,zc d,sM];have e:Hv l 101=b9 l:=rfl;by_cases a:(c.args.all fun y=>(b9 l y).2)=true
 ·have b:(c.args.all fun y=>(y.xU fun n=>vW l 101 (wS l n)).2)=true:=a;rw[zf a,zf b];rfl
 ·have b:¬(c.args.all fun y=>(y.xU fun n=>vW l 101 (wS l n)).2)=true:=a;rw[zc a,zc b]
theorem As(t:Nat)(l:List qd)(c:zG)(h:Mk (t+1) l c)(k5:c.kind≠5):PX t l c:=by
 obtain⟨Q,hl,hc,m,hn,ht⟩:=h;have hlim:zx=268435456:=rfl;have Ea:=xG c;have hal:=ju c.args;have R:=yU c;have S:=yq k5;have am:∀y∈c.args,Mk t l y:=fun y b=>by have:=kg b;exact⟨Q,hl,by omega,m,fun n T=>hn n (by rw[R];exact zF.2 (.inr (jQ.2 ⟨y,b,T⟩))),by omega⟩
 have W:qP [int c.kind,str c.attr,int c.op,.sl 5 (c.qZ.map zZ.V),str c.pat,str c.name,.sl 7 (c.args.map zG.V)] c.V:=by rw[<-zI];exact .refl _
 unfold PX;rw[zcr l k5];obtain⟨rs,i⟩:=jj (c.args.map fun y=>(b9 l y).1);have X:rs.length=c.args.length:=by rw[<-i];simp
 obtain⟨p,d,u,hdp,MN⟩:∃(p:zb) (d:zG),qg (.agg p) (.agg d.V)/\d.parts<=zx/\((c.args.all fun y=>(b9 l y).2)=true->d=.mk c.kind c.attr c.op c.qZ c.pat c.name rs/\∃o,p=[int c.kind,str c.attr,int c.op,.sl 5 (c.qZ.map zZ.V),str c.pat,str c.name,o]/\(o=.nil/\rs=[]\/o=.sl 7 (rs.map zG.V)/\rs≠[])):=by
  by_cases a:(c.args.all fun y=>(b9 l y).2)=true
  ·have hay:∀y∈c.args,(b9 l y).2=true:=fun y b=>zL.1 a y b
   have hpb:wI rs<=200*rs.length:=KP fun r hr=>by rw[<-i]at hr;obtain⟨y,b,rfl⟩:=qp.1 hr;exact Ar (hay y b)
   obtain⟨o,K⟩:∃o:O,(o=.nil/\rs=[]\/o=.sl 7 (rs.map zG.V)/\rs≠[]):=by
    by_cases L:rs=[]
    ·exact⟨_,.inl ⟨rfl,L⟩⟩
    ·exact⟨_,.inr ⟨rfl,L⟩⟩
   refine⟨_,.mk c.kind c.attr c.op c.qZ c.pat c.name rs,?_,by rw[kb];omega,fun _=>⟨rfl,o,rfl,K⟩⟩;rw[zI (.mk _ _ _ _ _ _ _)];refine qP.agg (.cons (.refl _) (.cons (.refl _) (.cons (.refl _) (.cons (.refl _) (.cons (.refl _) (.cons (.refl _) (.cons (.YV ?_) .nil)))))));rcases K with⟨rfl,rfl⟩|⟨rfl,_⟩
   ·exact .inl ⟨rfl,rfl⟩
   ·exact .inr rfl
  ·exact⟨yG,_,kJ,by simp[kb,wI,zx],fun h=>absurd h a⟩
 obtain⟨V,E⟩:∃V:zG×Bool,(if(c.args.all fun y=>(b9 l y).2)=true then(zG.mk c.kind c.attr c.op c.qZ c.pat c.name (c.args.map fun y=>(b9 l y).1),!ah (.mk c.kind c.attr c.op c.qZ c.pat c.name (c.args.map fun y=>(b9 l y).1)))else(c,false))=V:=⟨_,rfl⟩;rw[E];refine⟨p,d,u,hdp,wW rfl ?_⟩;simp[zI c,S];refine zT (fun k U Y Z=>U 0=.sl 10 (l.map qd.V)/\U 3=.ref 0 0 0/\U 4=.ref 1 0 0/\U 62=.sl 7 (c.args.map zG.V)/\U 63=int c.args.length/\U 64=int k/\2<=Z/\Y 0=some ⟨26,7,false,[c.V]⟩/\Y 1=some ⟨26,7,false,[yG]⟩/\qU Y Z 26 7 (U 10) ((rs.take k).map zG.V)/\(∀m,U 10≠.own 0 0 m/\U 10≠.own 1 0 m)/\(k=0->U 10=.nil)/\∀y∈c.args.take k,(b9 l y).2=true) c.args.length
  ⟨by simp,by simp,by simp,by simp,by simp,by simp,by simp,by simp[zI c],by simp,.inl ⟨by simp,by simp⟩,by simp,by simp,by simp⟩ ?_
 rintro k U Y Z hk ⟨h0,h3,F,v,w,x,hnx,b0,D,z,s,hk0,hb⟩;by_cases g:k<c.args.length
 ·obtain⟨y,b⟩:=jj (c.args[k]);have G:y∈c.args:=by rw[<-b];exact zk g
  have M:=oo (am y G);obtain⟨q,ok,N⟩:∃q ok,b9 l y=(q,ok):=⟨_,_,rfl⟩;rw[N]at M;simp[xeP,zI y,zI q]at M;have hw:=qH k;have n1:¬Z=0:=by omega
  have n2:¬0=Z:=by omega
  have n3:¬0=Z+1:=by omega
  have n4:¬1=Z:=by omega
  have n5:¬1=Z+1:=by omega
  have n6:¬0=Z+2:=by omega
  have n7:¬1=Z+2:=by omega
  have f:=b0;rw[zI c]at f;cases ok
  ·have a:¬(c.args.all fun y=>(b9 l y).2)=true:=fun h=>by have:=zL.1 h y G;rw[N]at this;cases this
   rw[zc a]at E;subst E;simp[h0,h3,F,v,w,x,g,b,zI y,M,f,D,n1,n2,n3,n4,n5,f14];exact⟨.wq [.agg [int c.kind,str c.attr,int c.op,.sl 5 (c.qZ.map zZ.V),str c.pat,str c.name,.sl 7 (c.args.map zG.V)],q8 false],by simp,qP.wq (.cons (qP.agg W) (.cons (.refl _) .nil))⟩
  ·have A:(rs.take (k+1)).map zG.V=(rs.take k).map zG.V++[q.V]:=by
    have H:k<rs.length:=by omega
    have:rs[k]=q:=by
     have e1:rs[k]?=some q:=by rw[<-i,qf,zj g,b];simp[N]
     rw[zj H]at e1;injection e1
    rw[ql H,this];simp
   obtain⟨xs,I⟩:=jj ((rs.take k).map zG.V);have R4:xs.length<=1048576:=by rw[<-I];simp;omega
   rw[I]at z A;rw[zI q]at A;have kk:∀(Y':Hp) (j:Nat),j=0\/j=1->QM (U 10) Y' j=Y' j:=fun Y' j hj=>yi z Y' j fun m=>by
     rcases hj with rfl|rfl
     ·exact(s m).1
     ·exact(s m).2
   have J:=qU.yS (P:=prog) (t:=24) (c:=q.V) ((z.more (some ⟨26,7,false,[y.V]⟩)).more (some ⟨26,7,false,[q.V]⟩)) el24 sz26 by26 ze26 rfl (by omega) (by unfold maxLen;omega) (by omega);simp[zI y,zI q]at J;simp[h0,h3,F,v,w,x,g,b,zI y,M,f,D,n1,n2,n3,n4,n5,hw,J,zp,zy,zo];refine⟨by omega,?_,?_,?_,?_⟩
   ·rw[kk _ 0 (.inl rfl),zm _ _ _ _ (by omega),zm _ _ _ _ (by omega),zm _ _ _ _ (by omega)];exact b0
   ·rw[kk _ 1 (.inr rfl),zm _ _ _ _ (by omega),zm _ _ _ _ (by omega),zm _ _ _ _ (by omega)];exact D
   ·rw[<-List.map_take,A];exact qU.after
   ·intro y' hy';rw[ql g,b]at hy';rcases zF.1 hy' with hy'|hy'
    ·exact hb y' hy'
    ·rw[qB.1 hy',N]
 ·obtain rfl:k=c.args.length:=by omega
  have a:(c.args.all fun y=>(b9 l y).2)=true:=zL.2 fun y b=>hb y (by rw[qe (ze _)];exact b)
  obtain⟨rfl,o,rfl,K⟩:=MN a;rw[zf a,i]at E;subst E;rw[qe (by omega)]at z;have f:=b0;rw[zI c]at f;have hoc:(U 10).wH=true:=by rcases z with⟨e,_⟩|⟨_,_,e,_⟩<;>rw[e]<;>rfl
  have hcs:(U 10).cells=[U 10]:=by rcases z with⟨e,_⟩|⟨_,_,e,_⟩<;>rw[e]<;>rfl
  simp[h0,h3,F,v,w,x,f,D,hoc,hcs,f14];rcases K with⟨rfl,B⟩|⟨rfl,B⟩
  ·have e:=hk0 (by rw[<-X,B];rfl);rw[e,Kc _ (by simp;rfl) rfl];simp[F,D,f14];exact⟨.wq [.agg [int c.kind,str c.attr,int c.op,.sl 5 (c.qZ.map zZ.V),str c.pat,str c.name,.nil],_],by simp,qP.wq (.cons u (.cons (.refl _) .nil))⟩
  ·rcases z with⟨_,L⟩|⟨id,i1,e,i3⟩
   ·exact absurd (by simpa using L) B
   ·have j0:¬id=0:=by rintro rfl;exact(s _).1 e
    have j1:¬id=1:=by rintro rfl;exact(s _).2 e
    have C:∀Y':Hp,Y' id=Y id->qa Y' (.agg [int c.kind,str c.attr,int c.op,.sl 5 (c.qZ.map zZ.V),str c.pat,str c.name,.own id 0 (rs.map zG.V).length])=some (.agg [int c.kind,str c.attr,int c.op,.sl 5 (c.qZ.map zZ.V),str c.pat,str c.name,.sl 7 (rs.map zG.V)],qt Y' id none):=fun Y' hh=>by rw[i3]at hh;simp[hh];exact qe (by simp)
    rw[e,Kc _ (C _ (by rw[zm _ _ _ _ j0])) rfl];simp[F,D,f14];exact⟨.wq [.agg [int c.kind,str c.attr,int c.op,.sl 5 (c.qZ.map zZ.V),str c.pat,str c.name,.sl 7 (rs.map zG.V)],_],by rw[xQ]at C;simp only[AM.freeze,zw];rw[C _ (by rw[zm _ _ _ _ j1,zm _ _ _ _ j0])];rfl,qP.wq (.cons u (.cons (.refl _) .nil))⟩
theorem a8:∀t,zg prog 14 (zi false [] (FXe t))
 | 0=>Yn ⟨_,func14,by kernel_rfl,by kernel_rfl⟩ fun args r h=>by obtain⟨a,_,⟨_,_,_,m,_,p⟩,_⟩:=zK h;have:=VX a.2;omega
 |t+1=>Gm ⟨_,func14,by kernel_rfl,by kernel_rfl⟩ fun zs r hF=>by
    obtain⟨⟨l,c⟩,rfl,g,rfl⟩:=zK hF;obtain⟨b,d,e,f,j,k,n⟩:PX t l c:=by
     by_cases i:c.kind=5
     ·exact DJ t l c g i
     ·exact As t l c g i
    exact xl (fn:=f14) (C:=Cre t b (ah d)) (JO (q:=qre) mixed ⟨Q1,by simp,a8 t,by simp,oj,fun _=>zr _ _,pQ e f,fun _=>zr _ _,trivial⟩ (by simp[bh])) (qE func14) false [] _ fun args r h w S vs o=>by obtain⟨rfl,rfl⟩:=HM h;exact⟨_,j,o,by simp[f14],k,n⟩
def Vs(succ:Nat->List Nat):Nat->List Nat->Nat->List Nat
 | 0,M,_=>M
 |n+1,M,i=>if i∈M then M else(succ i).foldl (Vs succ n) (M++[i])
def PY(N:Nat)(M:List Nat):Nat:=(List.range N).countP fun j=>!M.contains j
theorem zcs{N:Nat}{M a:List Nat}(h:∀j∈M,j∈a):PY N a<=PY N M:=List.countP_mono_left fun j _ b=>by simp only[yF,List.contains_eq_mem,yW]at b⊢;exact fun c=>b (h j c)
theorem PZ{N i:Nat}{M:List Nat}(hi:i<N)(b:i ∉ M):PY N (M++[i])<PY N M:=eL (fun j _ a=>by simp only[yF,List.contains_eq_mem,yW,zF]at a⊢;exact fun h=>a (.inl h)) ⟨i,yg.2 hi,by simpa using b,by simp⟩
structure Vis (succ:Nat->List Nat) (N:Nat) (M:List Nat) (ks:List Nat) (M':List Nat):Prop where
 nd:M'.Nodup
 lt:∀j∈M',j<N
 keep:∀j∈M,j∈M'
 here:∀k∈ks,k∈M'
 from_:∀j∈M',j∈M\/∃k∈ks,j=k\/Q5 (fun a b=>b∈succ a) k j
 shut:∀j∈M',j ∉ M->∀k∈succ j,k∈M'
theorem oq{succ:Nat->List Nat}{N n:Nat}(o:∀M i,M.Nodup->(∀j∈M,j<N)->i<N->PY N M<n->Vis succ N M [i] (Vs succ n M i)):∀(e M:List Nat),M.Nodup->(∀j∈M,j<N)->(∀k∈e,k<N)->PY N M<n->Vis succ N M e (e.foldl (Vs succ n) M)
 |[],M,g,l,_,_=>⟨g,l,fun _ h=>h,by simp,fun _ h=>.inl h,fun j a b=>absurd a b⟩
 |k::e,M,g,l,p,q=>by
  have a:=o M k g l (p k (by simp)) q;have b:=oq o e _ a.nd a.lt (fun j c=>p j (by simp[c])) (DW (zcs a.keep) q);rw[xR];refine⟨b.nd,b.lt,fun j c=>b.keep j (a.keep j c),fun j c=>?_,fun j c=>?_,fun j c r m d=>?_⟩
  ·rcases zv.1 c with rfl|c
   ·exact b.keep _ (a.here _ (by simp))
   ·exact b.here j c
  ·rcases b.from_ j c with h|⟨m,d,h⟩
   ·rcases a.from_ j h with h|⟨m,d,h⟩
    ·exact .inl h
    ·exact .inr ⟨m,by simp at d;simp[d],h⟩
   ·exact .inr ⟨m,by simp[d],h⟩
  ·by_cases f:j∈Vs succ n M k
   ·exact b.keep m (a.shut j f r m d)
   ·exact b.shut j c f m d
theorem HN{succ:Nat->List Nat}{N:Nat}(hs:∀a,∀b∈succ a,b<N):∀(n:Nat) (M:List Nat) (i:Nat),M.Nodup->(∀j∈M,j<N)->i<N->PY N M<n->Vis succ N M [i] (Vs succ n M i)
 | 0,_,_,_,_,_,h=>absurd h (by omega)
 |n+1,M,i,g,l,q,t=>by
  unfold Vs;split
  ·rename_i hi;exact⟨g,l,fun _ h=>h,by simpa using hi,fun _ h=>.inl h,fun j a b=>absurd a b⟩
  ·rename_i hi;have u:=PZ q hi;have a:=oq (HN hs n) (succ i) (M++[i]) (List.nodup_append.2 ⟨g,by simp,fun a r b o=>by simp at o;subst o;exact fun e=>hi (e ▸ r)⟩) (fun j c=>by
    rcases zF.1 c with h|h
    ·exact l j h
    ·simp at h;omega) (hs i) (by omega)
   refine⟨a.nd,a.lt,fun j c=>a.keep j (by simp[c]),fun k d=>by simp at d;subst d;exact a.keep _ (by simp),fun j c=>?_,fun j c s m p=>?_⟩
   ·rcases a.from_ j c with h|⟨k,d,h⟩
    ·rcases zF.1 h with h|h
     ·exact .inl h
     ·exact .inr ⟨i,by simp,.inl (by simpa using h)⟩
    ·refine .inr ⟨i,by simp,.inr ?_⟩;rcases h with rfl|h
     ·exact .one d
     ·exact(Q5.one (E:=fun a b=>b∈succ a) d).trans h
   ·by_cases f:j=i
    ·subst f;exact a.here m p
    ·exact a.shut j c (by simp[s,f]) m p
noncomputable def fl (l:List qd) (ns:List za):List Nat:=(ns.map (wS l)).foldl (Vs (wb l) 268435457) []
theorem ot{l:List qd}(d:l.length<=100)(a:∀s∈l,∀n∈s.cond.names,yx l n=true){ns:List za}(b:∀n∈ns,yx l n=true):Vis (wb l) l.length [] (ns.map (wS l)) (fl l ns):=
 oq (HN (uj a) 268435457) _ _ (by simp) (by simp) (fun k h=>by
  obtain⟨n,c,rfl⟩:=qp.1 h;exact ZU (b n c)) (by
  have:PY l.length []<=(List.range l.length).length:=List.countP_le_length;rw[List.length_range]at this;omega)
theorem Uz{l:List qd}(c:dK (l.map qd.name)){n:za}(h:yx l n=true):∃a:wS l n<l.length,l[wS l n].name=n:=by
 rcases Yh c n with⟨_,a,_,d⟩|⟨b,_⟩
 ·exact⟨a,d⟩
 ·rw[h]at b;cases b
theorem dB{l:List qd}(x:dK (l.map qd.name))(B:l.length<=100)(y:∀s∈l,∀n∈s.cond.names,yx l n=true){ns:List za}(g:∀n∈ns,yx l n=true)(j:Nat):j∈fl l ns↔∃n,K8 (j5 l) ns n/\yx l n=true/\wS l n=j:=by
 have i:=ot B y g;constructor
 ·intro c;rcases i.from_ j c with h|⟨k,o,h2⟩
  ·cases h
  obtain⟨n,d,rfl⟩:=qp.1 o;rcases h2 with rfl|h2
  ·exact⟨n,.here d,g n d,rfl⟩
  have p:∀{j},Q5 (fun a b=>b∈wb l a) (wS l n) j->∃n,K8 (j5 l) ns n/\yx l n=true/\wS l n=j:=by
   intro j c;have step:∀m b,K8 (j5 l) ns m->yx l m=true->b∈wb l (wS l m)->∃n,K8 (j5 l) ns n/\yx l n=true/\wS l n=b:=fun m b r t u=>by
    rcases Yh x m with⟨_,c,f,D⟩|⟨f,_⟩
    ·unfold wb at u;rw[zj c]at u;obtain⟨q,z,rfl⟩:=qp.1 u;exact⟨q,.there r (by unfold j5;rw[f];exact z),y _ (zk c) q z,rfl⟩
    ·rw[t]at f;cases f
   induction c with
   |one e=>exact step n _ (.here d) (g n d) e
   |tail _ e v=>obtain⟨m,r,t,rfl⟩:=v;exact step m _ r t e
  exact p h2
 ·rintro⟨n,o,h2,rfl⟩
  induction o with
  |here h=>exact i.here _ (wo h)
  | @there a b E C v=>have A:=nJ x C;have w:=A.1;exact i.shut _ (v w) (by simp) _ A.2.1
def Xw(l:List qd)(j:Nat):za:=match l[j]? with
 |some s=>s.name
 |none=>[]
theorem KW{l:List qd}(a:dK (l.map qd.name)){n:za}(h:yx l n=true):Xw l (wS l n)=n:=by obtain⟨b,e⟩:=Uz a h;unfold Xw;rw[zj b];exact e
theorem P0{l:List qd}(a:∀s∈l,∀n∈s.cond.names,yx l n=true)(b:dK (l.map qd.name)){ns:List za}(c:∀n∈ns,yx l n=true){n:za}(h:K8 (j5 l) ns n):yx l n=true:=by
 induction h with
 |here h=>exact c _ h
 |there _ d _=>obtain⟨s,e,f⟩:=(nJ b d).2.2;exact a s e _ f
theorem Ml{l:List qd}(c:dK (l.map qd.name))(g:l.length<=100)(d:∀s∈l,∀n∈s.cond.names,yx l n=true){ns:List za}(f:∀n∈ns,yx l n=true){V:List Nat}(i:V.Perm (fl l ns)):(V.map (Xw l)).mergeSort (fun x y=>decide (x<=y))=Yi l ns:=by
 obtain⟨out,k⟩:=iQ l ns _ [] ns (.begin _ _) (ze _);have w:=ot g d f;have o:(V.map (Xw l)).Nodup:=by
  have p:=i.nodup_iff.2 w.nd;rw[List.nodup_iff_pairwise_ne,List.pairwise_map];refine(List.nodup_iff_pairwise_ne.1 p).imp_of_mem fun{a b} z q r e=>?_
  obtain⟨n,u,t,rfl⟩:=(dB c g d f a).1 (i.mem_iff.1 z);obtain⟨m,D,A,rfl⟩:=(dB c g d f b).1 (i.mem_iff.1 q);rw[KW c t,KW c A]at e;exact r (by rw[e])
 have B:dK (Yi l ns):=by rw[<-dA k,ZE ((Vu out _).nodup_iff.2 k.nodup)];exact iP k.nodup
 refine Gi _ _ (iP o) B fun n=>?_
 rw[(Vu _ _).mem_iff,Am,qp];constructor
 ·rintro⟨j,C,rfl⟩;obtain⟨m,u,t,rfl⟩:=(dB c g d f j).1 (i.mem_iff.1 C);rw[KW c t];exact u
 ·intro h;have v:=P0 d c f h;exact⟨wS l n,i.mem_iff.2 ((dB c g d f _).2 ⟨n,h,v,rfl⟩),KW c v⟩
end Go.Q
namespace Go.AM
variable{dr:Prop}
def hFz(U:AM.Spec):AM.Spec:=fun args Y Z=>(zw Y args).bind fun p=>U p.1 p.2 Z
theorem Mm{P:Program}{f:FuncId}{U:AM.Spec}(h:jr dr P f U):jr dr P f (hFz U):=by
 refine⟨h.1,fun args Y Z r Y' b e w S G vs hi c=>?_⟩;unfold hFz at e;obtain⟨⟨ys,d⟩,hd,e⟩:=Option.bind_eq_some_iff.1 e;obtain⟨g,a,i,_⟩:=yP (dr:=dr) hi hd c;refine(h.2 ys d Z r Y' b e w g G vs a.inv i.closed).mono fun o w' j=>?_
 obtain⟨v,l,m,rfl,k,n⟩:=j;exact⟨v,l,m,rfl,a.trans k,n⟩
end Go.AM
namespace Go.Q
@[simp]theorem zfr(U:Nat->O):AM.get U (.const (.map none))=some (.v (.map none)):=rfl
@[simp]theorem szF:qC prog 79=some 1:=by kernel_rfl
@[simp]theorem byF:jB prog 79=some 8:=by kernel_rfl
@[simp]theorem zeF:yT prog 79=some [.v .nilFunc]:=by kernel_rfl
@[simp]theorem agF:yr prog 79=some false:=by kernel_rfl
@[simp]theorem rcF(cs:zb):qO prog 79 cs=cs[0]?:=by simp[qO]
def JE(M:List Nat):List zb:=M.map fun(i:Nat)=>[int i,q8 true]
def fm(M:List Nat):kn:=⟨53,0,false,JE M⟩
theorem Au(i:Nat):∀(M:List Nat) (k:Nat),(i ∉ M->xi (.int .i64 i) (JE M) k=some none)/\(i∈M->∃j,xi (.int .i64 i) (JE M) k=some (some (j,q8 true)))
 |[],k=>⟨fun _=>rfl,fun h=>by simp at h⟩
 |x::M,k=>by
  obtain⟨c,d⟩:=Au i M (k+1);by_cases a:i=x
  ·refine⟨fun h=>absurd (by simp[a]) h,fun _=>⟨k,?_⟩⟩;subst a;simp[JE,xi,vY]
  ·have e:vY (.int .i64 (i:Int)) (.int .i64 (x:Int))=some false:=by simp only[vY,qI,zN,yy,ne_eq];omega
   have b:xi (.int .i64 i) (JE (x::M)) k=xi (.int .i64 i) (JE M) (k+1):=by simp only[JE,wg,xi,e]
   refine⟨fun h=>by rw[b];exact c fun f=>h (List.mem_cons_of_mem _ f),fun h=>?_⟩;rcases zv.1 h with h|h
   ·exact absurd h a
   ·rw[b];exact d h
theorem zct{Y:Hp}{id:Nat}{M:List Nat}(i:Nat)(h:Y id=some (fm M)):vu prog Y 53 (.mp id) (int i) false=some (q8 (decide (i∈M))):=by
 obtain⟨b,c⟩:=Au i M 0;by_cases a:i∈M
 ·obtain⟨j,d⟩:=c a;simp[vu,cg,h,fm,WU,d,a]
 ·simp[vu,cg,h,fm,WU,b a,a]
theorem zfs{Y:Hp}{id:Nat}{M:List Nat}(i:Nat)(h:Y id=some (fm M))(hs:i ∉ M):xB prog Y 53 (.mp id) (int i) (q8 true)=some (qt Y id (some (fm (M++[i])))):=by obtain⟨a,b⟩:=Au i M 0;simp[xB,h,fm,WU,a hs];simp[JE]
theorem ou{S α:Type}{f:S->α->Bool×S}(b:∀s a,(f s a).1=false):∀(l:List α) (s:S),wB f s l=(false,l.foldl (fun s a=>(f s a).2) s)
 |[],s=>rfl
 |a::l,s=>by rw[Z8 (b s a),ou b l];rfl
noncomputable def DK:Nat->AM.Spec
 | 0=>fun _ _ _=>none
 |n+1=>yz (zW prog [(24,zi false [] db),(40,V6 39 (DK n) zx)]) f39
theorem sN:∀n,zg prog 39 (DK n)
 | 0=>YM ⟨_,func39,by kernel_rfl,by kernel_rfl⟩
 |n+1=>kM (qx (q:=[]) (l:=[(24,zi false [] db),(40,V6 39 (DK n) zx)]) mixed ⟨YL,by simp,YN (sN n) zx,by simp,trivial⟩) func39
def P1(a b c:Nat):O:=.fn (.func 39) [] [.ref a 0 0,.ref b 0 0,.ref c 0 0]
structure R7 (l:List qd) (m bl bo bt:Nat) (n:Nat) (M:List Nat) (Y:Hp):Prop where
 set:Y m=some (fm M)
 segs:Y bl=some (dh l)
 out:Y bo=some ⟨53,1,false,[[.mp m]]⟩
 take:Y bt=some ⟨79,1,false,[[P1 bl bo bt]]⟩
 few:PY l.length M<n
theorem R7.qt{l:List qd}{m a c d n:Nat}{M:List Nat}{Y:Hp}(h:R7 l m a c d n M Y){j:Nat}(b:Option kn)(e:j≠m)(f:j≠a)(g:j≠c)(i:j≠d):R7 l m a c d n M (qt Y j b):=by obtain⟨k,o,p,q,r⟩:=h;exact⟨by rw[zm _ _ _ _ e.symm];exact k,by rw[zm _ _ _ _ f.symm];exact o,by rw[zm _ _ _ _ g.symm];exact p,by rw[zm _ _ _ _ i.symm];exact q,r⟩
theorem HO(l:List qd)(hl:Qb l<=zx)(hk:∀s∈l,∀n∈s.cond.names,yx l n=true)(m f k o:Nat)(hd:m≠f/\m≠k/\m≠o):∀(n:Nat) (M:List Nat) (c:za) (Y:Hp) (Z:Nat),yx l c=true->m<Z/\f<Z/\k<Z/\o<Z->R7 l m f k o n M Y ->
  ∃x Y' A,DK n [str c,.ref f 0 0,.ref k 0 0,.ref o 0 0] Y Z=some (x,Y',A)/\jc (·=m) (R7 l m f k o n) (q8 true) (Vs (wb l) n M (wS l c)) Y Z x Y' A
 | 0,_,_,_,_,_,_,h=>absurd h.few (by omega)
 |n+1,M,c,Y0,r,B,hn,t=>by
  have hr:=t;obtain⟨C,D,F,G,r5⟩:=hr;have d:=ZU B;obtain⟨i,hi⟩:=jj (wS l c);have H:=fun Y Z=>YK l c Y Z (zE (xJ l) hl)
  have u:(Kf (l.map qd.name) c).2=true:=B;have v:(Kf (l.map qd.name) c).1=i:=hi;rw[u,v]at H;rw[hi]at d⊢;have w:=zct i C;have hll:=xJ l;have Ea:=xI (zk d);have hmc:l[i].cb=1+l[i].name.length+Qh l[i].ins+Qh l[i].outs+l[i].cond.cb:=rfl;unfold zx at hl;simp[dh]at D;simp only[P1]at G;unfold DK yz;rw[zf (by simp[f39])];refine qz rfl ?_;by_cases e:i∈M
  ·have I:Vs (wb l) (n+1) M i=M:=by unfold Vs;rw[zf e]
   rw[I];simp[H,C,D,F,w,e,jc,f39];exact t
  ·have I:Vs (wb l) (n+1) M i=(wb l i).foldl (Vs (wb l) n) (M++[i]):=by conv=>lhs;unfold Vs;rw[zc e]
   have J:=zfs i C e;have hlt:=PZ (N:=l.length) d e;have q:wb l i=l[i].cond.names.map (wS l):=by unfold wb;rw[zj d]
   obtain⟨K,L,P⟩:=hd;have R:R7 l m f k o n (M++[i]) (qt Y0 m (some (fm (M++[i])))):=⟨by simp,by rw[zm _ _ _ _ K.symm];simp[dh,D],by rw[zm _ _ _ _ L.symm];exact F,by rw[zm _ _ _ _ P.symm];exact G,by omega⟩;obtain⟨x,Y2,iS,y,rfl,p,S,W⟩:=V7 (U:=List Nat) (T:=(·=m)) (Rep:=R7 l m f k o n) (step:=fun M c=>(false,Vs (wb l) n M (wS l c))) (Q:=fun c=>yx l c=true) (g:=39) (sp:=DK n) (cap:=[.ref f 0 0,.ref k 0 0,.ref o 0 0]) (Z0:=r)
    (by decide) (fun j E=>by rw[E];exact hn.1) (fun s Y j b E h=>h.qt b (by omega) (by omega) (by omega) (by omega))
    (fun M c Y Z B US hnx hR=>by obtain⟨x,Y',A,y,rfl,p,S,W⟩:=HO l (by unfold zx;omega) hk m f k o ⟨K,L,P⟩ n M c Y Z B (by omega) hR;exact⟨_,Y',A,y,rfl,p,S,W⟩)
    zx l[i].cond (M++[i]) _ r (by unfold zx;omega) (by unfold zx;omega) (fun a ha=>hk _ (zk d) a ha) (ze _) R
   rw[ou (fun _ _=>rfl)]at y p;have X:(l[i].cond.names.foldl (fun M c=>Vs (wb l) n M (wS l c)) (M++[i]))=(wb l i).foldl (Vs (wb l) n) (M++[i]):=by rw[q,List.foldl_map]
   simp only[X]at y p;rw[I];have q5:=p.few;simp[H,C,D,F,G,w,e,J,K.symm,L.symm,P.symm,d,jc,y,f39];exact⟨⟨p.set,p.segs,p.out,p.take,by omega⟩,S,fun j E z=>by rw[W j E z,zm _ _ _ _ z]⟩
noncomputable abbrev Cnmd:Ctx:=zW prog [(40,V6 39 (DK 268435457) zx)]
noncomputable def Mn:AM.Spec:=yz Cnmd f17
theorem Mo:zg prog 17 (hFz Mn):=
 Mm (kM (qc mixed ⟨YN (sN 268435457) zx,trivial⟩:AM.Good Cnmd _) func17)
theorem UA(l:List qd)(c:zG)(L:Qb l<=zx)(N:c.cb<=zx)(P:∀s∈l,∀n∈s.cond.names,yx l n=true)(R:∀n∈c.names,yx l n=true)(f:Hp)(a:Nat) :
  ∃id Y' d,Mn [.sl 10 (l.map qd.V),.sl 7 [c.V]] f a=some (.mp id,Y',d)/\a<=id/\id<d/\Y' id=some (fm (fl l c.names))/\∀j,j<a->Y' j=f j:=by
 have S:=xJ l;unfold zx at L N;have z:PY l.length []<268435457:=by have:PY l.length []<=(List.range l.length).length:=List.countP_le_length;rw[List.length_range]at this;omega
 suffices W:∃x Y' d,Mn [.sl 10 (l.map qd.V),.sl 7 [c.V]] f a=some (x,Y',d)/\∃id,x=.mp id/\a<=id/\id<d/\Y' id=some (fm (fl l c.names))/\∀j,j<a->Y' j=f j by obtain⟨x,Y',d,X,id,rfl,h2⟩:=W;exact⟨id,Y',d,X,h2⟩
 unfold Mn yz;rw[zf (by simp[f17])];refine qz rfl ?_;have i:∀Y,Y=qt (qt (qt (qt f a (some (dh l))) (a+1) (some ⟨53,0,false,[]⟩)) (a+2) (some ⟨53,1,false,[[.mp (a+1)]]⟩)) (a+3) (some ⟨79,1,false,[[P1 a (a+2) (a+3)]]⟩)->R7 l (a+1) a (a+2) (a+3) 268435457 [] Y/\∀j,j<a->Y j=f j:=fun Y e=>by
  subst e;refine⟨⟨?_,?_,?_,by simp,z⟩,fun j y=>?_⟩
  ·rw[zm _ _ _ _ (by omega),zm _ _ _ _ (by omega)];simp[fm,JE]
  ·rw[zm _ _ _ _ (by omega),zm _ _ _ _ (by omega),zm _ _ _ _ (by omega)];simp
  ·rw[zm _ _ _ _ (by omega)];simp
  ·rw[zm _ _ _ _ (by omega),zm _ _ _ _ (by omega),zm _ _ _ _ (by omega),zm _ _ _ _ (by omega)]
 simp only[dh,P1]at i;simp;obtain⟨q,r⟩:=i _ rfl;refine zT (fun k U Y Z=>U 5=.ref (a+2) 0 0/\U 6=.ref (a+3) 0 0/\U 11=.sl 7 [c.V]/\U 12=int 1/\U 13=int k/\a+4<=Z/\(∀j,j<a->Y j=f j)/\R7 l (a+1) a (a+2) (a+3) 268435457 (if k=0 then[]else fl l c.names) Y) 1 ⟨by simp,by simp,by simp,by simp,by simp,by simp,by simpa using r,by simpa using q⟩ ?_;clear i q r;rintro k U Y Z hk1 ⟨G,H,t,u,v,A,I,o⟩;by_cases B:k=0
 ·subst B;rw[zf rfl]at o;have C:=o.qt (j:=Z) (some ⟨26,7,false,[c.V]⟩) (by omega) (by omega) (by omega) (by omega);obtain⟨x,Y2,iS,p,rfl,w,J,D⟩:=V7 (U:=List Nat) (T:=(·=a+1)) (Rep:=R7 l (a+1) a (a+2) (a+3) 268435457) (step:=fun M m=>(false,Vs (wb l) 268435457 M (wS l m))) (Q:=fun m=>yx l m=true) (g:=39) (sp:=DK 268435457) (cap:=[.ref a 0 0,.ref (a+2) 0 0,.ref (a+3) 0 0]) (Z0:=a+4)
   (by decide) (fun j y=>by omega) (fun s Y j b y h=>h.qt b (by omega) (by omega) (by omega) (by omega))
   (fun M m Y Z hq US A hR=>by obtain⟨x,Y',d,p,rfl,w,J,D⟩:=HO l (by unfold zx;omega) P (a+1) a (a+2) (a+3) ⟨by omega,by omega,by omega⟩ 268435457 M m Y Z hq (by omega) hR;exact⟨_,Y',d,p,rfl,w,J,D⟩)
   zx c [] _ (Z+1) (by unfold zx;omega) (by unfold zx;omega) R (by omega) C
  rw[ou (fun _ _=>rfl)]at p w;have E:c.names.foldl (fun M m=>Vs (wb l) 268435457 M (wS l m)) []=fl l c.names:=by unfold fl;rw[List.foldl_map]
  simp only[E]at p w;have K:=o.take;simp only[P1]at K;have F:¬a+3=Z:=by omega
  simp[zI]at p;simp[G,H,t,u,v,K,F,zI,p];exact⟨by omega,fun j y=>by rw[D j (by omega) (by omega),zm _ _ _ _ (by omega)];exact I j y,w⟩
 ·obtain rfl:k=1:=by omega
  rw[zc (by omega)]at o;have ho:=o.out;simp[G,H,t,u,v,ho,f17];exact⟨by omega,o.set,I⟩
end Go.Q
namespace Go.Q
open Go.RowKit Go.AM Go.LikeLaw
end Go.Q
namespace Go.Q
inductive za8:zG->Prop
 |mk {k o:Int} {a p n:List UInt8} {v:List zZ} {l:List zG}:(k=4->1<=o/\o<=12/\UpV v)->(∀x∈l,za8 x)->za8 (.mk k a o v p n l)
structure zhy (l:List qd) (x:yu):Prop where
 ok:Qa l
 len:Qb l<=zx
 cb:x.cb+2<=zx
 right:x.fault=0
noncomputable def FSs2:zb->Option O:=qu (α:=List qd) (fun l=>[.sl 10 (l.map qd.V)]) (fun l=>2*Qb l<=zx) fun l=>int (jV l)
theorem Mp(l:List qd)(Y:Hp)(Z:Nat)(h:2*Qb l<=zx):zi false [] FSs2 [.sl 10 (l.map qd.V)] Y Z=some (int (jV l),Y,Z):=
 Js l _ _ (by simp) (fun a b e=>by simp only[zl,zM]at e;exact Za e) h (.inl rfl)
noncomputable def QC:List zG->Int
 |[]=>0
 |c::l=>if c.check=0 then QC l else c.check
theorem ov{l:List zG}{k:Nat}(h:k<l.length):QC (l.drop k)=if l[k].check=0 then QC (l.drop (k+1))else l[k].check:=by rw[zh h];rfl
noncomputable def Zc (l:List qd) (cs:List zG):Int:=if jV l=0 then(if QC cs=0 then Kb l cs else QC cs)else jV l
noncomputable def DL:zb->Option O:=qu (α:=List qd×List zG) (fun a=>[.sl 10 (a.1.map qd.V),.sl 7 (a.2.map zG.V)]) (fun a=>2*Qb a.1<=zx/\ay a.2<=zx) fun a=>int (Zc a.1 a.2)
theorem UB(l:List qd)(cs:List zG)(h:2*Qb l<=zx/\ay cs<=zx):DL [.sl 10 (l.map qd.V),.sl 7 (cs.map zG.V)]=some (int (Zc l cs)):=
 qG (V:=fun a:List qd×List zG=>[O.sl 10 (a.1.map qd.V),.sl 7 (a.2.map zG.V)]) (a:=(l,cs)) (fun a b e=>by obtain⟨f,g⟩:=a;obtain⟨i,j⟩:=b;simp only[zl,zM]at e;obtain⟨d,c⟩:=e;injection c with _ c;rw[Za d,vw (fun _ _=>ka) c]) h
theorem dC(l:List qd)(c:zG)(Y:Hp)(Z:Nat)(a:2*Qb l<=zx)(b:c.cb<=zx):zi false [] DL [.sl 10 (l.map qd.V),.own Z 0 1] (qt Y Z (some ⟨26,7,true,[c.V]⟩)) (Z+1)=some (int (Zc l [c]),qt Y Z (some ⟨26,7,true,[c.V]⟩),Z+1):=
 yk (Y1:=qt (qt Y Z (some ⟨26,7,true,[c.V]⟩)) Z none) (show zw (qt Y Z (some ⟨26,7,true,[c.V]⟩)) [.sl 10 (l.map qd.V),.own Z 0 1]=some ([.sl 10 (l.map qd.V),.sl 7 ([c].map zG.V)],_) by simp) (UB l [c] ⟨a,by simpa[ay]using b⟩) (.inl rfl)
noncomputable abbrev zaQ:Ctx:=zW prog [(31,zi false [] FSs2),(15,GC fun c=>int c.check),(32,zi false [] (FSC fun l cs=>int (Kb l cs)))]
theorem ow(l:List qd)(cs:List zG)(h:2*Qb l<=zx)(v:ay cs<=zx):zt zaQ f13 [.sl 10 (l.map qd.V),.sl 7 (cs.map zG.V)]=some (int (Zc l cs)):=by
 have t:=xJ l;have w:=ju cs;have u:zx=268435456:=rfl;refine zn rfl ?_;have m:=fun Y Z=>Mp l Y Z h
 by_cases j:jV l=0
 case neg=>
  have n:=ZX j;have o:Zc l cs=jV l:=by unfold Zc;rw[zc j]
  simp[m,n,o,wc,f13]
 rw[j]at m;have o:Zc l cs=if QC cs=0 then Kb l cs else QC cs:=by unfold Zc;rw[zf j]
 rw[o];simp[m];refine zT (fun k U Y Z=>U 0=.sl 10 (l.map qd.V)/\U 1=.sl 7 (cs.map zG.V)/\U 14=.sl 7 (cs.map zG.V)/\U 15=int cs.length/\U 16=int k/\QC cs=QC (cs.drop k)) cs.length
  ⟨by simp,by simp,by simp,by simp,by simp,by simp⟩ ?_
 rintro k U Y Z A ⟨p,q,e,f,g,a⟩;by_cases b:k<cs.length
 ·have x:=qH k;obtain⟨c,d⟩:=jj (cs[k]);have B:=kg (show c∈cs by rw[<-d];exact zk b);have r:=fun Y Z=>xc (fun c=>int c.check) c Y Z (by omega)
  rw[ov b,d]at a;by_cases i:c.check=0
  ·rw[zf i]at a;rw[i]at r;simp[p,q,e,f,g,b,d,r,x];exact⟨by omega,a⟩
  ·rw[zc i]at a;have s:=ZX i;have y:¬QC cs=0:=by rw[a];exact i
   simp[p,q,e,f,g,b,d,r,s,a,i,wc,f13]
 ·obtain rfl:k=cs.length:=by omega
  rw[zq]at a;have a:QC cs=0:=a;have z:∀Y Z,zi false [] (FSC fun l cs=>int (Kb l cs)) [.sl 10 (l.map qd.V),.sl 7 (cs.map zG.V)] Y Z=some (int (Kb l cs),Y,Z):=fun Y Z=>yk (Y1:=Y) (show zw Y [.sl 10 (l.map qd.V),.sl 7 (cs.map zG.V)]=some ([.sl 10 (l.map qd.V),.sl 7 (cs.map zG.V)],Y) by simp) (PN (fun l cs=>int (Kb l cs)) l cs ⟨by omega,v⟩) (.inl rfl)
  simp[p,q,e,f,g,a,z,wc,f13]
theorem ik:zg prog 13 (zi false [] DL):=
 Z2 (C:=zaQ) (qc mixed ⟨Xv,JD,Jm,trivial⟩) func13 false [] fun⟨l,cs⟩ ⟨a,b⟩=>⟨by simp[f13],_,ow l cs a b,qq _⟩
noncomputable def Av (l:List qd) (c:zG) (x:yu):Bool×Int:=if Zc l [c]=0 then(if x.fault=0 then(hF l x c,0)else(false,x.fault))else(false,Zc l [c])
noncomputable def pR (l:List qd) (c:zG) (x:yu):O:=.wq [q8 (Av l c x).1,int (Av l c x).2]
noncomputable def UC:zb->Option O:=qu (α:=List qd×zG×yu) (fun a=>[.sl 10 (a.1.map qd.V),.agg a.2.1.V,.agg a.2.2.V]) (fun a=>2*Qb a.1<=zx/\a.2.1.cb<=zx/\a.2.2.cb+2<=zx) fun a=>pR a.1 a.2.1 a.2.2
theorem Mq(l:List qd)(c:zG)(x:yu)(Y:Hp)(Z:Nat)(d:2*Qb l<=zx)(f:c.cb<=zx)(g:x.cb+2<=zx):zi false [] UC [.sl 10 (l.map qd.V),.agg c.V,.agg x.V] Y Z=some (pR l c x,Y,Z):=
 Js (l,c,x) _ _ (by simp[yu.V,zI]) (fun a b e=>by obtain⟨h,i,j⟩:=a;obtain⟨k,m,n⟩:=b;simp only[zl,zM,O.agg.injEq]at e;rw[Za e.1,ka e.2.1,mL e.2.2]) ⟨d,f,g⟩ (.inl rfl)
theorem ox{l:List qd}{c:zG}(h:Zc l [c]=0):Qa l/\c.check=0/\∀n∈c.names,yx l n=true:=by
 unfold Zc at h;split at h
 case isFalse b=>exact absurd h b
 rename_i g;have a:=Hg g;split at h
 case isFalse b=>exact absurd h b
 rename_i d;have e:c.check=0:=by
  simp only[QC]at d;split at d
  ·assumption
  ·exact d
 refine⟨a,e,fun n i=>?_⟩;unfold Kb at h;split at h
 ·rename_i f;simp only[q9,Zn,zhs]at f;unfold oe at f;have:=zL.1 f n i;rcases Yh a.up n with⟨j,_⟩|⟨_,k⟩
  ·exact j
  ·rw[k]at this;cases this
 ·omega
end Go.Q
namespace Go.AM
variable{dr:Prop}
end Go.AM
namespace Go.Q
theorem P2{l:List qd}(d:dK (l.map qd.name))(c:zG):Qz l c=oe l c.names:=by
 unfold Qz oe;congr 1;funext n;rcases Yh d n with⟨a,e,b,_⟩|⟨a,b⟩
 ·rw[a,b];rfl
 ·rw[a,b];rfl
noncomputable abbrev Cxcs:Ctx:=zW prog [(22,zi false [] (FSs fun l=>int (jV l))),(11,GC fun c=>int c.check),(23,zi false [] FKn)]
theorem DM(l:List qd)(cs:List zG)(h:2*Qb l<=zx)(B:ay cs<=zx):zt Cxcs Tryz.f9 [.sl 10 (l.map qd.V),.sl 7 (cs.map zG.V)]=some (int (Zc l cs)):=by
 have v:=xJ l;have y:=ju cs;have w:zx=268435456:=rfl;refine zn rfl ?_;have q:=fun Y Z=>OW (fun l=>int (jV l)) l Y Z (by omega) rfl
 by_cases o:jV l=0
 case neg=>
  have r:=ZX o;have n:Zc l cs=jV l:=by unfold Zc;rw[zc o]
  simp[q,r,n,wc,Tryz.f9]
 have s:=Hg o;rw[o]at q;have n:Zc l cs=if QC cs=0 then Kb l cs else QC cs:=by unfold Zc;rw[zf o]
 rw[n];simp[q];refine zT (fun k U Y Z=>U 0=.sl 10 (l.map qd.V)/\U 1=.sl 7 (cs.map zG.V)/\U 16=.sl 7 (cs.map zG.V)/\U 17=int cs.length/\U 18=int k/\QC cs=QC (cs.drop k)) cs.length
  ⟨by simp,by simp,by simp,by simp,by simp,by simp⟩ ?_
 rintro k U Y Z x ⟨i,p,d,e,f,g⟩;by_cases a:k<cs.length
 ·have t:=qH k;obtain⟨c,b⟩:=jj (cs[k]);have z:=kg (show c∈cs by rw[<-b];exact zk a);have j:=fun Y Z=>xc (fun c=>int c.check) c Y Z (by omega)
  rw[ov a,b]at g;by_cases m:c.check=0
  ·rw[zf m]at g;rw[m]at j;simp[i,p,d,e,f,a,b,j,t];exact⟨by omega,g⟩
  ·rw[zc m]at g;have u:=ZX m;simp[i,p,d,e,f,a,b,j,u,g,m,wc,Tryz.f9]
 obtain rfl:k=cs.length:=by omega
 rw[zq]at g;have A:QC cs=0:=g;simp[i,p,d,e,f,A];clear x a d e f g;refine zT (fun k U Y Z=>U 0=.sl 10 (l.map qd.V)/\U 28=.sl 7 (cs.map zG.V)/\U 29=int cs.length/\U 30=int k/\(cs.all fun c=>oe l c.names)=(cs.drop k).all fun c=>oe l c.names) cs.length
  ⟨by simp[i],by simp,by simp,by simp,by simp⟩ ?_
 clear i p U Y Z;rintro k U Y Z x ⟨i,d,e,f,g⟩;by_cases a:k<cs.length
 ·have t:=qH k;obtain⟨c,b⟩:=jj (cs[k]);have z:=kg (show c∈cs by rw[<-b];exact zk a);have j:=fun Y Z=>CH l c Y Z (by omega) (by omega)
  rw[fj a,b]at g;rw[P2 s.up]at j;cases m:oe l c.names
  ·rw[m]at j g;have n:Kb l cs=9:=by unfold Kb;rw[g];rfl
   simp[i,d,e,f,a,b,j,n,wc,Tryz.f9]
  ·rw[m]at j g;simp[i,d,e,f,a,b,j,t];exact⟨by omega,by simpa using g⟩
 ·obtain rfl:k=cs.length:=by omega
  rw[zq]at g;have n:Kb l cs=0:=by unfold Kb;rw[g];rfl
  simp[i,d,e,f,n,wc,Tryz.f9]
theorem KX:zg prog 9 (zi false [] DL):=
 Z2 (C:=Cxcs) (qc mixed ⟨ag,KJ,fT,trivial⟩) func9 false [] fun⟨l,cs⟩ ⟨a,b⟩=>⟨by simp[Tryz.f9],_,DM l cs a b,qq _⟩
noncomputable abbrev Chls:Ctx:=zW prog [(9,zi false [] DL),(19,zi false [] (FX fun x=>int x.fault)),(20,TE),(21,Vm (CP 101) zx)]
theorem UD:Gd Chls:=qc mixed ⟨KX,mN,Lv,nm (Lx 101) zx,trivial⟩
theorem P3(l:List qd)(c:zG)(x:yu)(h:2*Qb l<=zx)(u:c.cb<=zx)(C:x.cb+2<=zx){code:Code}(f:Tryz.f8.body=some code) :
  Wp True Chls Tryz.f8.ntmps code ⟨jL [.sl 10 (l.map qd.V),.agg c.V,.agg x.V],fun _=>none,0⟩ (Yx Chls.P Tryz.f8 (Ja (pR l c x))):=by
 have D:zx=268435456:=rfl;have E:=xJ l;have g:=UD;have s:=fun Y Z=>dC l c Y Z h u
 have k:=fun Y Z=>Ti (fun x=>int x.fault) x Y Z (by omega)
 simp only[yu.V]at k;injection f with f
 subst f;unfold pR;refine Wp.cut g (fun U Y Z=>U 0=.sl 10 (l.map qd.V)/\U 4=.ref 0 0 0/\U 5=.ref 1 0 0/\Y=qt (qt (fun _=>none) 0 (some ⟨26,7,false,[c.V]⟩)) 1 (some ⟨29,2,false,[x.V]⟩)/\Z=2) (by kernel_rfl) (by simp[yu.V]) ?_;rintro U Y Z ⟨a,b,d,rfl,rfl⟩;by_cases i:Zc l [c]=0
 case neg=>
  have v:=ZX i;have o:Av l c x=(false,Zc l [c]):=by unfold Av;rw[zc i]
  rw[o];refine Wp.cut g (fun _ _ _=>False) (by kernel_rfl) ?_ fun _ _ _ h=>h.elim
  simp[a,b,d,zp,zy,zo,s,v,Ja,Tryz.f8];exact qq _
 rw[i]at s;refine Wp.cut g (fun U Y Z=>U 0=.sl 10 (l.map qd.V)/\U 4=.ref 0 0 0/\U 5=.ref 1 0 0/\Y=qt (qt (qt (fun _=>none) 0 (some ⟨26,7,false,[c.V]⟩)) 1 (some ⟨29,2,false,[x.V]⟩)) 2 (some ⟨26,7,true,[c.V]⟩)/\Z=3) (by kernel_rfl) (by simp[a,b,d,zp,zy,zo,s,yu.V]) ?_;clear a b d s U;rintro U Y Z ⟨a,b,d,rfl,rfl⟩;by_cases t:x.fault=0
 case neg=>
  have w:=ZX t;have o:Av l c x=(false,x.fault):=by unfold Av;rw[zf i,zc t]
  rw[o];refine Wp.cut g (fun _ _ _=>False) (by kernel_rfl) ?_ fun _ _ _ h=>h.elim
  simp[a,b,d,yu.V,k,w,Ja,Tryz.f8];exact qq _
 rw[t]at k;obtain⟨q,y,z⟩:=ox i;have o:Av l c x=(hF l x c,0):=by unfold Av;rw[zf i,zf t]
 rw[o];obtain⟨H,A⟩:∃H:Hp,H=qt (qt (qt (fun _=>none) 0 (some ⟨26,7,false,[c.V]⟩)) 1 (some ⟨29,2,false,[x.V]⟩)) 2 (some ⟨26,7,true,[c.V]⟩):=⟨_,rfl⟩;rw[<-A];have K:H 0=some ⟨26,7,false,[c.V]⟩:=by rw[A];simp
 have B:H 1=some ⟨29,2,false,[x.V]⟩:=by rw[A];simp
 refine Wp.cut g (fun U Y Z=>U 0=.sl 10 (l.map qd.V)/\U 4=.ref 0 0 0/\U 5=.ref 1 0 0/\Y=H/\Z=3) (by kernel_rfl) (by simp[a,b,d,B,k,yu.V]) ?_;clear a b d k U;rintro U Y Z ⟨a,b,d,rfl,rfl⟩;have e:=TF l x Y 3;obtain⟨r,Y',Q,F,rfl,_,_,R⟩:=Xa (mem:=CP 101) (l:=l) (x:=x) (ida:=5) (m:=4) (Z0:=6) (I:=fun j=>j<l.length/\Co l j<101) (by omega) (by omega) (by omega) (by omega) C (fun j Y Z G z L=>Hr (by omega) (by omega) (by omega) q (by omega) C 101 j Y Z G.1 G.2 z L) zx c
  (qt (qt (qt Y 3 (some ⟨29,2,false,[x.V]⟩)) (3+1) (some (nj []))) (3+2) (some (CO l x (3+1)))) 6 u u (nh y) (fun n M=>⟨ZU (z n M),by have:=KL q (wS l n);omega⟩) (ze _) ⟨by simp,[],by simp,fun p Y=>by cases Y⟩
 simp only[yu.V]at e F B;refine Wp.seq (Wp.sU mixed ?_);rw[show We _ _ _=[[0,1,2,3,4,5,6],[0,1,3,2,4,5,6],[0,3,1,2,4,5,6],[1,0,2,3,4,5,6],[1,0,3,2,4,5,6],[1,3,0,2,4,5,6],[3,0,1,2,4,5,6],[3,1,0,2,4,5,6]]from by kernel_rfl];intro N J;simp only[zv,ir,or_false]at J;rcases J with rfl|rfl|rfl|rfl|rfl|rfl|rfl|rfl
 all_goals
  refine vp.ord g _ (by kernel_rfl) (by decide) ?_;simp[a,b,d,K,B,e,F,yu.V];refine Wp.of g (by kernel_rfl) ?_;simp[Ja,Tryz.f8];exact qq _
theorem DN:zg prog 8 (zi false [] UC):=
 KQ (C:=Chls) (pf:=fun _=>true) (fn:=Tryz.f8) (code:=_) ⟨func8,by kernel_rfl,rfl,by kernel_rfl⟩ false [] _ fun args r h=>by obtain⟨⟨l,c,x⟩,rfl,⟨a,b,d⟩,rfl⟩:=zK h;exact⟨by simp[Tryz.f8],P3 l c x a b d rfl⟩
noncomputable def HP (l:List qd) (c:zG):zG×Int:=if Zc l [c]=0 then(if(yZ l c).check=0 then(yZ l c,0)else(.mk 0 [] 0 [] [] [] [],2))else(.mk 0 [] 0 [] [] [] [],Zc l [c])
noncomputable def oM (l:List qd) (c:zG):O:=.wq [.agg (HP l c).1.V,int (HP l c).2]
noncomputable def FEx:zb->Option O:=qu (α:=List qd×zG) (fun a=>[.sl 10 (a.1.map qd.V),.agg a.2.V]) (fun a=>Qb a.1+a.2.cb<=1048576) fun a=>oM a.1 a.2
theorem P4(l:List qd)(c:zG)(Y:Hp)(Z:Nat)(h:Qb l+c.cb<=1048576):zi false [] FEx [.sl 10 (l.map qd.V),.agg c.V] Y Z=some (oM l c,Y,Z):=
 Js (l,c) _ _ (by simp[zI]) (fun a b e=>by obtain⟨d,f⟩:=a;obtain⟨g,i⟩:=b;simp only[zl,zM,O.agg.injEq]at e;rw[Za e.1,ka e.2]) h (.inr (by simp[O.noOwn,zI]))
theorem DO{c:zG}(h:c.check=0):c.parts<=200:=by
 unfold zG.check at h;split at h
 ·cases h
 ·rename_i a;simp at a;omega
theorem Gp{l:List qd}{c:zG}(h:Qb l+c.cb<=1048576)(Y:(yZ l c).parts<=200):(yZ l c).cb<=209716000:=by have a:=TJ l c;have b:(Qb l+c.cb+4)*(yZ l c).parts<=1048580*200:=Nat.mul_le_mul (by omega) Y;omega
theorem zcu{l:List qd}{c:zG}(h:Qb l+c.cb<=1048576):(HP l c).1.cb<=209716000:=by
 unfold HP;split
 ·split
  ·rename_i a;exact Gp h (DO a)
  ·simp[xG,zG.attr,zG.qZ,zG.pat,zG.name,zG.args,JI,ay]
 ·simp[xG,zG.attr,zG.qZ,zG.pat,zG.name,zG.args,JI,ay]
noncomputable abbrev Cpe:Ctx:=zW prog [(9,zi false [] DL),(11,GC fun c=>int c.check),(12,GC fun c=>.agg c.V)]
theorem zcv:AM.Good Cpe (fun g=>[11].contains g):=qx mixed ⟨KX,by simp,KJ,fun _=>zr _ _,uE zx,by simp,trivial⟩
theorem Zd{a:zb}{c:zG}{n:Int}(h:qg (.agg a) (.agg c.V)):qg (.wq [.agg a,int n]) (.wq [.agg c.V,int n]):=qP.wq (.cons h (.cons (.refl _) .nil))
theorem Mr(l:List qd)(c:zG)(h:Qb l+c.cb<=1048576){code:Code}(b:Tryz.f4.body=some code) :
  Wp True Cpe Tryz.f4.ntmps code ⟨jL [.sl 10 (l.map qd.V),.agg c.V],fun _=>none,0⟩ (Yx Cpe.P Tryz.f4 (Nx (oM l c))):=by
 have d:=zcv;have I:zx=268435456:=rfl;injection b with b
 subst b;have m:=fun Y Z=>dC l c Y Z (by omega) (by omega)
 have n:[O.v (.int .i64 c.kind),O.v (.string ⟨c.attr.toArray⟩)]=[int c.kind,str c.attr]:=rfl;refine Wp.cut d (fun U Y Z=>U 0=.sl 10 (l.map qd.V)/\U 3=.ref 0 0 0/\U 4=.ref 1 0 0/\U 5=int 0/\Y 0=some ⟨26,7,false,[c.V]⟩/\Y 1=some ⟨26,7,false,[yG]⟩/\Z=2) (by kernel_rfl) (by simp) ?_;rintro U Y Z ⟨o,q,s,N,i,t,rfl⟩;by_cases e:Zc l [c]=0
 case neg=>
  have B:=ZX e;have f:oM l c=.wq [.agg (zG.mk 0 [] 0 [] [] [] []).V,int (Zc l [c])]:=by unfold oM HP;rw[zc e]
  refine Wp.cut d (fun _ _ _=>False) (by kernel_rfl) ?_ (fun _ _ _ h=>h.elim);rw[zI c]at i;simp only[zI c]at m;simp[o,q,s,i,t,zp,zy,zo,m,B,zS,qn,Tryz.f4];rw[f];exact⟨.wq [.agg yG,int (Zc l [c])],by simp,Zd kJ⟩
 obtain⟨C,Q,R⟩:=ox e;rw[e]at m;refine Wp.cut d (fun U Y Z=>U 0=.sl 10 (l.map qd.V)/\U 3=.ref 0 0 0/\U 4=.ref 1 0 0/\Y 0=some ⟨26,7,false,[c.V]⟩/\Y 1=some ⟨26,7,false,[yG]⟩/\2<=Z) (by kernel_rfl) ?_ ?_
 ·have u:=i;rw[zI c]at u;simp only[zI c]at m;simp[o,q,s,u,t,zp,zy,zo,m,zI c]
 clear o q s N i t U Y;rintro U Y Z ⟨o,q,s,i,t,S⟩;refine Wp.cut d (fun g Y' T=>g 3=.ref 0 0 0/\g 4=.ref 1 0 0/\g 7=.ref (Z+1) 0 0/\Y' 0=Y 0/\Y' 1=Y 1/\GD l (Z+1) Z false Y'/\T=Z+2) (by kernel_rfl) ?_ ?_
 ·simp[o,q,s,zS,qn];exact⟨by rw[zm _ _ _ _ (by omega)],by rw[zm _ _ _ _ (by omega),zm _ _ _ _ (by omega)],by simp[hV],[],by rw[zm _ _ _ _ (by omega)];simp[aV,pz],fun _ p Y=>by cases Y⟩
 rintro W Y1 _ ⟨X,D,y,J,K,hE,rfl⟩;rw[i]at J;rw[t]at K;refine Wp.seq (Wp.region ?_);show vp True Cpe _ _ (List.range' 0 2++(2::(List.range' 3 2++[]))) _ _;refine vp.Wj d 0 2 (by decide) (by decide) ?_;have w:=J;rw[zI c]at w;simp[X,y,w];refine vp.RI rfl (fun x hx=>by cases hx;decide) ⟨_,func10,by kernel_rfl,by kernel_rfl⟩ (vs:=[.ref (Z+1) 0 0,.agg c.V]) (by simp[wU,AM.get,zI c]) (O8 C (by omega) (by omega) (by omega) R false Y1 (Z+2) (by omega) (by omega) hE) ?_;rintro x Y2 iS ⟨r,f',rfl,q1,j,q3,q4,q5⟩;refine vp.Wj (l2:=[]) d 3 2 (by decide) (by decide) ?_;simp[put];refine vp.nil ?_;simp only[lJ,Ji];have z:=q5 1 (by omega) (by omega) (by omega);rw[K]at z;obtain⟨k,M,x2,x3⟩:=q1;simp only[hV]at k;have n1:¬Z+1=iS:=by omega
 have E:¬1=iS:=by omega
 refine Wp.of d (by kernel_rfl) ?_;cases a:f' with
 |true=>
  rw[a,kK]at j;have L:200<(yZ l c).parts:=by unfold JC at j;simpa using j.symm
  have n:(yZ l c).check=2:=by unfold zG.check;rw[zf];simp;omega
  have f:oM l c=.wq [.agg (zG.mk 0 [] 0 [] [] [] []).V,int 2]:=by unfold oM HP;rw[zf e,zc (by rw[n];decide)]
  rw[a]at k;simp[D,y,k,n1,E,z,zS,qn,Tryz.f4];rw[f];exact⟨.wq [.agg yG,int 2],by simp,Zd kJ⟩
 |false=>
  rw[a,kK]at j;have F:(yZ l c).parts<=200:=by unfold JC at j;simpa using j.symm
  have hr:=q3 a;subst hr;rw[a]at k;have hxb:=Gp h F;have G:=fun Y Z=>xc (fun c=>int c.check) (yZ l c) Y Z (by omega)
  have gx:=fun Y Z=>xc (fun c=>.agg c.V) (yZ l c) Y Z (by omega)
  by_cases A:(yZ l c).check=0
  ·have f:oM l c=.wq [.agg (yZ l c).V,int 0]:=by unfold oM HP;rw[zf e,zf A]
   rw[A]at G;simp[D,y,k,n1,E,z,G,gx,Tryz.f4];rw[f];exact⟨.wq [.agg (yZ l c).V,int 0],by simp,.refl _⟩
  ·have H:=ZX A;have f:oM l c=.wq [.agg (zG.mk 0 [] 0 [] [] [] []).V,int 2]:=by unfold oM HP;rw[zf e,zc A]
   simp[D,y,k,n1,E,z,G,H,zS,qn,Tryz.f4];rw[f];exact⟨.wq [.agg yG,int 2],by simp,Zd kJ⟩
theorem Aw:zg prog 4 (zi false [] FEx):=
 px (C:=Cpe) (pf:=fun _=>true) (code:=_) ⟨func4,by kernel_rfl,rfl,by kernel_rfl⟩ false [] _ fun args r h=>by obtain⟨⟨l,c⟩,rfl,a,rfl⟩:=zK h;exact⟨by simp[Tryz.f4],Mr l c a rfl⟩
noncomputable abbrev Crex:Ctx:=zW prog [(13,zi false [] DL),(14,zi false [] (FXe 107000000)),(15,GC fun c=>int c.check)]
theorem UE:AM.Good Crex (fun g=>[15].contains g):=qx mixed ⟨ik,by simp,a8 107000000,by simp,JD,fun _=>zr _ _,trivial⟩
theorem Ax(l:List qd)(c:zG)(h:Qb l+c.cb<=1048576):∃x,zt Crex Tryz.f5 [.sl 10 (l.map qd.V),.agg c.V]=some x/\qg x (oM l c):=by
 have y:zx=268435456:=rfl;have b:=fun Y Z=>dC l c Y Z (by omega) (by omega)
 refine wW rfl ?_;by_cases d:Zc l [c]=0
 case neg=>
  have o:=ZX d;have e:oM l c=.wq [.agg (zG.mk 0 [] 0 [] [] [] []).V,int (Zc l [c])]:=by unfold oM HP;rw[zc d]
  simp only[zI c]at b;simp[zI c,zp,zy,zo,b,o,zS,qn,Tryz.f5];rw[e];exact⟨.wq [.agg yG,int (Zc l [c])],by simp,Zd kJ⟩
 obtain⟨f,A,z⟩:=ox d;rw[d]at b;have p:Mk 107000000 l c:=⟨f,by omega,by omega,101,fun n r=>⟨z n r,by have:=KL f (wS l n);omega⟩,by omega⟩;have g:=fun Y Z=>oo p Y Z
 have a:=C4 f c z;obtain⟨q,i,j⟩:∃q i,b9 l c=(q,i):=⟨_,_,rfl⟩;have a:bN (q,i) (yZ l c):=by rw[<-j];exact a
 rw[j]at g;simp[xeP,zI c,zI q]at g;simp only[zI c]at b;cases i with
 |false=>
  have D:=a.2 rfl;have s:(yZ l c).check=2:=by unfold zG.check;rw[zf];simp;omega
  have e:oM l c=.wq [.agg (zG.mk 0 [] 0 [] [] [] []).V,int 2]:=by unfold oM HP;rw[zf d,zc (by rw[s];decide)]
  simp[zI c,zp,zy,zo,b,g,zS,qn,Tryz.f5];rw[e];exact⟨.wq [.agg yG,int 2],by simp,Zd kJ⟩
 |true=>
  have t:q=yZ l c:=a.1 rfl;subst t;have u:(yZ l c).parts<=200:=by
   have:=Ar (sg:=fun n=>vW l 101 (wS l n)) (c:=c) (by show(b9 l c).2=true;rw[j]);have B:(c.xU fun n=>vW l 101 (wS l n)).1=yZ l c:=by show(b9 l c).1=_;rw[j]
   rw[B]at this;exact this
  have C:=Gp h u;have k:=fun Y Z=>xc (fun c=>int c.check) (yZ l c) Y Z (by omega)
  rw[zI (yZ l c)]at k;have v:qg (.agg [int (yZ l c).kind,str (yZ l c).attr,int (yZ l c).op,.sl 5 ((yZ l c).qZ.map zZ.V),str (yZ l c).pat,str (yZ l c).name,.sl 7 ((yZ l c).args.map zG.V)]) (.agg (yZ l c).V):=by rw[<-zI];exact .refl _
  by_cases m:(yZ l c).check=0
  ·have e:oM l c=.wq [.agg (yZ l c).V,int 0]:=by unfold oM HP;rw[zf d,zf m]
   rw[m]at k;simp[zI c,zp,zy,zo,b,g,k,Tryz.f5];rw[e];exact⟨.wq [.agg _,int 0],by simp,Zd v⟩
  ·have w:=ZX m;have e:oM l c=.wq [.agg (zG.mk 0 [] 0 [] [] [] []).V,int 2]:=by unfold oM HP;rw[zf d,zc m]
   simp[zI c,zp,zy,zo,b,g,k,w,zS,qn,Tryz.f5];rw[e];exact⟨.wq [.agg yG,int 2],by simp,Zd kJ⟩
theorem pS:zg prog 5 (zi false [] FEx):=
 xl (fn:=Tryz.f5) (C:=Crex) UE (qE func5) false [] _ fun args r h w S vs a=>by obtain⟨⟨l,c⟩,rfl,b,rfl⟩:=zK h;obtain⟨d,e,f⟩:=Ax l c b;exact⟨_,d,a,by simp[Tryz.f5],e,f⟩
mutual
def zG.zfT:zG->List zG
 | .mk k a o v p n l=>(if k=4 then[.mk k a o v p n l]else[])++RL l
def RL:List zG->List zG
 |[]=>[]
 |c::l=>c.zfT++RL l
end
theorem P5(l:List qd)(c:zG)(b:Qb l<=zx)(d:c.cb<=zx)(e:∀s∈l,∀n∈s.cond.names,yx l n=true)(f:∀n∈c.names,yx l n=true){y:O}{Y Y1:Hp}(Z:Nat)(g:zw Y [.sl 10 (l.map qd.V),y]=some ([.sl 10 (l.map qd.V),.sl 7 [c.V]],Y1)) :
  ∃id Y' a,hFz Mn [.sl 10 (l.map qd.V),y] Y Z=some (.mp id,Y',a)/\Z<=id/\id<a/\Y' id=some (fm (fl l c.names))/\∀j,j<Z->Y' j=Y1 j:=by
 obtain⟨id,Y',a,h,i⟩:=UA l c b d e f Y1 Z;exact⟨id,Y',a,by simp only[hFz,g,z8,h],i⟩
theorem unMI:prog.underlying 53=some (.map 3 4):=by kernel_rfl
theorem P6{M:List Nat}{c:zb}(h:c∈JE M):∃i∈M,c=[int i,q8 true]:=by obtain⟨i,a,rfl⟩:=qp.1 h;exact⟨i,a,rfl⟩
theorem P7(V:List Nat)(i:Nat):JE V++[[int i,q8 true]]=JE (V++[i]):=by simp[JE]
def decV:zb->Nat
 |[.v (.int _ z),_]=>z.toNat
 |_=>0
theorem Ms{M V:List Nat}(h:(JE M).Perm (JE V)):V.Perm M:=by
 have:=h.map decV;have e:∀M:List Nat,(JE M).map decV=M:=fun M=>by
  unfold JE;rw[UO]
  conv=>rhs;rw[<-List.map_id M]
  exact Vt fun i _=>by simp[decV]
 rw[e,e]at this;exact this.symm
theorem P8:∀(N:Nat) (M:List Nat),M.Nodup->(∀j∈M,j<N)->M.length<=N
 | 0,[],_,_=>ze _
 | 0,a::_,_,h=>absurd (h a (by simp)) (by omega)
 |N+1,M,b,c=>by
  have:=P8 N (M.erase N) (b.erase N) fun j d=>by have:=(b.mem_erase_iff).1 d;have:=c j this.2;omega
  have e:M.length<=(M.erase N).length+1:=by rw[List.length_erase];split<;>omega
  omega
theorem Gq{Y:Hp}{Z:Nat}{v:O}{K:List za}(d:qU Y Z 9 1 v (zH K))(e:K.length<4611686018427387904):∃Y',Xu Wz false [v] Y Z=some (.wq [],Y',Z)/\qU Y' Z 9 1 v (zH (Wz K)):=by
 rcases d with⟨rfl,f⟩|⟨id,hid,rfl,b⟩
 ·have hd:K=[]:=by simpa[zH]using f
  subst hd;exact⟨Y,rfl,.inl ⟨rfl,by simp[Wz,zH]⟩⟩
 ·have c:zH K=WR K:=rfl;rw[c]at b;have hs:=b6 Wz false (Z:=Z) b e;have a:(Wz K).length=K.length:=List.length_mergeSort _;refine⟨_,by rw[c,Xt];exact hs,.inr ⟨id,hid,?_,by simp;rfl⟩⟩;simp[wC,a]
theorem Mt{Y:Hp}{Z:Nat}{v:O}{K:List za}(i:qU Y Z 9 1 v (zH K))(s:za)(m:K.length<1000000000000):∃Y2,yI prog (qt Y Z (some ⟨9,1,true,[[str s]]⟩)) (Z+1) 34 34 v (.own Z 0 1)=some (.own (Z+1) 0 (K.length+1),Y2,Z+2)/\qU Y2 (Z+2) 9 1 (.own (Z+1) 0 (K.length+1)) (zH (K++[s]))/\∀j b,j<Z->Y j=some b->b.arr=false->Y2 j=some b:=by
 have d:=i.yS (P:=prog) (t:=34) (c:=[str s]) oT Ny RV RW rfl (by omega) (by simp[wC,maxLen];omega) (by simp[wC];omega);have f:=qU.after (Y:=Y) (Z:=Z) (e:=9) (s:=1) (v:=v) (xs:=zH K) (c:=[str s]) (tmp:=some ⟨9,1,true,[[str s]]⟩);have g:zH K++[[str s]]=zH (K++[s]):=by simp[zH]
 rw[wC]at d;refine⟨_,d,?_,fun j b n a k=>?_⟩
 ·rw[<-g];simpa[wC]using f
 ·rw[zm _ _ _ _ (by omega)];rcases i with⟨rfl,_⟩|⟨id,hid,rfl,l⟩
  ·simp only[QM];rw[zm _ _ _ _ (by omega)];exact a
  ·have h:j≠id:=by rintro rfl;rw[l]at a;injection a with a;subst a;cases k
   simp only[QM];rw[zm _ _ _ _ h,zm _ _ _ _ (by omega)];exact a
theorem Gr{l:List qd}(b:l.length<=100){ns:List za}(a:Vis (wb l) l.length [] (ns.map (wS l)) (fl l ns)){V:List Nat}(h:V.Perm (fl l ns)):V.length<=100:=by have:=P8 l.length (fl l ns) a.nd a.lt;rw[h.length_eq];omega
theorem zcw(l:List qd)(c:zG)(Y:Hp)(Z:Nat):zw (qt Y Z (some ⟨26,7,true,[c.V]⟩)) [.sl 10 (l.map qd.V),.own Z 0 1]=some ([.sl 10 (l.map qd.V),.sl 7 [c.V]],qt (qt Y Z (some ⟨26,7,true,[c.V]⟩)) Z none):=by simp
noncomputable def Gs (l:List qd) (c:zG) (ns:List za):O:=.wq [.sl 1 (zH (if Zc l [c]=0 then ns else[])),int (Zc l [c])]
noncomputable def FSgC (out:List qd->zG->O):zb->Option O:=qu (α:=List qd×zG) (fun a=>[.sl 10 (a.1.map qd.V),.agg a.2.V]) (fun a=>2*Qb a.1<=zx/\Qb a.1+a.2.cb<zx) fun a=>out a.1 a.2
theorem Mu(out:List qd->zG->O)(l:List qd)(c:zG)(Y:Hp)(Z:Nat)(h:2*Qb l<=zx)(d:Qb l+c.cb<zx):zi false [] (FSgC out) [.sl 10 (l.map qd.V),.agg c.V] Y Z=some (out l c,Y,Z):=
 Js (l,c) _ _ (by simp[zI]) (fun a b e=>by obtain⟨f,g⟩:=a;obtain⟨i,j⟩:=b;simp only[zl,zM,O.agg.injEq]at e;rw[Za e.1,ka e.2]) ⟨h,d⟩ (.inr (by simp[zI,O.noOwn]))
theorem UF(f:Int):VF (.wq [.nil,int f]) (.wq [.sl 1 (zH []),int f]):=by
 refine⟨rfl,fun j a b c d=>?_⟩
 match j,c,d with
 | 0,c,d=>simp at c d;subst c;subst d;exact .inr ⟨rfl,1,rfl⟩
 | 1,c,d=>simp at c d;subst c;subst d;exact .inl rfl
 |j+2,c,d=>simp at c
noncomputable abbrev CNm:Ctx:=zW prog [(9,zi false [] DL),(17,hFz Mn),(18,Xu Wz false)]
theorem zcx:Gd CNm:=qc mixed ⟨KX,Mo,gu,trivial⟩
theorem P9(l:List qd)(c:zG)(h:2*Qb l<=zx)(W:Qb l+c.cb<zx){code:Code}(f:Tryz.f7.body=some code) :
  Wp True CNm Tryz.f7.ntmps code ⟨jL [.sl 10 (l.map qd.V),.agg c.V],fun _=>none,0⟩ (Yx CNm.P Tryz.f7 (Ja (Gs l c (Yi l c.names)))):=by
 have E:zx=268435456:=rfl;have g:=zcx;have t:=fun Y Z=>dC l c Y Z h (by omega)
 injection f with f;subst f;unfold Gs;refine Wp.cut g (fun U Y Z=>U 0=.sl 10 (l.map qd.V)/\U 3=.ref 0 0 0/\Y=qt (fun _=>none) 0 (some ⟨26,7,false,[c.V]⟩)/\Z=1) (by kernel_rfl) (by simp) ?_;rintro U Y Z ⟨b,m,rfl,rfl⟩;by_cases u:Zc l [c]=0
 case neg=>
  have w:=ZX u;rw[zc u];refine Wp.cut g (fun _ _ _=>False) (by kernel_rfl) ?_ fun _ _ _ h=>h.elim
  simp[b,m,zp,zy,zo,t,w,Ja,Tryz.f7];exact UF _
 rw[u]at t⊢;rw[zf rfl];obtain⟨a,I,x⟩:=ox u;refine Wp.cut g (fun U Y Z=>U 0=.sl 10 (l.map qd.V)/\U 3=.ref 0 0 0/\Y 0=some ⟨26,7,false,[c.V]⟩/\Z=2) (by kernel_rfl) (by simp[b,m,zp,zy,zo,t]) ?_;clear b m t U;rintro U Y Z ⟨b,m,y,rfl⟩;refine Wp.cut g (fun j Y' J=>j 0=U 0/\j 3=U 3/\j 7=.nil/\Y'=Y/\J=2) (by kernel_rfl) (by simp) ?_;rintro K Y1 Z ⟨F,G,L,rfl,rfl⟩;rw[b]at F;rw[m]at G;clear b m U;refine Wp.seq ?_;have d:=ot a.len a.known x;obtain⟨id,Y2,M,N,X,i2,Q,f2⟩:=P5 l c (by omega) (by omega) a.known x (3) (zcw l c Y1 2);refine Wp.zcH g 4 2 (fun z U Y Z=>U 0=.sl 10 (l.map qd.V)/\∃V,z=JE V/\qU Y Z 9 1 (U 7) (zH (V.map (Xw l)))) rfl (by decide) unMI rfl (by decide) rfl (by decide) ?_;simp[F,G,y,zp,zy,zo,N];refine⟨_,Q,rfl,⟨[],by simp[JE],by rw[L];exact .inl ⟨rfl,by simp[zH]⟩⟩,?_,?_⟩
 ·rintro z R k S U Y Z e b V rfl A hs;have p:[O.v k,S]∈JE (fl l c.names):=e.mem_iff.2 (by simp);obtain⟨i,hi,H⟩:=P6 p;simp only[zl,O.v.injEq,zM]at H;obtain⟨rfl,rfl⟩:=H;have q:=d.lt i hi;have T:=P8 _ _ d.nd d.lt;have B:V.length<=100:=by have n:=e.length_eq;have o:=a.len;simp[fm,JE]at n;omega
  have C:Xw l i=l[i].name:=by unfold Xw;rw[zj q]
  obtain⟨D,n,o,_⟩:=Mt A l[i].name (by simp;omega);refine Wp.of g (by kernel_rfl) ?_;simp at n o;simp[b,hs,q,wE,zp,zy,zo,n];exact⟨V++[i],P7 V i,by simp[C];exact o⟩
 rintro z U Y Z e b V rfl A;have r:=Ms e;have B:=Gr a.len d r;obtain⟨D,n,o⟩:=Gq (Z:=Z) A (by simp;omega);have s:=Ml a.up a.len a.known x r;rw[show Wz (V.map (Xw l))=Yi l c.names from s]at o;refine Wp.of g (by kernel_rfl) ?_;simp[n,Tryz.f7];exact o.UW _ _
theorem DP:zg prog 7 (zi false [] (FSgC fun l c=>Gs l c (Yi l c.names))):=
 KQ (C:=CNm) (pf:=fun _=>true) (fn:=Tryz.f7) (code:=_) ⟨func7,by kernel_rfl,rfl,by kernel_rfl⟩ false [] _ fun args r h=>by obtain⟨⟨l,c⟩,rfl,⟨a,b⟩,rfl⟩:=zK h;exact⟨by simp[Tryz.f7],P9 l c a b rfl⟩
end Go.Q
namespace Go.AM
variable{dr:Prop}
theorem gw:∀{ns:List Nat} {args zs:zb} {Y Y1:Hp},zw Y args=some (zs,Y1)->zw Y (q6 ns args)=some (q6 ns zs,Y1)
 |[],args,zs,_,_,h=>by
  have d:q6 [] args=args:=by cases args<;>rfl
  have e:q6 [] zs=zs:=by cases zs<;>rfl
  rw[d,e];exact h
 |s::ns,[],zs,Y,Y1,h=>by simp only[zw,zN,YZ]at h;obtain⟨rfl,rfl⟩:=h;rfl
 |s::ns,x::l,zs,Y,Y1,h=>by
  simp only[zw]at h;split at h
  ·rename_i y b a;split at h
   ·rename_i r f g;simp only[zN,YZ]at h;obtain⟨rfl,rfl⟩:=h;have i:qa Y (lI s x)=some (lI s y,b):=by
     cases x with
     |nil=>simp only[qa,wu,zN,YZ]at a;obtain⟨rfl,rfl⟩:=a;rfl
     |_=>
      have c:lI s y=y:=by
       cases y with
       |nil=>revert a;simp only[qa,wu];(repeat' split)<;>simp
       |_=>rfl
      rw[c];exact a
    simp only[q6,zw,i,gw (ns:=ns) g]
   ·cases h
  ·cases h
theorem oy:∀(ns:List Nat) (args:zb),(q6 ns args).all O.noOwn=args.all O.noOwn
 |[],args=>by cases args<;>rfl
 |s::ns,[]=>rfl
 |s::ns,x::l=>by
  have:(lI s x).noOwn=x.noOwn:=by cases x<;>rfl
  simp only[q6,q9,this,oy ns l]
theorem DQ{w:World}{S:Nat->Prop}{G:Nat->GI}{Z:Nat}:∀{ns:List Nat} {args:zb} {vs:List Value},Zip (qb w S G Z) args vs->Zip (qb w S G Z) (q6 ns args) vs
 |[],args,_,h=>by
  have e:q6 [] args=args:=by cases args<;>rfl
  rw[e];exact h
 |s::ns,[],vs,h=>h
 |s::ns,x::l,vs,h=>by
  cases vs with
  |nil=>exact absurd h.1 (by simp)
  |cons v vs=>
   have d:qb w S G Z x v:=h.2 0 x v rfl rfl;have f:Zip (qb w S G Z) l vs:=⟨by simpa using h.1,fun j y u a b=>h.2 (j+1) y u (by simpa using a) (by simpa using b)⟩;refine .cons ?_ (DQ f);cases x with
   |nil=>
    cases d with
    |c g=>exact .c ((qg.oH s) _ _ _ g)
   |_=>exact d
theorem Ra{P:Program}{f:FuncId}{F:zb->Option O}(hs:jr dr P f (zi false [] F))(ns:List Nat):jr dr P f (zi false ns F):=by
 refine⟨hs.1,fun args Y Z r Y' b e w S G vs hi c=>hs.2 (q6 ns args) Y Z r Y' b ?_ w S G vs hi (DQ c)⟩;unfold zi at e⊢;split at e
 ·rename_i zs Y1 a;have d:q6 [] (q6 ns zs)=q6 ns zs:=by cases q6 ns zs<;>rfl
  simp only[gw a,d,oy];exact e
 ·cases e
end Go.AM
namespace Go.Q
noncomputable def FSm (n:Nat):zb->Option O:=qu (α:=zG) (fun c=>[.agg c.V,.agg c.V]) (fun c=>c.cb<=zx/\c.cb<=n) fun _=>q8 true
theorem DR(n:Nat)(c:zG)(Y:Hp)(Z:Nat)(h:c.cb<=zx/\c.cb<=n):zi false [] (FSm n) [.agg c.V,.agg c.V] Y Z=some (q8 true,Y,Z):=
 Js c _ _ (by simp[zI]) (fun a b e=>by simp only[zl,zM,O.agg.injEq]at e;exact ka e.1) h (.inl rfl)
noncomputable abbrev Csm (n:Nat):Ctx:=zW prog [(16,zi false [] (FVV (fun _=>int 0) zx)),(6,zi false [] (FSm n))]
abbrev qsm:List Nat:=[16,6]
theorem Mv(n:Nat)(c:zG)(h:c.cb<=zx/\c.cb<=n+1):zt (Csm n) Tryz.f6 [.agg c.V,.agg c.V]=some (q8 true):=by
 obtain⟨s,x⟩:=h;have t:=xG c;have u:=ju c.args;have v:=yE c.qZ;unfold zx at s;refine zn rfl ?_;simp[zI c];refine zT (fun k U Y Z=>U 2=.ref 0 0 0/\U 3=.ref 1 0 0/\U 60=int c.qZ.length/\U 61=int k/\Y 0=some ⟨26,7,false,[c.V]⟩/\Y 1=some ⟨26,7,false,[c.V]⟩) c.qZ.length
  ⟨by simp,by simp,by simp,by simp,by simp[zI c],by simp[zI c]⟩ ?_
 rintro k U Y Z r ⟨e,f,g,i,j,l⟩;have a:=j;have b:=l;rw[zI c]at a b;by_cases d:k<c.qZ.length
 ·have p:=qH k;have w:=js (zk d);have q:=fun Y Z=>mh (fun _=>int 0) zx c.qZ[k] Y Z ⟨by unfold zx;omega,by unfold zx;omega⟩
  simp[e,f,g,i,d,a,b,q,p];exact⟨by omega,(zI c).symm⟩
 obtain rfl:k=c.qZ.length:=by omega
 simp[e,f,g,i,a,b];refine zT (fun k U Y Z=>U 2=.ref 0 0 0/\U 3=.ref 1 0 0/\U 79=int c.args.length/\U 80=int k/\Y 0=some ⟨26,7,false,[c.V]⟩/\Y 1=some ⟨26,7,false,[c.V]⟩) c.args.length
  ⟨by simp[e],by simp[f],by simp,by simp,j,l⟩ ?_
 clear e f g i j l a b d r;rintro k U Y Z r ⟨e,f,m,o,j,l⟩;have a:=j;have b:=l;rw[zI c]at a b;by_cases d:k<c.args.length
 ·have p:=qH k;have w:=kg (zk d);have q:=fun Y Z=>DR n c.args[k] Y Z ⟨by unfold zx;omega,by omega⟩
  simp[e,f,m,o,d,a,b,q,p];exact⟨by omega,(zI c).symm⟩
 ·obtain rfl:k=c.args.length:=by omega
  simp[e,f,m,o,wc,Tryz.f6]
theorem oz:∀n,zg prog 6 (zi false [] (FSm n))
 | 0=>Yn ⟨_,func6,by kernel_rfl,by kernel_rfl⟩ fun args r h=>by obtain⟨a,_,⟨_,d⟩,_⟩:=zK h;have:=VX a;omega
 |n+1=>Z2 (C:=Csm n) (qx (q:=qsm) mixed ⟨o0 zx,fun _=>zr _ _,oz n,fun _=>zr _ _,trivial⟩) func6 false [] fun c b=>⟨by simp[Tryz.f6],_,Mv n c b,qq _⟩
theorem Rb(l:List qd):Yi l []=[]:=by rw[<-dA (AR.begin _ _),List.mergeSort_nil];exact ZE List.nodup_nil
theorem sO{l:List qd}{a:zG}(b:jV l=0)(c:a.check=0)(d:a.names=[]):Zc l [a]=0:=by
 unfold Zc;rw[zf b];have e:QC [a]=0:=by simp[QC,c]
 rw[zf e];unfold Kb;simp[d,oe]
noncomputable abbrev Clx:Ctx:=zW prog [(4,zi false [] FEx),(5,zi false [] FEx),(6,zi false [] (FSm zx)),(7,zi false [] (FSgC fun l c=>Gs l c (Yi l c.names))),(8,zi false [10] UC)]
theorem zcy:AM.Good Clx (fun g=>[6].contains g):=qx mixed ⟨Aw,by simp,pS,by simp,oz zx,fun _=>zr _ _,DP,by simp,Ra DN [10],by simp,trivial⟩
theorem Rc:QU Clx (fun g=>[6].contains g) 3 Tryz.f3:=qE func3
theorem HQ(y:O)(l:List qd)(c:zG)(x:yu)(Y:Hp)(Z:Nat)(b:2*Qb l<=zx)(d:c.cb<=zx)(e:x.cb+2<=zx)(f:y=.sl 10 (l.map qd.V)\/y=.nil/\l=[]):zi false [10] UC [y,.agg c.V,.agg x.V] Y Z=some (pR l c x,Y,Z):=by
 have h:=Mq l c x Y Z b d e;unfold zi at h⊢;have a:zw Y [.sl 10 (l.map qd.V),.agg c.V,.agg x.V]=some ([.sl 10 (l.map qd.V),.agg c.V,.agg x.V],Y):=by simp[yu.V,zI]
 rw[a]at h;rcases f with rfl|⟨rfl,rfl⟩
 ·rw[a];exact h
 ·have g:zw Y [.nil,.agg c.V,.agg x.V]=some ([.nil,.agg c.V,.agg x.V],Y):=by simp[yu.V,zI]
  rw[g];have i:q6 [10] [O.nil,.agg c.V,.agg x.V]=q6 [] [.sl 10 (([]:List qd).map qd.V),.agg c.V,.agg x.V]:=rfl;simp only[i];exact h
theorem UG(l:List qd)(c:zG)(x:yu)(h:Qb l+c.cb<=1048576)(z:x.cb+2<=zx):zt Clx Tryz.f3 [.sl 10 (l.map qd.V),.agg c.V,.agg x.V]=some (q8 true):=by
 have A:zx=268435456:=rfl;have g:=zcu h;obtain⟨a,f,d⟩:∃a f,HP l c=(a,f):=⟨_,_,rfl⟩;rw[d]at g;simp only at g;have n:=fun Y Z=>P4 l c Y Z h
 have Y1:oM l c=.wq [.agg a.V,int f]:=by unfold oM;rw[d]
 rw[Y1]at n;have B:=fun Y Z=>DR zx a Y Z ⟨by omega,by omega⟩
 refine zn rfl ?_;simp only[zI c]at n;by_cases C:f=0
 case neg=>
  have p:=ZX C;have q:(f != f)=false:=by simp
  simp[yu.V,zI c,n,B,p,q,wc,Tryz.f3]
  done
 subst C;obtain⟨b,i,rfl⟩:Zc l [c]=0/\(yZ l c).check=0/\a=yZ l c:=by
  unfold HP at d;split at d
  ·split at d
   ·rename_i r F;injection d with j o
    exact⟨r,F,j.symm⟩
   ·injection d with j o;cases o
  ·rename_i r;injection d with j o;exact absurd o r
 obtain⟨s,G,H⟩:=ox b;have t:jV l=0:=by
  unfold Zc at b;split at b
  ·assumption
  ·rename_i u;exact absurd b u
 have e:=FZ l c;have k:=sO t i e;have m:Zc [] [yZ l c]=0:=sO (by rfl) i e;have D:=fun Y Z=>Mu (fun l c=>Gs l c (Yi l c.names)) l (yZ l c) Y Z (by omega) (by omega)
 have v:Gs l (yZ l c) (Yi l (yZ l c).names)=.wq [.sl 1 [],int 0]:=by unfold Gs;rw[k,e,Rb];simp[zH]
 rw[v]at D;have E:=fun Y Z=>HQ (.sl 10 (l.map qd.V)) l c x Y Z (by omega) (by omega) z (.inl rfl)
 have w:=fun Y Z=>HQ .nil [] (yZ l c) x Y Z (by simp[Qb]) (by omega) z (.inr ⟨rfl,rfl⟩)
 have y:pR [] (yZ l c) x=pR l c x:=by have j:hF [] x (yZ l c)=hF l x c:=FY s x _ c H;unfold pR Av;rw[b,m,j]
 rw[y]at w;simp only[pR,yu.V,zI c]at E;simp only[pR,yu.V]at w;simp[yu.V,zI c,n,B,D,E,w,wc,Tryz.f3]
 done
end Go.Q
namespace Go.AM
open Go.RowKit Go.WideShapes Go.ChangeShapes
def j6{H:Type}(P:Program):Nat->TypeId->DataW H->zb->Prop
 | 0,_,_,_=>False
 |n+1,t,d,a=>match P.underlying t with
  |some .bool=>∃b,d=.lit (.bool b)/\a=[.v (.bool b)]
  |some (.int k)=>∃i,d=.lit (.int k i)/\a=[.v (.int k i)]/\(Lit.int k i).wf=true
  |some .string=>∃s:ByteArray,d=.lit (.string s.data.toList)/\a=[.v (.string s)]/\s.size<=maxLen
  |some (.slice e)=>∃(es:List zb) (ds:List (DataW H)),((d=.nil/\ds=[])\/∃sp,d=.slice ds sp)/\a=[.sl (P.cellsOf e) es]/\es.length<=maxLen/\Zip (fun c y=>c.length=P.cellsOf e/\j6 P n e y c) es ds
  |some (.struct g)=>∃ds:List (DataW H),d=.agg ds/\a.length=P.cellsOf t/\ds.length=g.size/\∀(i:Nat) f y,g[i]?=some f->ds[i]?=some y->j6 P n f.type y ((a.drop f.offset).take (P.cellsOf f.type))
  |_=>False
section
variable{H:Type}{V:TypeId×Value->H}{P:Program}{w:World}{sp:Nat->Bool}{held:Bool}
theorem KY{T:List TypeId}(hT:iz P T=true):∀(I:Nat) (t:TypeId) (cs:List Value) (d:DataW H) (ps:List MemPlace),t∈T->DataW.trod V P w 0 sp held I t cs=some (d,ps) ->
  ∃l,Zip (fun x u=>wK w (fun b=>b<w.heap.size) x u/\u.oneCell'=true) l cs/\cs.length=P.cellsOf t/\j6 P I t d l
 | 0,t,cs,d,ps,_,h=>by simp[DataW.trod]at h
 |n+1,t,cs,d,ps,ht,h=>by
  have p:=zL.1 hT t ht;have one:∀{x:O} {u:Value},wK w (fun b=>b<w.heap.size) x u->u.oneCell'=true->Zip (fun x u=>wK w (fun b=>b<w.heap.size) x u/\u.oneCell'=true) [x] [u]:=fun E h2=>.cons ⟨E,h2⟩ .nil
  split at p
  ·rename_i A;obtain⟨b,rfl,z⟩:=DataW.trod_bool A h;simp only[YZ]at z;exact⟨[.v (.bool b)],one (.v rfl) rfl,by simpa using(by simpa using p:P.cellsOf t=1).symm,by unfold j6;rw[A];exact⟨b,z.1,rfl⟩⟩
  ·rename_i k A;obtain⟨i,rfl,z,hwf⟩:=DataW.trod_int A h;simp only[YZ]at z;exact⟨[.v (.int k i)],one (.v rfl) rfl,by simpa using(by simpa using p:P.cellsOf t=1).symm,by unfold j6;rw[A];exact⟨i,z.1,rfl,hwf⟩⟩
  ·rename_i A;obtain⟨s,rfl,z,hs⟩:=DataW.trod_string A h;simp only[YZ]at z;exact⟨[.v (.string s)],one (.v rfl) rfl,by simpa using(by simpa using p:P.cellsOf t=1).symm,by unfold j6;rw[A];exact⟨s,z.1,rfl,hs⟩⟩
  ·rename_i e A;simp only[zC,yH,qi,zcC]at p;obtain⟨⟨W,heT⟩,hce⟩:=p;rcases DataW.trod_slice A h with⟨rfl,z⟩|⟨a,len,cap,g,rest,m,hm,rfl,z,_,hlc,hcm,hel,X,_,_⟩
   ·simp only[YZ]at z;refine⟨[.sl (P.cellsOf e) []],one ?_ rfl,by simp[W],by unfold j6;rw[A];exact⟨[],[],.inl ⟨z.1,rfl⟩,rfl,by simp,.nil⟩⟩;exact wK.sl (es:=[]) (s:=P.cellsOf e) (fun _ _=>undef) (by simp) (by simp) (by simp[maxLen]) (by simp) (by simp) (by simp)
   ·obtain rfl:m=n:=by omega
    simp only[YZ]at z;have hel':∀i (hi:i<len),∃B,w.cells? 0 (a.add (i*P.cellsOf e)) (P.cellsOf e)=some B/\DataW.trod V P w 0 sp held m e B=some (g[i]'(by omega)):=by
     intro i hi;have E:=X i hi;have h2:g[i]?=some (g[i]'(by omega)):=zj (by omega);rw[h2]at E;cases hc:w.cells? 0 (a.add (i*P.cellsOf e)) (P.cellsOf e)with
     |none=>simp[hc]at E
     |some B=>exact⟨B,rfl,by simpa[hc]using E⟩
    have hch:∀i,∃q:List Value×zb,∀hi:i<len,w.cells? 0 (a.add (i*P.cellsOf e)) (P.cellsOf e)=some q.1/\Zip (fun x u=>wK w (fun b=>b<w.heap.size) x u/\u.oneCell'=true) q.2 q.1/\q.1.length=P.cellsOf e/\j6 P m e (g[i]'(by omega)).1 q.2:=by
     intro i;by_cases hi:i<len
     ·obtain⟨B,g1,g3⟩:=hel' i hi;obtain⟨l,q1,q2,q3⟩:=KY hT m e B (g[i]'(by omega)).1 (g[i]'(by omega)).2 heT (by rw[g3]);exact⟨(B,l),fun _=>⟨g1,q1,q2,q3⟩⟩
     ·exact⟨([],[]),fun h=>absurd h hi⟩
    let q:Nat->List Value×zb:=fun i=>Classical.choose (hch i)
    have hq:∀i (hi:i<len),w.cells? 0 (a.add (i*P.cellsOf e)) (P.cellsOf e)=some (q i).1/\Zip (fun x u=>wK w (fun b=>b<w.heap.size) x u/\u.oneCell'=true) (q i).2 (q i).1/\(q i).1.length=P.cellsOf e/\j6 P m e (g[i]'(by omega)).1 (q i).2:=fun i=>jq (hch i)
    have D:((List.range len).map fun i=>(q i).2).length=len:=by simp
    have J:∀(i:Nat) (c:zb),((List.range len).map fun i=>(q i).2)[i]?=some c->i<len/\c=(q i).2:=by
     intro i c hi;have o:i<len:=by have:=(zd.1 hi).1;simpa using this
     rw[qf,jX o]at hi;simp at hi;exact⟨o,hi.symm⟩
    have key:wK w (fun b=>b<w.heap.size) (.sl (P.cellsOf e) ((List.range len).map fun i=>(q i).2)) (.slice (some a) ((List.range len).map fun i=>(q i).2).length cap):=by
     refine .sl (fun i j=>((q i).1[j]?).getD undef) (by simp) (by rw[D];exact hlc) hcm (fun c hc=>?_) (fun i j c x hi K=>?_) (fun i j c x hi K=>?_)
     ·obtain⟨i,hi,rfl⟩:=qp.1 hc;have E:=hq i (yg.1 hi);rw[E.2.1.1,E.2.2.1]
     ·obtain⟨o,rfl⟩:=J i c hi;obtain⟨g1,L,g3,_⟩:=hq i o;have M:j<(q i).1.length:=by rw[<-L.1];exact(zd.1 K).1
      have C:(q i).1[j]?=some ((q i).1[j]):=zj M;obtain⟨_,g5,g6⟩:=World.cells?_some g1;have r:=g6 j (by omega);rw[cd]at r;rw[C]at r;refine⟨a,rfl,?_,?_,?_⟩
      ·have:=block_lt_of_cell r;rwa [QP]at this
      ·rw[r,C];rfl
      ·rw[C];exact(L.2 j x _ K C).2
     ·obtain⟨o,rfl⟩:=J i c hi;obtain⟨g1,L,g3,_⟩:=hq i o;have M:j<(q i).1.length:=by rw[<-L.1];exact(zd.1 K).1
      have C:(q i).1[j]?=some ((q i).1[j]):=zj M;rw[C];exact(L.2 j x _ K C).1
    rw[D]at key;refine⟨[.sl (P.cellsOf e) ((List.range len).map fun i=>(q i).2)],one key rfl,by simp[W],?_⟩;unfold j6;rw[A];refine⟨_,g.map (·.1),.inr ⟨_,z.1⟩,rfl,by rw[D];omega,by rw[D,xQ,hel],fun i c y hi F=>?_⟩;obtain⟨o,rfl⟩:=J i c hi;have E:=hq i o;rw[qf,zj (by omega)]at F;simp only[zA,zN]at F;subst F;exact⟨by rw[E.2.1.1,E.2.2.1],E.2.2.2⟩
  ·rename_i fs A;simp only[zC,yH,zL,zcC]at p;obtain⟨N,hfT⟩:=p;obtain⟨xs,m,hm,z,hcl,R4,hf⟩:=DataW.trod_struct A h;obtain rfl:m=n:=by omega
   simp only[YZ]at z;obtain⟨l,g1,L,g3⟩:=rn (P:=P) (R:=fun x u=>wK w (fun b=>b<w.heap.size) x u/\u.oneCell'=true) (Q:=fun f l=>∀(i:Nat) y,fs[i]?=some f->(xs.map (·.1))[i]?=some y->j6 P m f.type y l) fs.toList 0 (P.cellsOf t) cs N hcl (fun f G=>by
    obtain⟨i,hi⟩:=Kd G;have S:=hf i f (by simpa using hi);have o:i<xs.length:=by rw[R4];have:=(zd.1 hi).1;simpa using this
    rw[zj o]at S;obtain⟨l,q1,_,q3⟩:=KY hT m f.type _ (xs[i]).1 (xs[i]).2 (hfT f G) S;refine⟨l,q1,fun k y hk F=>?_⟩;have hfk:=hf k f hk;rw[S]at hfk;rw[qf,<-hfk]at F;simp only[zA,zN]at F;subst F;exact q3)
   refine⟨l,⟨by omega,fun j x u K hu'=>L j x u K (by simpa using hu')⟩,hcl,?_⟩;unfold j6;rw[A];refine⟨xs.map (·.1),z.1,by omega,by rw[xQ,R4],fun i f y hi F=>?_⟩;have G:f∈fs.toList:=by
    have:fs.toList[i]?=some f:=by simpa using hi
    exact zz this
   have:=(g3 f G).2 i y hi F;simpa using this
  ·cases p
theorem oA{T:List TypeId}(g:iz P T=true){t:TypeId}{v:Value}{d:DataW H}{e:List MemPlace}{r:Reach}{base:Nat}{i:Array Field}(k:t∈T)(l:P.underlying t=some (.struct i))(m:Value.okWide P w r base t v)(h:DataW.Trod V P w 0 sp held t v d e) :
  ∃(n:Nat) (a:zb),j6 P n t d a/\wK w (fun b=>b<w.heap.size) (.agg a) v:=by
 obtain⟨n,o⟩:=h;obtain⟨a,f,y,p⟩:=KY g n t v.cells.toList d e k o;obtain⟨cs,rfl,q⟩:=okWide_struct l m;exact⟨n,a,p,.agg (by have:=f.1;simpa[Value.cells]using this) (fun j s u x c=>(f.2 j s u x (by simpa[Value.cells]using c)).1)⟩
theorem Re{T:List TypeId}(x:iz P T=true){t:TypeId}{v:Value}{d:DataW H}{y:List MemPlace}{r:Reach}{base:Nat}(z:t∈T)(A:¬∃f,P.underlying t=some (.struct f))(i:Value.okWide P w r base t v)(h:DataW.Trod V P w 0 sp held t v d y) :
  ∃(n:Nat) (p:O),j6 P n t d [p]/\wK w (fun b=>b<w.heap.size) p v:=by
 obtain⟨n,B⟩:=h;obtain⟨j,e,k,g⟩:=KY x n t v.cells.toList d y z B;have c:=zL.1 x t z;have m:P.cellsOf t=1:=by
  split at c
  ·simpa using c
  ·simpa using c
  ·simpa using c
  ·simp only[zC,yH]at c;exact c.1.1
  ·rename_i f a;exact absurd ⟨f,a⟩ A
  ·cases c
 rw[m]at k
 match j,e,g with
 |[],e,g=>have:=e.1;rw[k]at this;simp at this
 |p::q::l,e,g=>have:=e.1;rw[k]at this;simp at this
 |[p],e,g=>
  obtain⟨u,o,C,D⟩:=ZI e;have s:v=u:=by
   cases v with
   |agg cs=>
    exfalso;split at c
    ·rename_i a;simp[Value.okWide,a,Cell.okWide,Cell.ok]at i
    ·rename_i a;simp[Value.okWide,a,Cell.okWide,Cell.ok]at i
    ·rename_i a;simp[Value.okWide,a,Cell.okWide,Cell.ok]at i
    ·rename_i a;simp[Value.okWide,a,Cell.okWide,Cell.ok]at i
    ·rename_i f a;exact A ⟨f,a⟩
    ·cases c
   |_=>simpa[Value.cells]using o
  subst s;exact⟨n,p,g,C⟩
end
end Go.AM
namespace Go.AM
def JF(P:Program)(t:TypeId):Option (List (TypeId×Nat×Nat)):=match P.underlying t with
 |some (.struct a)=>some (a.toList.map fun f=>(f.type,f.offset,P.cellsOf f.type))
 |_=>none
def X6{H:Type}(P:Program)(n:Nat)(pvs:zb):List (TypeId×Nat×Nat)->List (DataW H)->Prop
 |[],[]=>True
 |(t,o,c)::l,y::ds=>j6 P n t y ((pvs.drop o).take c)/\X6 P n pvs l ds
 |_,_=>False
section
variable{H:Type}{P:Program}{n:Nat}{t:TypeId}{d:DataW H}{pvs:zb}
theorem oB(n:Nat)(pvs:zb):∀(a:List Field) (ds:List (DataW H)),ds.length=a.length->(∀(i:Nat) f y,a[i]?=some f->ds[i]?=some y->j6 P n f.type y ((pvs.drop f.offset).take (P.cellsOf f.type)))->X6 P n pvs (a.map fun f=>(f.type,f.offset,P.cellsOf f.type)) ds
 |[],[],_,_=>trivial
 |f::a,y::ds,b,h=>⟨h 0 f y rfl rfl,oB n pvs a ds (by simpa using b) fun i f' c d e=>h (i+1) f' c (by simpa using d) (by simpa using e)⟩
theorem KZ{l:List (TypeId×Nat×Nat)}(hs:JF P t=some l):∃a,P.underlying t=some (.struct a)/\l=a.toList.map fun f=>(f.type,f.offset,P.cellsOf f.type):=by
 unfold JF at hs;split at hs
 ·rename_i a b;injection hs with hs
  exact⟨a,b,hs.symm⟩
 ·cases hs
theorem QD{l:List (TypeId×Nat×Nat)}(hs:JF P t=some l)(h:j6 P n t d pvs):∃(m:Nat) (ds:List (DataW H)),n=m+1/\d=.agg ds/\pvs.length=P.cellsOf t/\X6 P m pvs l ds:=by
 obtain⟨a,b,rfl⟩:=KZ hs;cases n with
 |zero=>exact h.elim
 |succ m=>unfold j6 at h;rw[b]at h;obtain⟨ds,c,e,g,j⟩:=h;exact⟨m,ds,rfl,c,e,oB m pvs a.toList ds (by simpa using g) fun i f y k o=>j i f y (by simpa using k) o⟩
theorem wM{o c:Nat}{l:List (TypeId×Nat×Nat)}{ds:List (DataW H)}(h:X6 P n pvs ((t,o,c)::l) ds):∃y a,ds=y::a/\j6 P n t y ((pvs.drop o).take c)/\X6 P n pvs l a:=by
 cases ds with
 |nil=>exact h.elim
 |cons y a=>exact⟨y,a,rfl,h.1,h.2⟩
theorem WA{ds:List (DataW H)}(h:X6 P n pvs [] ds):ds=[]:=by
 cases ds with
 |nil=>rfl
 |cons y a=>exact h.elim
theorem X7{k:IntKind}(a:P.underlying t=some (.int k))(h:j6 P n t d pvs):∃i,d=.lit (.int k i)/\pvs=[.v (.int k i)]/\(Lit.int k i).wf=true:=by
 cases n with
 |zero=>exact h.elim
 |succ m=>unfold j6 at h;rw[a]at h;exact h
theorem kT(a:P.underlying t=some .string)(h:j6 P n t d pvs):∃l:za,d=.lit (.string l)/\pvs=[str l]/\l.length<=maxLen:=by
 cases n with
 |zero=>exact h.elim
 |succ m=>unfold j6 at h;rw[a]at h;obtain⟨s,b,c,e⟩:=h;exact⟨s.data.toList,b,by rw[c],e⟩
theorem vX{e:TypeId}(a:P.underlying t=some (.slice e))(h:j6 P n t d pvs):∃(m:Nat) (es:List zb) (ds:List (DataW H)),n=m+1/\((d=.nil/\ds=[])\/∃sp,d=.slice ds sp)/\pvs=[.sl (P.cellsOf e) es]/\es.length<=maxLen/\Zip (fun c y=>c.length=P.cellsOf e/\j6 P m e y c) es ds:=by
 cases n with
 |zero=>exact h.elim
 |succ m=>unfold j6 at h;rw[a]at h;obtain⟨es,ds,b,f,g,i⟩:=h;exact⟨m,es,ds,rfl,b,f,g,i⟩
theorem xf{α:Type}{V:α->zb}{w:α->Nat}{b:DataW H->Nat}{R:zb->DataW H->Prop}(d:∀c y,R c y->∃a,c=V a/\w a<=b y):∀{es:List zb} {ds:List (DataW H)},Zip R es ds->∃l:List α,es=l.map V/\(l.map w).sum<=(ds.map b).sum
 |[],[],_=>⟨[],rfl,by simp⟩
 |[],_::_,h=>by have:=h.1;simp at this
 |_::_,[],h=>by have:=h.1;simp at this
 |c::es,y::ds,h=>by obtain⟨a,rfl,k⟩:=d c y (h.2 0 c y rfl rfl);obtain⟨l,rfl,m⟩:=xf d (es:=es) (ds:=ds) ⟨by have:=h.1;simpa using this,fun i e f g j=>h.2 (i+1) e f (by simpa using g) (by simpa using j)⟩;exact⟨a::l,rfl,by simp;omega⟩
end
end Go.AM
