/- Lemmas. -/
import Derived.Lib.Bytealg
import Derived.Test.YtjnfibncnabkmaaGreatDoorG6
set_option maxRecDepth 100000
set_option maxHeartbeats 4000000
open Go Proofs Proofs.YtjnfibncnabkmaaGreatDoor Proofs.Tryz RowKit AM SpanLaw Q Zz
open Go.IntKind renaming i64→i6
namespace Go.Q
structure Rst where
 p:Nat
 b:Option (Nat×Int)
namespace Rst
def bad(st:Rst):Int:=match st.b with
 |none=>-1
 |some (k,_)=>k
def QO(st:Rst):Int:=match st.b with
 |none=>0
 |some (_,x)=>x
def fail(st:Rst)(k:Nat)(x:Int):Rst:=match st.b with
 |none=>⟨st.p,some (k,x)⟩
 |some _=>st
def qH(st:Rst):Rst:=⟨st.p+1,st.b⟩
end Rst
abbrev TR:TypeId:=82
def qa(s:za)(st:Rst):zb:=[str s,int st.p,int st.bad,int st.QO]
abbrev qL(s:za)(st:Rst):Blk:=zz TR (qa s st)
theorem Ff{s e:za}{st a:Rst}(h:qa s st=qa e a):s=e/\st=a:=by
 obtain⟨p,b⟩:=st;obtain⟨i,f⟩:=a;simp only[qa,zq,qh]at h;obtain⟨j,g,c,d⟩:=h;have g:=qA g;have c:=qA c;have d:=qA d;refine⟨yp j,?_⟩;have Y:p=i:=by omega
 subst Y;cases b with
 |none=>
  cases f with
  |none=>rfl
  |some q=>obtain⟨k,x⟩:=q;simp only[Rst.bad]at c;omega
 |some q=>
  obtain⟨k,x⟩:=q;cases f with
  |none=>simp only[Rst.bad]at c;omega
  |some l=>
   obtain⟨k',m⟩:=l;simp only[Rst.bad,Rst.QO]at c d;have n:k=k':=by omega
   have o:x=m:=by assumption
   rw[n,o]
noncomputable def FJr {b:Type} (encA:b->zb) (pre:za->Rst->b->Prop) (c:za->Rst->b->Rst) (out:za->Rst->b->O):zb->zb->Option (zb×O):=
 gz (α:=za×Rst×b) (fun a=>qa a.1 a.2.1) (fun a=>encA a.2.2) (fun a=>a.1.length<=1048576/\a.2.1.p<=a.1.length/\pre a.1 a.2.1 a.2.2) (fun a=>(qa a.1 (c a.1 a.2.1 a.2.2),out a.1 a.2.1 a.2.2))
noncomputable abbrev mR {a:Type} (encA:a->zb) (pre:za->Rst->a->Prop) (b:za->Rst->a->Rst) (out:za->Rst->a->O):AM.Spec:=ie TR (FJr encA pre b out)
theorem Of{c:Type}{encA:c->zb}{pre:za->Rst->c->Prop}{d:za->Rst->c->Rst}{out:za->Rst->c->O}(f:∀a b,encA a=encA b->a=b){s:za}{st:Rst}(b:c)(hs:s.length<=1048576)(j:st.p<=s.length)(h:pre s st b):FJr encA pre d out (qa s st) (encA b)=some (qa s (d s st b),out s st b):=
 V9 (encC:=fun a:List UInt8×Rst×c=>qa a.1 a.2.1) (encA:=fun a=>encA a.2.2) (a:=(s,st,b)) (fun x y k e=>by obtain⟨l,m,n⟩:=x;obtain⟨o,q,r⟩:=y;obtain⟨g,i⟩:=Ff k;simp only at g i;have e:=f _ _ e;simp only at e;rw[g,i,e]) ⟨hs,j,h⟩
theorem ZP{c:Type}{encA:c->zb}{pre:za->Rst->c->Prop}{d:za->Rst->c->Rst}{out:za->Rst->c->O}(e:∀a b,encA a=encA b->a=b)(f:∀b,(encA b).all O.isV=true){s:za}{st:Rst}(b:c){Y:Hp}{id Z:Nat}(g:Y id=some (qL s st))(hs:s.length<=1048576)(i:st.p<=s.length)(h:pre s st b) :
  mR encA pre d out (.ref id 0 0::encA b) Y Z=some (out s st b,qf Y id (some (qL s (d s st b))),Z):=
 cQ (f b) g rfl (Of e b hs i h) rfl rfl
theorem xt{c:Type}{encA:c->zb}{pre:za->Rst->c->Prop}{a:za->Rst->c->Rst}{out:za->Rst->c->O}{cs e cs':zb}{r:O}(h:FJr encA pre a out cs e=some (cs',r)) :
  ∃s st b,cs=qa s st/\e=encA b/\s.length<=1048576/\st.p<=s.length/\pre s st b/\cs'=qa s (a s st b)/\r=out s st b:=by
 obtain⟨⟨s,st,b⟩,f,g,⟨i,j,k⟩,d⟩:=X5 h;injection d with d l;exact⟨s,st,b,f,g,i,j,k,d,l⟩
noncomputable abbrev JL:AM.Spec:=mR ud (fun _ _ _=>True) (fun _ st b=>st.fail b.1 b.2) (fun _ _ _=>.wL [])
theorem vq{s:za}{st:Rst}(k:Nat)(x:Int){Y:Hp}{id Z:Nat}(a:Y id=some (qL s st))(hs:s.length<=1048576)(b:st.p<=s.length) :
  JL [.ref id 0 0,int k,int x] Y Z=some (.wL [],qf Y id (some (qL s (st.fail k x))),Z):=ZP iY (fun _=>rfl) (k,x) a hs b trivial
theorem xW:zi prog 104 JL:=
 wi (code:=_) jj ⟨func104,by kernel_rfl,rfl,by kernel_rfl⟩ TR _ fun cs c cs' r h=>by
  obtain⟨s,⟨p,b⟩,⟨k,x⟩,rfl,rfl,hs,Y,d,rfl,rfl⟩:=xt h;refine⟨by simp[ud,f104],?_⟩;cases b with
  |none=>simp[ud,zZ,zz,qa,Rst.fail,Rst.bad,Rst.QO,f104];exact qR rfl rfl
  |some q=>
   obtain⟨k',e⟩:=q;have a:¬(k':Int)<0:=by omega
   simp[ud,zZ,zz,qa,Rst.fail,Rst.bad,Rst.QO,a,f104];exact qR rfl rfl
def ka(s:za)(st:Rst):UInt8:=match st.b with
 |none=>(s[st.p]?).getD 0
 |some _=>0
noncomputable def FnxR:zb->zb->Option O:=fun cs a=>(FJr aU (fun _ _ _=>True) (fun _ st _=>st) (fun s st _=>Zu (ka s st)) cs a).map (·.2)
noncomputable abbrev bG:AM.Spec:=a6 TR FnxR
theorem YL{s:za}{st:Rst}{Y:Hp}{id Z:Nat}(a:Y id=some (qL s st))(hs:s.length<=1048576)(b:st.p<=s.length):bG [.ref id 0 0] Y Z=some (Zu (ka s st),Y,Z):=
 mj rfl a rfl (by unfold FnxR;rw[show([]:zb)=aU ()from rfl,Of y5 () hs b trivial];rfl)
theorem xm:zi prog 97 bG:=
 Xa (wi (code:=_) jj ⟨func97,by kernel_rfl,rfl,by kernel_rfl⟩ TR _ fun cs i cs' r h=>by
  unfold FnxR at h;rw[jv]at h;obtain⟨⟨e,j⟩,f,d⟩:=eo.1 h;obtain⟨s,⟨p,b⟩,⟨⟩,rfl,rfl,hs,Y,_,rfl,rfl⟩:=xt f;simp only[Function.comp_apply,Jb]at d;obtain⟨rfl,rfl⟩:=d;refine⟨by simp[aU,f97],?_⟩;simp only at Y;cases b with
  |none=>
   by_cases a:p<s.length
   ·have c:¬(s.length:Int)<=p:=by omega
    simp[aU,zZ,zz,qa,Rst.bad,Rst.QO,a,c,f97];refine qc rfl rfl .id ?_;simp[Zu,ka,a]
   ·have c:(s.length:Int)<=p:=by omega
    simp[aU,zZ,zz,qa,Rst.bad,Rst.QO,c,f97];refine qc rfl rfl .id ?_;simp[Zu,ka,a]
  |some q=>
   obtain⟨k',k⟩:=q;have g:(0:Int)<=(k':Int):=by omega
   simp[aU,zZ,zz,qa,Rst.bad,Rst.QO,g,f97];refine qc rfl rfl .id ?_;simp[Zu,ka])
noncomputable abbrev Cmur:Ctx:=qj prog [(97,bG),(104,JL)]
theorem Ub:AM.Good Cmur (fun g=>[97].contains g):=qx mixed ⟨xm,fun _=>ym _ _,xW,by simp,trivial⟩
def Ja(s:za)(st:Rst)(c:UInt8):Rst:=if ka s st=c then st.qH else st.fail st.p 10
noncomputable abbrev iu:AM.Spec:=mR aC (fun _ _ c=>c≠0) (fun s st c=>Ja s st c) (fun _ _ _=>.wL [])
theorem Kb{s:za}{st:Rst}(c:UInt8){Y:Hp}{id Z:Nat}(a:Y id=some (qL s st))(hs:s.length<=1048576)(b:st.p<=s.length)(d:c≠0):iu [.ref id 0 0,Zu c] Y Z=some (.wL [],qf Y id (some (qL s (Ja s st c))),Z):=ZP ue (fun _=>rfl) c a hs b d
theorem xO{s:za}{st:Rst}{c:UInt8}(h:ka s st=c)(d:c≠0):st.p<s.length/\st.b=none:=by
 unfold ka at h;split at h
 ·rename_i e;refine⟨Nat.lt_of_not_le fun a=>d ?_,e⟩;rw[<-h,wq a];rfl
 ·exact absurd h.symm d
theorem xu(st:Rst)(k:Nat)(x:Int):(st.fail k x).p=st.p:=by unfold Rst.fail;split<;>rfl
theorem Xi{s:za}{st:Rst}(c:UInt8)(a:c≠0)(h:st.p<=s.length):st.p<=(Ja s st c).p/\(Ja s st c).p<=s.length:=by
 unfold Ja;split
 ·rename_i b;have:=(xO b a).1;simp only[Rst.qH];omega
 ·rw[xu];exact⟨zk _,h⟩
theorem KC:zi prog 150 iu:=
 wi (code:=_) Ub ⟨func150,by kernel_rfl,rfl,by kernel_rfl⟩ TR _ fun cs j cs' r h=>by
  obtain⟨s,st,c,rfl,rfl,hs,Y,f,rfl,rfl⟩:=xt h;refine⟨by simp[aC,f150],?_⟩;clear h;have b:bG [.ref 0 0 0] (zZ TR (qa s st)) 1=some (Zu (ka s st),zZ TR (qa s st),1):=YL rfl hs Y;have e:JL [.ref 0 0 0,int st.p,int 10] (zZ TR (qa s st)) 1=some (.wL [],qf (zZ TR (qa s st)) 0 (some (qL s (st.fail st.p 10))),1):=vq st.p 10 rfl hs Y;simp only[zZ,zz,qa,Zu,zd,ze,zh,Nat.reduceAdd,qV]at b e;unfold Ja;by_cases a:ka s st=c
  ·rw[zg a];rw[a]at b;have k:=(xO a f).1;have g:=wj ((st.p:Int)+1);simp[aC,Zu,zZ,zz,qa,b,g,Rst.qH,f150];exact qR rfl (by first|rfl|simp[zz,qa,Rst.bad,Rst.QO])
  ·rw[zf a];have i:((ka s st).toNat:Int)≠(c.toNat:Int):=by have:=WW c a;simpa using this
   have d:=WW c a;simp[aC,Zu,zZ,zz,qa,b,e,d,bne,f150];exact qR rfl (by first|rfl|simp[zz,qa])
noncomputable abbrev Cblr:Ctx:=qj prog [(97,bG)]
theorem Uc:AM.Good Cblr (fun g=>[97].contains g):=qx mixed ⟨xm,fun _=>ym _ _,trivial⟩
def kO(s:za)(st:Rst):Rst:=match st.b with
 |none=>⟨st.p+((s.drop st.p).takeWhile J7).length,none⟩
 |some _=>st
theorem vU{s:za}{st:Rst}(h:st.p<=s.length):st.p<=(kO s st).p/\(kO s st).p<=s.length/\(kO s st).b=st.b:=by
 have:=(Yj J7 (l:=s.drop st.p)).length_le;simp at this;unfold kO;split
 ·rename_i a;exact⟨by simp only;omega,by simp only;omega,a.symm⟩
 ·exact⟨zk _,h,rfl⟩
theorem Og{s:za}{st:Rst}(a:J7 (ka s st)=true):kO s st=kO s st.qH/\st.p<s.length:=by
 have g:ka s st≠0:=fun e=>by rw[e]at a;cases a
 obtain⟨c,f⟩:=xO rfl g;refine⟨?_,c⟩;obtain⟨p,b⟩:=st;simp only at f c;subst f;have d:ka s ⟨p,none⟩=s[p]:=by simp[ka,c]
 rw[d]at a;simp only[kO,Rst.qH];rw[zl c,yQ,zg a];simp;omega
theorem B0{s:za}{st:Rst}(d:J7 (ka s st)=false):kO s st=st:=by
 obtain⟨p,b⟩:=st;cases b with
 |some q=>rfl
 |none=>
  simp only[kO];cases hd:s.drop p with
  |nil=>simp
  |cons c l=>
   have f:p<s.length:=by have:=zp List.length hd;simp at this;omega
   have a:ka s ⟨p,none⟩=c:=by
    have e:(s.drop p)[0]?=some c:=by rw[hd];rfl
    simp at e;simp[ka,e]
   rw[a]at d;simp[yQ,d]
noncomputable abbrev Le:AM.Spec:=mR aU (fun _ _ _=>True) (fun s st _=>kO s st) (fun _ _ _=>.wL [])
theorem YM{s:za}{st:Rst}{Y:Hp}{id Z:Nat}(a:Y id=some (qL s st))(hs:s.length<=1048576)(b:st.p<=s.length):Le [.ref id 0 0] Y Z=some (.wL [],qf Y id (some (qL s (kO s st))),Z):=ZP y5 (fun _=>rfl) () a hs b trivial
theorem fX:zi prog 152 Le:=
 wi (code:=_) Uc ⟨func152,by kernel_rfl,rfl,by kernel_rfl⟩ TR _ fun cs A cs' r h=>by
  obtain⟨s,st,⟨⟩,rfl,rfl,hs,Y,_,rfl,rfl⟩:=xt h;refine⟨by simp[aU,f152],?_⟩;clear h;refine zM (fun M Y Z=>M 0=.ref 0 0 0/\M 2=Zu (ka s st)/\Y=zZ TR (qa s st)/\Z=1) ?_ ?_
  ·have l:bG [.ref 0 0 0] (zZ TR (qa s st)) 1=some (Zu (ka s st),zZ TR (qa s st),1):=YL rfl hs Y;simp[aU,l]
  rintro M _ _ ⟨i,g,rfl,rfl⟩;simp;refine ql (fun k M Y Z=>M 0=.ref 0 0 0/\Z=1/\∃a,M 2=Zu (ka s a)/\a.p=st.p+k/\Y=zZ TR (qa s a)/\a.p<=s.length/\kO s a=kO s st) (s.length-st.p) ⟨by simp[i],rfl,st,by simp[g],rfl,rfl,Y,rfl⟩ ?_;clear i g M;rintro k M Y1 _ B ⟨i,rfl,a,g,C,rfl,o,m⟩;simp only[Zu]at g;obtain⟨c,n⟩:=wM (ka s a);rw[n]at g;cases e:J7 (ka s a)
  ·have f:=B0 e;rw[n]at e;simp only[J7,wE,w8]at e;have q:((c.toNat:Int)==9)=false:=WW 9 e.1.1.1;have t:((c.toNat:Int)==10)=false:=WW 10 e.1.1.2;have u:((c.toNat:Int)==13)=false:=WW 13 e.1.2;have w:((c.toNat:Int)==32)=false:=WW 32 e.2;simp[i,g,q,t,u,w,f152];rw[<-m,f];exact qR rfl (by simp[zZ])
  ·obtain⟨f,D⟩:=Og e;have x:=wj ((a.p:Int)+1);have l:=YL (s:=s) (st:=a.qH) (Y:=zZ TR (qa s a.qH)) (id:=0) (Z:=1) rfl hs (by simp only[Rst.qH];omega);have j:(⟨a.p+1,a.b⟩:Rst).bad=a.bad/\(⟨a.p+1,a.b⟩:Rst).QO=a.QO:=⟨rfl,rfl⟩;simp only[zZ,zz,qa,Zu,Rst.qH,j.1,j.2,zd,ze,zh,Nat.reduceAdd,yk,qu]at l;have y:∃d,O.v (.int .u8 ((ka s a.qH).toNat:Int))=Zu (ka s d)/\d.p=st.p+(k+1)/\zZ TR (qa s a.qH)=zZ TR (qa s d)/\d.p<=s.length/\kO s d=kO s st:=⟨a.qH,rfl,by simp only[Rst.qH];omega,rfl,by simp only[Rst.qH];omega,by rw[<-f,m]⟩;rw[n]at e;simp only[J7,qT,yI]at e;have z:st.p+(k+1)=a.p+1:=by omega
   rcases e with((rfl|rfl)|rfl)|rfl
   all_goals
    simp[i,g,zZ,zz,qa,x,l];exact⟨by omega,a.qH,rfl,by simp only[Rst.qH];omega,rfl,by simp only[Rst.qH];omega,by rw[<-f,m]⟩
def uf(done:List za)(k:Nat):List zb:=done.map (fun p=>[str p])++List.replicate k [str []]
theorem B4(done:List za)(k:Nat)(p:za):(uf done (k+1)).set done.length [str p]=uf (done++[p]) k:=by unfold uf;rw[List.set_append_right _ _ (by simp)];simp[List.replicate_succ]
theorem B5(done:List za)(k:Nat):(uf done (k+1))[done.length]?=some [str []]:=by unfold uf;rw[qo (by simp)];simp[List.replicate_succ]
theorem Lf(done:List za):uf done 0=done.map fun p=>[str p]:=by simp[uf]
def qt(s sep:za):List za:=Lib.split s sep
theorem bH{sep s:za}{i k:Nat}(h:Lib.index s sep=i):Lib.splitK sep 0 (k+1) s=s.take i::Lib.splitK sep 0 k (s.drop (i+sep.length)):=by
 have a:¬(Lib.index s sep==-1)=true:=by rw[yI];omega
 rw[Lib.splitK,zf a,h];simp
theorem rP{s sep:za}(h:sep≠[]):Lib.count s sep<=s.length:=by have:=Lib.countB_le ⟨sep.toArray⟩ (by cases sep<;>simp_all) s.length ⟨s.toArray⟩ (by simp);simpa[Lib.countB]using this
theorem Oh(a b:za)(Y:Hp)(Z:Nat)(h:a.length<=qg)(c:b.length<=qg)(d:1<=b.length):zn false [] (WV cntP fun _ b=>1<=b.length) [str a,str b] Y Z=some (int (Lib.count a b),Y,Z):=Zz _ _ a b Y Z h c d rfl
def K2(xs:List za):Blk:=⟨9,1,true,xs.map fun p=>[str p]⟩
theorem ph(s sep:za)(F:s.length<=qg)(G:sep.length<=qg)(v:1<=sep.length) :
  ∃x Y Z,jr Ci2 f163 [str s,str sep,int 0,int (-1)] (fun _=>none) 0=some (x,Y,Z)/\bD (some (K2 (qt s sep))) x Y Z:=by
 have b:sep≠[]:=by intro e;subst e;simp at v
 have H:=rP (s:=s) b;unfold qg at F G;refine cM rfl ?_;have l:=jl b;have w:=wj ((Lib.count s sep:Int)+1);have I:=wj ((s.length:Int)+1);have w3:(if(s.length:Int)+1<(Lib.count s sep:Int)+1 then(s.length:Int)+1 else(Lib.count s sep:Int)+1)=(Lib.count s sep:Int)+1:=zf (by omega);have J:i6.wrap ((Lib.count s sep:Int)+1-1)=(Lib.count s sep:Int):=by rw[wU (by omega) (by omega)];omega
 have m:=wj (Lib.count s sep:Int);have y:((Lib.count s sep:Int)+1).toNat=Lib.count s sep+1:=by omega
 have z:0<=(Lib.count s sep:Int)+1:=by omega
 have c3:Lib.count s sep+1<=maxLen:=by simp[maxLen];omega
 have K:(Lib.count s sep+1)*16<=140737488355328:=by omega
 have n:=fun Y Z=>Oh s sep Y Z (by unfold qg;omega) (by unfold qg;omega) v
 have o:¬s.length<Lib.count s sep:=by omega
 have L:(Lib.count s sep:Int)+1<=(maxLen:Int):=by simp[maxLen];omega
 simp[l,n,w,I,o,J,m,YA,y,z,L,K];refine ql (fun j M Y Z=>∃done cur,done.length=j/\M 0=str cur/\M 1=str sep/\M 2=int 0/\M 3=int (Lib.count s sep)/\M 9=.own 0 0 (Lib.count s sep+1)/\M 10=int j /\
   Y 0=some ⟨9,1,true,uf done (Lib.count s sep+1-j)⟩/\j+Lib.count cur sep=Lib.count s sep/\qt s sep=done++qt cur sep/\cur.length<=s.length) (Lib.count s sep)
  ⟨[],s,rfl,by simp,by simp,by simp,by simp[m],by simp,by simp,by simp[uf],by simp,by simp,zk _⟩ ?_
 rintro j M Y Z hj ⟨done,cur,hd,A,B,C,D,E,d,k,hc,hs,hl⟩;have f:∀Y Z,zn false [] (WV E8 fun _ _=>True) [str cur,str sep] Y Z=some (int (Lib.index cur sep),Y,Z):=fun Y Z=>Ka cur sep Y Z (by unfold qg;omega) (by unfold qg;omega)
 by_cases p:j<Lib.count s sep
 ·have N:Lib.index cur sep≠-1:=fun e=>by have:=Lib.count_miss e;omega
  have q:0<=Lib.index cur sep:=by
   rcases Lib.index_spec cur sep with⟨h,_⟩|⟨i,h,_⟩
   ·exact absurd h N
   ·omega
  obtain⟨i,r⟩:∃i:Nat,Lib.index cur sep=i:=⟨(Lib.index cur sep).toNat,by omega⟩;have P:=Lib.index_room cur sep q;rw[r]at P f;have t:=Lib.count_hit b r;have c:qt cur sep=cur.take i::qt (cur.drop (i+sep.length)) sep:=by unfold qt Lib.split;rw[t,ek 1,bH r]
  have Q:¬((i:Int)<0):=by omega
  have R:=wj (i:Int);have S:=wj ((i:Int)+sep.length);have T:=wv j;have U:((i:Int)+sep.length).toNat=i+sep.length:=by omega
  have W:i+sep.length<=cur.length:=by omega
  have X:i<=cur.length:=by omega
  have k8:0<=(i:Int)+sep.length:=by omega
  have k9:j<Lib.count s sep+1:=by omega
  have u:Lib.count s sep+1-j=(Lib.count s sep-j)+1:=by omega
  have g:=B5 done (Lib.count s sep-j);rw[hd]at g;have a:=B4 done (Lib.count s sep-j) (cur.take i);rw[hd]at a;rw[u]at k;simp[A,B,C,D,E,d,k,p,f,Q,R,S,T,U,W,X,k8,k9,g,a];have ht:List.take (cur.length-(i+sep.length)) (List.drop (i+sep.length) cur)=List.drop (i+sep.length) cur:=qi (by simp);rw[ht];exact⟨by omega,done++[cur.take i],by simp[hd],rfl,by omega,by rw[hs,c];simp,by omega⟩
 ·obtain rfl:j=Lib.count s sep:=by omega
  have hz:Lib.count cur sep=0:=by omega
  have c:qt cur sep=[cur]:=by unfold qt Lib.split;rw[hz];rfl
  have u:Lib.count s sep+1-Lib.count s sep=0+1:=by omega
  have g:=B5 done 0;have a:=B4 done 0 cur;rw[hd]at g a;rw[u]at k;simp[A,B,C,D,E,d,k,g,a,w,m,y,z,bD,yZ,f163];rw[hs,c];exact⟨0,⟨by omega,by simp[K2,hd]⟩,by simp[K2,Lf]⟩
noncomputable def FGs:zb->Option (Option Blk):=qW (α:=za×za) (fun a=>[str a.1,str a.2,int 0,int (-1)]) (fun a=>a.1.length<=qg/\a.2.length<=qg/\1<=a.2.length) (fun a=>some (K2 (qt a.1 a.2)))
noncomputable def FSp:zb->Option (Option Blk):=qW (α:=za×za) (fun a=>[str a.1,str a.2]) (fun a=>a.1.length<=qg/\a.2.length<=qg/\1<=a.2.length) (fun a=>some (K2 (qt a.1 a.2)))
theorem zc1:∀a b:za×za,[str a.1,str a.2,int 0,int (-1)]=[str b.1,str b.2,int 0,int (-1)]->a=b:=by rintro⟨c,d⟩ ⟨f,g⟩ e;simp only[zq,qh]at e;rw[yp e.1,yp e.2]
theorem mM:zi prog 163 (jL [] FGs):=
 Yb (fn:=f163) (code:=_) Oa ⟨func163,by kernel_rfl,rfl,by kernel_rfl⟩ [] _ fun args r h=>by obtain⟨⟨a,b⟩,rfl,⟨c,d,e⟩,rfl⟩:=zL h;exact⟨by simp[f163],ph a b c d e⟩
theorem Ud(a b:za)(Y:Hp)(Z:Nat)(c:a.length<=qg)(d:b.length<=qg)(f:1<=b.length):jL [] FGs [str a,str b,int 0,int (-1)] Y Z=some (.own Z 0 (qt a b).length,qf Y Z (some (K2 (qt a b))),Z+1):=by have e:FGs (yR [] [str a,str b,int 0,int (-1)])=some (some (K2 (qt a b))):=qX (V:=fun a:List UInt8×za=>[str a.1,str a.2,int 0,int (-1)]) (a:=(a,b)) zc1 ⟨c,d,f⟩;simp[jL,e,K2]
noncomputable abbrev Csp:Ctx:=qj prog [(163,jL [] FGs)]
theorem zc2:Gd Csp:=qQ mixed ⟨mM,trivial⟩
theorem Wx:zi prog 107 (jL [] FSp):=
 Yb (fn:=f107) (code:=_) zc2 ⟨func107,by kernel_rfl,rfl,by kernel_rfl⟩ [] _ fun args r h=>by
  obtain⟨⟨a,b⟩,rfl,⟨c,d,e⟩,rfl⟩:=zL h;have f:=fun Y Z=>Ud a b Y Z c d e
  exact⟨by simp[f107],cM rfl (by simp[f,bD,K2,f107])⟩
theorem Z2(a b:za)(Y:Hp)(Z:Nat)(c:a.length<=qg)(d:b.length<=qg)(f:1<=b.length):jL [] FSp [str a,str b] Y Z=some (.own Z 0 (qt a b).length,qf Y Z (some (K2 (qt a b))),Z+1):=by have e:FSp (yR [] [str a,str b])=some (some (K2 (qt a b))):=qX (V:=fun a:List UInt8×za=>[str a.1,str a.2]) (a:=(a,b)) E7 ⟨c,d,f⟩;simp[jL,e,K2]
def Kc(c:UInt8):Bool:=pr 48 57 c
def kg(l:za):Bool:=l.all Kc
def yS(l:za):Bool:=!(l==[])&&!(decide (1<l.length)&&l.headD 0==48)&&kg l
def yD(l:za):Bool:=l==[120]||l==[88]||l==[42]
def Kd(c:UInt8):Bool:=pr 97 122 c||pr 65 90 c||pr 48 57 c||c==45
def eT(l:za):Bool:=l.all Kd&&!(l==[])
theorem eU{l:za}{k:Nat}(h:k<l.length):kg (l.drop k)=(Kc l[k]&&kg (l.drop (k+1))):=cS h
theorem rQ{l:za}{k:Nat}(h:k<l.length):(l.drop k).all Kd=(Kd l[k]&&(l.drop (k+1)).all Kd):=cS h
theorem mN(l:za)(i:l.length<=qg):zG C0 f285 [str l]=some (yh (kg l)):=by
 refine zu rfl ?_;unfold qg at i;simp;refine ql (fun k M Y Z=>M 0=str l/\M 5=int l.length/\M 6=int k/\kg l=kg (l.drop k)) l.length ⟨by simp,by simp,by simp,by simp⟩ ?_;rintro k M Y Z m ⟨e,f,g,b⟩;by_cases a:k<l.length
 ·have j:=wv k;rw[eU a]at b;have h:=eP 48 57 l[k];simp only[qu]at h;cases d:Kc l[k]
  ·have b:kg l=false:=by rw[b,d];rfl
   have c:pr 48 57 l[k]=false:=d;simp[e,f,g,a,b,h,c,f285]
  ·have c:pr 48 57 l[k]=true:=d;simp[e,f,g,a,h,c,j];exact⟨a,by rw[b,d];rfl⟩
 ·obtain rfl:k=l.length:=by omega
  have b:kg l=true:=by rw[b,zA];rfl
  simp[e,f,g,b,f285]
theorem WR:zi prog 285 (zn false [] (FS kg)):=
 VG jj func285 false [] fun l Y=>⟨by simp[f285],_,mN l Y,q9 _⟩
noncomputable abbrev Cdg:Ctx:=qj prog [(285,zn false [] (FS kg))]
theorem zc3:AM.Good Cdg (fun g=>[285].contains g):=qx mixed ⟨WR,fun _=>zt _ _,trivial⟩
theorem Fg(l:za)(g:l.length<=qg):zG Cdg f232 [str l]=some (yh (yS l)):=by
 refine zu rfl ?_;have hd:=fun Y Z=>kK kg l Y Z g
 cases l with
 |nil=>simp[yS,f232]
 |cons c l=>
  by_cases b:0<l.length
  ·have a:l≠[]:=by intro e;subst e;simp at b
   have f:(1:Int)<(l.length:Int)+1:=by omega
   by_cases d:c=48
   ·subst d;simp[hd,b,a,f,yS,f232]
   ·have h:((c.toNat:Int)==48)=false:=by rw[w8];intro e;apply d;rw[<-yU];simp;omega
    simp[hd,b,a,d,h,f,yS,f232]
  ·have a:l=[]:=by cases l<;>simp_all
   subst a;simp[hd,yS,f232]
theorem gG:zi prog 232 (zn false [] (FS yS)):=
 VG zc3 func232 false [] fun l Y=>⟨by simp[f232],_,Fg l Y,q9 _⟩
theorem Lg(l:za):zG C0 f138 [str l]=some (yh (yD l)):=by
 refine zu rfl ?_;cases a:(l==[120])
 ·cases b:(l==[88])
  ·simp[a,b,yD,f138]
  ·simp[a,b,yD,f138]
 ·simp[a,yD,f138]
theorem mO:zi prog 138 (zn false [] (FS yD)):=
 VG jj func138 false [] fun l Y=>⟨by simp[f138],_,Lg l,q9 _⟩
def QZ(l:za):Int:=((Lib.decNat l).getD 0:Nat)
theorem Qs:∀(l:za) (a:Nat),kg l=true->∃n,Lib.decFrom a l=some n/\n<(a+1)*10 ^ l.length
 |[],a,_=>⟨a,rfl,by simp⟩
 |c::l,a,h=>by
  simp only[kg,wZ,zD]at h;have b:48<=c.toNat/\c.toNat<=57:=by have:=h.1;simpa[Kc,pr]using this
  obtain⟨n,d,e⟩:=Qs l (a*10+(c.toNat-48)) h.2;refine⟨n,?_,?_⟩
  ·simp only[Lib.decFrom,Lib.digitVal,b,and_self,zK];exact d
  ·have f:a*10+(c.toNat-48)+1<=(a+1)*10:=by omega
   calc n<(a*10+(c.toNat-48)+1)*10 ^ l.length:=e
    _<=(a+1)*10*10 ^ l.length:=z7 _ f
    _=(a+1)*10 ^ (c::l).length:=by rw[zd,eu,MP,Yi 10]
theorem mS{l:za}(h:yS l=true):l≠[]/\kg l=true:=by simp only[yS,zD]at h;exact⟨by intro e;subst e;simp at h,h.2⟩
theorem Fh{l:za}(h:yS l=true):Lib.atoi l=some (QZ l):=by
 obtain⟨a,b⟩:=mS h;obtain⟨n,i,_⟩:=Qs l 0 b;have f:Lib.decNat l=some n:=by unfold Lib.decNat;rw[zf (by simpa using a)];exact i
 cases l with
 |nil=>exact absurd rfl a
 |cons c l=>
  have k:48<=c.toNat/\c.toNat<=57:=by have:=b;simp only[kg,wZ,zD]at this;simpa[Kc,pr]using this.1
  have j:QZ (c::l)=n:=by unfold QZ;rw[f];rfl
  rw[j];have g:∀d:UInt8,d.toNat<48->(c==d)=false:=fun d hd=>by rw[w8];intro e;subst e;omega
  unfold Lib.atoi;simp only[];rw[g 45 (by decide),g 43 (by decide),f];rfl
noncomputable def FAt:zb->Option O:=qW (α:=za) (fun l=>[str l]) (fun l=>l.length<=18/\yS l=true) (fun l=>.wL [int (QZ l),.v .nilIface])
theorem B6{dr:Prop}(w:World)(e:TypeId)(s:ByteArray):Fr dr w (fun _=>False) (Lib.bytesWorld w e s):=by
 have d:∀(b:World) (a:Addr) (n k:Nat),k≠a.block->(b.freeze a n).heap[k]?=b.heap[k]?:=by
  intro b a n k c;unfold World.freeze;split
  ·rfl
  ·simp[ZT,Ne.symm c]
 have f:∀(b:World) (a:Addr) (n:Nat),(b.freeze a n).heap.size=b.heap.size:=by intro b a n;unfold World.freeze;split<;>simp
 unfold Lib.bytesWorld;refine⟨rfl,rfl,rfl,?_,?_,fun k c _=>?_⟩
 ·rw[f];simp
 ·exact fun _=>jS _
 ·rw[d _ _ _ k (by simpa using Nat.ne_of_lt c)];exact(Below.heap_alloc w.drew _ k c)
@[simp]theorem SE(M:Nat->O):AM.get M (.const .nilIface)=some (.v .nilIface):=rfl
theorem mT:zi prog 157 (zn false [] FAt):=
 j5 ⟨_,func157,by kernel_rfl,by kernel_rfl⟩ fun args r h=>by
  obtain⟨l,rfl,⟨c,d⟩,rfl⟩:=zL h;refine⟨[.string ⟨l.toArray⟩],rfl,by simp[lit],rfl,.tuple #[.int .i64 (QZ l),.nilIface],fun w S=>.wL rfl fun j g u a b=>?_,fun w S _=>?_⟩
  ·match j,a,b with
   | 0,a,b=>simp at a b;subst a;subst b;exact .v rfl
   | 1,a,b=>simp at a b;subst a;subst b;exact .v rfl
   |j+2,a,b=>simp at a
  refine(Any.strconv_Atoi Tryz.Ip ⟨l.toArray⟩ (QZ l) (by simpa using c) (by simpa using Fh d) w).mono fun e i f=>?_
  obtain⟨rfl,t,rfl⟩:=f;exact⟨rfl,B6 _ _ _⟩
theorem rR(l:za)(Y:Hp)(Z:Nat)(c:l.length<=18)(d:yS l=true):zn false [] FAt [str l] Y Z=some (.wL [int (QZ l),.v .nilIface],Y,Z):=
 iX l _ _ rfl (fun a b e=>by simp only[zq,qh]at e;exact yp e) ⟨c,d⟩ (.inl rfl)
def xC(l:za):Option Int:=if yS l=true/\l.length<=6 then some (QZ l)else none
def Jt(l:za):O:=.wL [int ((xC l).getD 0),yh (xC l).isSome]
noncomputable def M0 (f:za->O):zb->Option O:=qW (α:=za) (fun l=>[str l]) (fun l=>l.length<=qg) f
theorem c7(f:za->O)(l:za)(Y:Hp)(Z:Nat)(h:l.length<=qg)(c:(f l).flat=true):zn false [] (M0 f) [str l] Y Z=some (f l,Y,Z):=
 iX l _ _ rfl (fun a b e=>by simp only[zq,qh]at e;exact yp e) h (.inl c)
noncomputable abbrev Cvn:Ctx:=qj prog [(232,zn false [] (FS yS)),(157,zn false [] FAt)]
theorem zc4:AM.Good Cvn (fun g=>[232].contains g):=qx mixed ⟨gG,fun _=>zt _ _,mT,fun _=>zt _ _,trivial⟩
theorem bI(l:za)(f:l.length<=qg):zG Cvn f192 [str l]=some (Jt l):=by
 refine zu rfl ?_;have b:=fun Y Z=>kK yS l Y Z f
 cases a:yS l
 ·simp[b,a,Jt,xC,yx,f192]
 ·by_cases e:l.length<=6
  ·have c:¬((6:Int)<l.length):=by omega
   have g:=fun Y Z=>rR l Y Z (by omega) a
   simp[b,a,e,c,g,GY,Jt,xC,yx,f192]
  ·have c:(6:Int)<l.length:=by omega
   have d:6<l.length:=by omega
   simp[b,a,e,d,c,Jt,xC,yx,f192]
theorem WX:zi prog 192 (zn false [] (M0 Jt)):=
 VG zc4 func192 false [] fun l Y=>⟨by simp[f192],_,bI l Y,q9 _⟩
@[simp]theorem zfe(P:Program)(Y:Hp)(t:TypeId)(id a b:Nat)(k:IntKind)(i:Int)(h:y2 P t=none):qS P Y t (.ref id a b) (.v (.int k i))=(A7 P t).bind fun c=>(qY P c.2).bind fun n=>if 0<=i/\i<c.1 then some (.ref id a (b+i.toNat*n))else none:=by
 simp only[qS,h,x4];cases A7 P t with
 |none=>rfl
 |some c=>obtain⟨m,e⟩:=c;simp only[zW];cases qY P e<;>rfl
@[simp]theorem zff(P:Program)(Y:Hp)(t:TypeId)(cs:zb)(k:IntKind)(i:Int)(h:y2 P t=none):qS P Y t (.ptr cs) (.v (.int k i))=(A7 P t).bind fun a=>(qY P a.2).bind fun n=>if 0<=i/\i<a.1 then some (.ptr (cs.drop (i.toNat*n)))else none:=by
 simp only[qS,h,x4];cases A7 P t with
 |none=>rfl
 |some a=>obtain⟨m,e⟩:=a;simp only[zW];cases qY P e<;>rfl
@[simp]theorem wrl0:i6.wrap 0=0:=wU (by decide) (by decide)
@[simp]theorem wrl1:i6.wrap 1=1:=wU (by decide) (by decide)
@[simp]theorem wrl2:i6.wrap 2=2:=wU (by decide) (by decide)
@[simp]theorem wrl3:i6.wrap 3=3:=wU (by decide) (by decide)
theorem Fi(l:za)(h:l.length<=qg):zG C0 f284 [str l]=some (yh (eT l)):=by
 refine zu rfl ?_;unfold qg at h;simp;refine ql (fun k M Y Z=>M 0=str l/\M 6=int l.length/\M 7=int k/\l.all Kd=(l.drop k).all Kd) l.length ⟨by simp,by simp,by simp,by simp⟩ ?_;rintro k M Y Z m ⟨e,f,g,b⟩;by_cases a:k<l.length
 ·have i:=wv k;rw[rQ a]at b;have c:(decide ((97:Int)<=l[k].toNat)&&decide ((l[k].toNat:Int)<=122)||decide ((65:Int)<=l[k].toNat)&&decide ((l[k].toNat:Int)<=90)||decide ((48:Int)<=l[k].toNat)&&decide ((l[k].toNat:Int)<=57)||((l[k].toNat:Int)==45))=Kd l[k]:=by
   have j:((l[k].toNat:Int)==45)=(l[k]==45):=by rw[q6];simp[<-yU];omega
   rw[j,q6];simp[Kd,pr,<-yU];omega
  cases d:Kd l[k]
  ·have b:l.all Kd=false:=by rw[b,d];rfl
   rw[d]at c;simp[e,f,g,a,c,eT,b,-List.all_eq_true,-List.all_eq_false,f284]
  ·rw[d]at c;simp[e,f,g,a,c,i,-List.all_eq_true,-List.all_eq_false];exact⟨a,by rw[b,d];rfl⟩
 ·obtain rfl:k=l.length:=by omega
  have b:l.all Kd=true:=by rw[b,zA];rfl
  simp[e,f,g,b,eT,-List.all_eq_true,f284]
theorem B7:zi prog 284 (zn false [] (FS eT)):=
 VG jj func284 false [] fun l Y=>⟨by simp[f284],_,Fi l Y,q9 _⟩
theorem pj:zi prog 283 (zn false [] (F3 v7)):=
 y3 (fn:=f283) jj (wc func283) false [] _ fun args r h=>by obtain⟨a,b,c,rfl,rfl⟩:=E0 h;exact⟨by simp[f283],_,zu rfl (by simp[f283,v7]),q9 _⟩
structure yC where
 a:Int
 b:Int
 c:Int
 pre:List (List UInt8)
def qJ(l:List za):List zb:=l.map fun p=>[str p]
theorem v8{a b:List za}(h:qJ a=qJ b):a=b:=Yc (fun x y e=>by simp only[zq,qh]at e;exact yp e) h
@[simp]theorem zbU(l:List za):(qJ l).length=l.length:=by simp[qJ]
@[simp]theorem Oi:qJ []=[]:=rfl
@[simp]theorem Lh(l:List za):(qJ l).take l.length=qJ l:=qi (by simp)
@[simp]theorem X8(p:za)(l:List za):qJ (p::l)=[str p]::qJ l:=rfl
@[simp]theorem zh5(l:List za):K2 l=⟨9,1,true,qJ l⟩:=rfl
@[simp]theorem zh6{l:List za}{k:Nat}(h:k<(qJ l).length):(qJ l)[k]=[str (l[k]'(by simpa using h))]:=by simp[qJ]
theorem Xj{l:List za}{k:Nat}(h:k<l.length):(qJ l)[k]?=some [str l[k]]:=by simp[qJ,h]
def yC.V(v:yC):zb:=[int v.a,int v.b,int v.c,.sl 1 (qJ v.pre)]
theorem Ke{a b:yC}(h:a.V=b.V):a=b:=by
 cases a;cases b;simp only[yC.V,zq,qh]at h;obtain⟨d,e,f,c⟩:=h;injection c with _ c
 rw[qA d,qA e,qA f,v8 c]
abbrev vd:List (Option Nat):=[none,none,none,some 1]
def yC.small(v:yC):Prop:=v.pre.length<=qg/\∀p∈v.pre,p.length<=qg
def yA(p:za):Bool:=decide (20<p.length)||!eT p||(kg p&&!yS p)
def Jf(v:yC):Int:=if v7 v.a 0 999999=true/\v7 v.b 0 999999=true/\v7 v.c 0 999999=true then(if 10<v.pre.length then 2 else if v.pre.any yA then 3 else 0)else 1
noncomputable def FVr (f:yC->O):zb->Option O:=qW (α:=yC) (fun v=>[.agg v.V]) yC.small f
theorem B8(f:yC->O)(v:yC)(x:O)(Y Y1:Hp)(Z:Nat)(y:O)(d:zH Y [x]=some ([y],Y1))(i:(Sh.g vd).fix y=.agg v.V)(h:v.small)(c:(f v).flat=true):qK [.g vd] (FVr f) [x] Y Z=some (f v,Y,Z):=by
 have e:FVr f (cX [.g vd] (yR [] [y]))=some (f v):=by show FVr f [(Sh.g vd).fix y]=_;rw[i];exact qX (V:=fun v:yC=>[O.agg v.V]) (a:=v) (fun a b e=>by simp only[zq,qh]at e;injection e with e;exact Ke e) h
 unfold qK zn;simp only[d,e,c,true_or,zK]
noncomputable abbrev Oj:Ctx:=qj prog [(283,zn false [] (F3 v7)),(284,zn false [] (FS eT)),(285,zn false [] (FS kg)),(232,zn false [] (FS yS))]
theorem Ue:AM.Good Oj (fun g=>[283,284,285,232].contains g):=qx mixed ⟨pj,fun _=>zt _ _,B7,fun _=>zt _ _,WR,fun _=>zt _ _,gG,fun _=>zt _ _,trivial⟩
@[simp]theorem zfg:kY Oj 284:=jo (by rfl) (zt _ _)
@[simp]theorem zfh:kY Oj 285:=jo (by rfl) (zt _ _)
@[simp]theorem zfi:kY Oj 232:=jo (by rfl) (zt _ _)
theorem c9(v:yC)(h:v.small):zG Oj f231 [.agg v.V]=some (int (Jf v)):=by
 obtain⟨a,b,c,pre⟩:=v;obtain⟨w,o⟩:=h;simp only at w o;unfold qg at w;refine zu rfl ?_;simp[yC.V,zs,zF,zr];rw[zJ];cases n:v7 a 0 999999
 ·simp[n,Jf,f231]
 simp[n];rw[zJ];cases p:v7 b 0 999999
 ·simp[n,p,Jf,f231]
 simp[p];rw[zJ];cases q:v7 c 0 999999
 ·simp[n,p,q,Jf,f231]
 simp[q];rw[zJ];simp;by_cases s:10<pre.length
 ·have g:(10:Int)<pre.length:=by omega
  simp[n,p,q,s,g,Jf,f231]
 have g:¬(10:Int)<pre.length:=by omega
 simp[s,g];have t:Jf ⟨a,b,c,pre⟩=if pre.any yA then 3 else 0:=by simp[Jf,n,p,q,s]
 rw[t];refine ql (fun k M Y Z=>M 28=.sl 1 (qJ pre)/\M 29=int pre.length/\M 30=int k/\pre.any yA=(pre.drop k).any yA) pre.length ⟨by simp,by simp,by simp,by simp⟩ ?_;rintro k M Y Z B ⟨i,j,l,f⟩;by_cases d:k<pre.length
 ·have C:=wv k;have x:=Xj d;rw[zl d,kV]at f;have m:=o _ (zw d);have y:=fun Y Z=>kK eT pre[k] Y Z m
  have z:=fun Y Z=>kK kg pre[k] Y Z m
  have A:=fun Y Z=>kK yS pre[k] Y Z m
  have u:yA pre[k]=(decide (20<pre[k].length)||!eT pre[k]||(kg pre[k]&&!yS pre[k])):=rfl;have e:(decide ((20:Int)<pre[k].length)||!eT pre[k]||kg pre[k]&&!yS pre[k])=yA pre[k]:=by rw[u];congr 2;rw[q6];simp;omega
  cases r:yA pre[k]
  ·rw[r]at e;simp[i,j,l,d,x,y,z,A,e,C];exact⟨d,by rw[f,r];rfl⟩
  ·rw[r]at e;have f:pre.any yA=true:=by rw[f,r];rfl
   simp[i,j,l,d,x,y,z,A,e,f,-List.any_eq_true,f231]
 ·obtain rfl:k=pre.length:=by omega
  have f:pre.any yA=false:=by rw[f,zA];rfl
  simp[i,j,l,f,-List.any_eq_false,f231]
theorem Uf{f:yC->O}{args:zb}{r:O}(h:FVr f args=some r):∃v:yC,args=[.agg v.V]/\v.small/\r=f v:=zL h
theorem bJ:zi prog 231 (qK [.g vd] (FVr fun v=>int (Jf v))):=
 yf (fn:=f231) Ue (wc func231) _ _ fun args r h=>by obtain⟨v,rfl,a,rfl⟩:=Uf h;exact⟨by simp[f231],_,c9 v a,wW.refl _⟩
theorem mU(sep:za):∀(k:Nat) (s p:za),p∈Lib.splitK sep 0 k s->p.length<=s.length
 | 0,s,p,h=>by simp[Lib.splitK]at h;rw[h];exact zk _
 |k+1,s,p,h=>by
  unfold Lib.splitK at h;split at h
  ·simp at h;rw[h];exact zk _
  ·rcases zv.1 h with rfl|h
   ·simp;omega
   ·have:=mU sep k _ p h;simp at this;omega
theorem mV(sep:za):∀(k:Nat) (s:za),(Lib.splitK sep 0 k s).length<=k+1
 | 0,s=>by simp[Lib.splitK]
 |k+1,s=>by
  unfold Lib.splitK;split
  ·simp
  ·have:=mV sep k (s.drop ((Lib.index s sep).toNat+sep.length));simp;omega
theorem vV{s sep p:za}(h:p∈qt s sep):p.length<=s.length:=mU _ _ _ _ h
theorem xP{s sep:za}(h:sep≠[]):(qt s sep).length<=s.length+1:=by have a:=mV sep (Lib.count s sep) s;have b:=rP (s:=s) h;exact z8 a (by omega)
theorem Ol(s sep:za):(Lib.cut s sep).1.length<=s.length/\(Lib.cut s sep).2.1.length<=s.length:=by
 unfold Lib.cut;split
 ·simp;omega
 ·simp
noncomputable def aF (f:za->O):zb->Option O:=qW (α:=za) (fun l=>[str l]) (fun l=>l.length+1<=qg) f
theorem Zd(f:za->O)(l:za)(Y:Hp)(Z:Nat)(h:l.length+1<=qg):zn false [] (aF f) [str l] Y Z=some (f l,Y,Z):=
 iX l _ _ rfl (fun a b e=>by simp only[zq,qh]at e;exact yp e) h (.inr (by simp))
def cv:yC:=⟨0,0,0,[]⟩
def xa(t:za):List za:=if(Lib.cut t [45]).2.2 then qt (Lib.cut t [45]).2.1 [46]else[]
def ug(t:za):Option yC:=match qt (Lib.cut t [45]).1 [46]with
 |[d,e,f]=>match xC d,xC e,xC f with
  |some a,some b,some c=>if Jf ⟨a,b,c,xa t⟩=0 then some ⟨a,b,c,xa t⟩else none
  |_,_,_=>none
 |_=>none
def Ho(t:za):O:=match ug t with
 |some v=>.wL [.agg v.V,int 0]
 |none=>.wL [.agg cv.V,int 10]
noncomputable abbrev Crv:Ctx:=qj prog [(219,zn false [] (WV pg fun _ _=>True)),(107,jL [] FSp),(192,zn false [] (M0 Jt)),(231,qK [.g vd] (FVr fun v=>int (Jf v)))]
theorem zc5:Gd Crv:=qQ mixed ⟨mG,Wx,WX,bJ,trivial⟩
theorem X9(l:za)(Y:Hp)(Z:Nat)(h:l.length<=qg):zn false [] (M0 Jt) [str l] Y Z=some (.wL [int ((xC l).getD 0),yh (xC l).isSome],Y,Z):=c7 Jt l Y Z h rfl
theorem zbV{α:Type}{l:List α}(h:l.length=3):∃a b c,l=[a,b,c]:=by
 match l,h with
 |[a,b,c],_=>exact⟨a,b,c,rfl⟩
theorem eV(t:za)(N:t.length+1<=qg):∃r0,zG Crv f191 [str t]=some r0/\wW r0 (Ho t):=by
 refine y6 (sh:=.g vd) rfl ?_;have I:=Ol t [45];have m:=fun Y Z=>mF t [45] Y Z (by omega) (by decide)
 have r:=fun Y Z=>Z2 (Lib.cut t [45]).1 [46] Y Z (by omega) (by decide) (by decide)
 have o:=fun Y Z=>Z2 (Lib.cut t [45]).2.1 [46] Y Z (by omega) (by decide) (by decide)
 have h:∀p∈qt (Lib.cut t [45]).1 [46],p.length<=qg:=fun p Y=>by have:=vV Y;omega
 have A:∀p∈qt (Lib.cut t [45]).2.1 [46],p.length<=qg:=fun p Y=>by have:=vV Y;omega
 have B:(qt (Lib.cut t [45]).2.1 [46]).length<=qg:=by have:=xP (s:=(Lib.cut t [45]).2.1) (sep:=[46]) (by simp);omega
 by_cases y:(qt (Lib.cut t [45]).1 [46]).length=3
 ·obtain⟨C,D,E,d⟩:=zbV y;rw[d]at r h;have i:=fun Y Z=>X9 C Y Z (h C (by simp))
  have j:=fun Y Z=>X9 D Y Z (h D (by simp))
  have k:=fun Y Z=>X9 E Y Z (h E (by simp))
  simp[m,r];rw[zJ];cases l:xC C with
  |none=>rw[l]at i;simp[i,Ho,ug,d,l,zI,qe,qy,cv,yC.V,f191]
  |some a=>
   rw[l]at i;simp[i];rw[zJ];cases q:xC D with
   |none=>rw[q]at j;simp[j,Ho,ug,d,l,q,zI,qe,qy,cv,yC.V,f191]
   |some b=>
    rw[q]at j;simp[j];rw[zJ];cases u:xC E with
    |none=>rw[u]at k;simp[k,Ho,ug,d,l,q,u,zI,qe,qy,cv,yC.V,f191]
    |some c=>
     rw[u]at k;simp[k];rw[zJ];simp[zI,qe];have F:(⟨a,b,c,[]⟩:yC).small:=⟨by simp,by simp⟩;have G:(⟨a,b,c,qt (Lib.cut t [45]).2.1 [46]⟩:yC).small:=⟨B,A⟩;cases z:(Lib.cut t [45]).2.2
     ·have f:=fun Y Z=>B8 (fun v=>int (Jf v)) ⟨a,b,c,[]⟩ (.agg [int a,int b,int c,.nil]) Y Y Z _ rfl rfl F rfl
      by_cases w:Jf ⟨a,b,c,[]⟩=0
      ·simp[f,w,Ho,ug,xa,d,l,q,u,z,qy,yC.V,f191]
      ·have x:=VF w;simp[f,w,x,Ho,ug,xa,d,l,q,u,z,zI,qe,qy,cv,yC.V,f191]
     ·have f:∀(Y:Hp) (Z id n:Nat),Y id=some ⟨9,1,true,qJ (qt (Lib.cut t [45]).2.1 [46])⟩->n=(qt (Lib.cut t [45]).2.1 [46]).length->qK [.g vd] (FVr fun v=>int (Jf v)) [.agg [int a,int b,int c,.own id 0 n]] Y Z=some (int (Jf ⟨a,b,c,qt (Lib.cut t [45]).2.1 [46]⟩),Y,Z):=by intro Y Z id n J K;subst K;exact B8 (fun v=>int (Jf v)) ⟨a,b,c,qt (Lib.cut t [45]).2.1 [46]⟩ _ Y (qf Y id none) Z (.agg [int a,int b,int c,.sl 1 (qJ (qt (Lib.cut t [45]).2.1 [46]))]) (by simp[J]) rfl G rfl
      by_cases w:Jf ⟨a,b,c,qt (Lib.cut t [45]).2.1 [46]⟩=0
      ·simp[o,f,w,Ho,ug,xa,d,l,q,u,z,qy,yC.V,f191]
      ·have x:=VF w;simp[o,f,w,x,Ho,ug,xa,d,l,q,u,z,zI,qe,qy,cv,yC.V,f191]
 ·have H:(((qt (Lib.cut t [45]).1 [46]).length:Int) != 3)=true:=by simp;omega
  have L:ug t=none:=by
   unfold ug;split
   ·rename_i e;rw[e]at y;simp at y
   ·rfl
  simp[m,r,H,y,Ho,L,zI,qe,qy,cv,yC.V,f191]
theorem da:zi prog 191 (zn false [] (aF Ho)):=
 Js (fn:=f191) zc5 (wc func191) false [] _ fun args r h w S vs a=>by obtain⟨l,rfl,Y,rfl⟩:=zL h;obtain⟨r0,b,c⟩:=eV l Y;exact⟨_,r0,a,by simp[f191],b,c⟩
structure Part where
 n0:Int
 n1:Int
 n2:Int
 has:Int
 pre:List (List UInt8)
def Part.V(p:Part):zb:=[int p.n0,int p.n1,int p.n2,int p.has,.sl 1 (qJ p.pre)]
abbrev Xk:List (Option Nat):=[none,none,none,none,some 1]
def wz:Part:=⟨0,0,0,0,[]⟩
def Part.put(p:Part)(i:Nat)(n:Int):Part:=match i with
 | 0=>{p with n0:=n,has:=p.has+1}
 | 1=>{p with n1:=n,has:=p.has+1}
 |_=>{p with n2:=n,has:=p.has+1}
def w6(p:Part)(i:Nat)(t:za):Option Part:=if(xC t).isSome=true/\p.has=i then some (p.put i ((xC t).getD 0))else if yD t=true/\i≠0 then some p else none
def yy:Part->Nat->List za->Option Part
 |p,_,[]=>some p
 |p,i,t::l=>match w6 p i t with
  |some q=>yy q (i+1) l
  |none=>none
def zP(t:za):Part×Bool:=if Lib.contains t [45]=true then(match ug t with
    |some v=>(⟨v.a,v.b,v.c,3,v.pre⟩,true)
    |none=>(⟨0,0,0,3,[]⟩,false))
 else if 3<(qt t [46]).length then(wz,false)else match yy wz 0 (qt t [46])with
  |some p=>(p,true)
  |none=>(wz,false)
def j6(t:za):O:=.wL [.agg (zP t).1.V,yh (zP t).2]
noncomputable abbrev Crpv:Ctx:=qj prog [(190,zn false [] (WV T6 fun _ _=>True)),(191,zn false [] (aF Ho)),(107,jL [] FSp),(192,zn false [] (M0 Jt)),(138,zn false [] (FS yD))]
theorem zc6:AM.Good Crpv (fun g=>[138].contains g):=qx mixed ⟨mE,by simp,da,by simp,Wx,by simp,WX,by simp,mO,fun _=>zt _ _,trivial⟩
theorem Om(a b:za)(Y:Hp)(Z:Nat)(h:a.length<=qg)(c:b.length<=qg):zn false [] (WV T6 fun _ _=>True) [str a,str b] Y Z=some (yh (Lib.contains a b),Y,Z):=Zz _ _ a b Y Z h c trivial rfl
def Part.raw(p:Part):zb:=[int p.n0,int p.n1,int p.n2,int p.has,.nil]
theorem pk{p:Part}{k:Nat}{l:List za}(h:k<l.length):yy p k (l.drop k)=match w6 p k l[k]with
  |some q=>yy q (k+1) (l.drop (k+1))
  |none=>none:=by
 rw[zl h];rfl
theorem eW(t:za)(U:t.length+1<=qg):∃r0,zG Crpv f136 [str t]=some r0/\wW r0 (j6 t):=by
 refine y6 (sh:=.g Xk) rfl ?_;have B:=fun Y Z=>Om t [45] Y Z (by omega) (by decide)
 cases I:Lib.contains t [45]
 ·have J:=fun Y Z=>Z2 t [46] Y Z (by omega) (by decide) (by decide)
  have E:∀p∈qt t [46],p.length<=qg:=fun p Y=>by have:=vV Y;omega
  by_cases N:3<(qt t [46]).length
  ·have F:(3:Int)<(qt t [46]).length:=by omega
   simp[B,I,J,N,F,j6,zP,zI,qe,qy,wz,Part.V,f136]
  have F:¬(3:Int)<(qt t [46]).length:=by omega
  simp[B,I,J,N,F];obtain⟨l,P⟩:=wM (qt t [46]);rw[P]at E N;have e:zP t=match yy wz 0 l with
   |some p=>(p,true)
   |none=>(wz,false):=by
   unfold zP;rw[zf (by rw[I];simp),P,zf N]
   try rfl
  simp only[P];refine ql (fun k M Y Z=>∃p:Part,p.pre=[]/\M 2=.ref 0 0 0/\M 7=.ref 2 0 0/\M 37=.own 1 0 l.length/\M 38=int l.length/\M 39=int k/\p.has<=k/\0<=p.has /\
    Y 0=some ⟨103,5,false,[wz.raw]⟩/\Y 1=some ⟨9,1,true,qJ l⟩/\Y 2=some ⟨103,5,false,[p.raw]⟩/\yy wz 0 l=yy p k (l.drop k)) l.length
   ⟨wz,rfl,by simp,by simp,by simp,by simp,by simp,by simp[wz],by simp[wz],by simp[wz,Part.raw],by simp,by simp[wz,Part.raw],by simp⟩ ?_
  rintro k M Y Z W ⟨p,G,w,x,f,h,i,Q,H,y,z,A,j⟩;by_cases b:k<l.length
  ·have C:=fun Y Z=>X9 l[k] Y Z (E _ (zw b))
   have D:=fun Y Z=>kK yD l[k] Y Z (E _ (zw b))
   have K:=wv k;have R:=wj (p.has+1);rw[pk b]at j;have S:k=0\/k=1\/k=2:=by omega
   obtain⟨r,n1,s,a,pre⟩:=p;simp only at G Q H R;subst G;cases q:(xC l[k]).isSome
   ·cases c:yD l[k]
    ·have hs:w6 ⟨r,n1,s,a,[]⟩ k l[k]=none:=by simp[w6,q,c]
     rw[hs]at j;rw[j]at e;simp[w,x,f,h,i,y,z,A,b,C,D,q,c,j6,e,zI,qe,qy,wz,Part.raw,Part.V,f136]
    ·by_cases m:k=0
     ·subst m;have hs:w6 ⟨r,n1,s,a,[]⟩ 0 l[0]=none:=by simp[w6,q]
      rw[hs]at j;rw[j]at e;simp[w,x,f,h,i,y,z,A,b,C,D,q,c,j6,e,zI,qe,qy,wz,Part.raw,Part.V,f136]
     ·have hs:w6 ⟨r,n1,s,a,[]⟩ k l[k]=some ⟨r,n1,s,a,[]⟩:=by simp[w6,q,c,m]
      have u:((k:Int)==0)=false:=by simpa using m
      rw[hs]at j;simp[w,x,f,h,i,y,z,A,b,C,D,q,c,K,u,m];exact⟨b,⟨r,n1,s,a,[]⟩,rfl,Int.le_trans Q (by omega),H,rfl,j⟩
   ·by_cases d:a=k
    ·have hs:w6 ⟨r,n1,s,a,[]⟩ k l[k]=some ((⟨r,n1,s,a,[]⟩:Part).put k ((xC l[k]).getD 0)):=by simp[w6,q,d]
     rw[hs]at j;rcases S with rfl|rfl|rfl
     ·obtain rfl:a=0:=by simpa using d
      have n:(0:Int)<(l.length:Int):=by omega
      simp[w,x,f,h,i,y,z,A,b,n,C,D,q,K,Part.raw];refine⟨b,_,?_,?_,?_,?_,(by simpa using j)⟩<;>simp[Part.put]
     ·obtain rfl:a=1:=by simpa using d
      have n:(1:Int)<(l.length:Int):=by omega
      simp[w,x,f,h,i,y,z,A,b,n,C,D,q,K,Part.raw];refine⟨b,_,?_,?_,?_,?_,(by simpa using j)⟩<;>simp[Part.put]
     ·obtain rfl:a=2:=by simpa using d
      have n:(2:Int)<(l.length:Int):=by omega
      simp[w,x,f,h,i,y,z,A,b,n,C,D,q,K,Part.raw];refine⟨b,_,?_,?_,?_,?_,(by simpa using j)⟩<;>simp[Part.put]
    ·cases c:yD l[k]
     ·have hs:w6 ⟨r,n1,s,a,[]⟩ k l[k]=none:=by simp[w6,q,c,d]
      have o:(a==(k:Int))=false:=by simpa using d
      rw[hs]at j;rw[j]at e;simp[w,x,f,h,i,y,z,A,b,C,D,q,c,o,j6,e,zI,qe,qy,wz,Part.raw,Part.V,f136]
     ·by_cases m:k=0
      ·subst m;have hs:w6 ⟨r,n1,s,a,[]⟩ 0 l[0]=none:=by simp[w6,d];intro _;exact d
       have o:(a==0)=false:=by simpa using d
       rw[hs]at j;rw[j]at e;simp[w,x,f,h,i,y,z,A,b,C,D,q,c,o,j6,e,zI,qe,qy,wz,Part.raw,Part.V,f136]
      ·have hs:w6 ⟨r,n1,s,a,[]⟩ k l[k]=some ⟨r,n1,s,a,[]⟩:=by simp[w6,q,c,m,d]
       have u:((k:Int)==0)=false:=by simpa using m
       have o:(a==(k:Int))=false:=by simpa using d
       rw[hs]at j;simp[w,x,f,h,i,y,z,A,b,C,D,q,c,K,u,m,o,Part.raw];exact⟨b,⟨r,n1,s,a,[]⟩,rfl,Int.le_trans Q (by omega),H,⟨rfl,rfl,rfl,rfl⟩,j⟩
  ·obtain rfl:k=l.length:=by omega
   rw[zA]at j;simp only[yy]at j;rw[j]at e;simp[w,x,f,h,i,y,z,A,j6,e,G,qy,Part.raw,Part.V,f136]
 ·have L:=fun Y Z=>Zd Ho t Y Z U
  cases T:ug t with
  |none=>simp[B,I,L,Ho,T,j6,zP,zI,qe,qy,cv,yC.V,Part.V,f136]
  |some v=>simp[B,I,L,Ho,T,j6,zP,zI,qe,qy,yC.V,Part.V,f136]
theorem db:zi prog 136 (zn false [] (aF j6)):=
 Js (fn:=f136) zc6 (wc func136) false [] _ fun args r h w S vs a=>by obtain⟨l,rfl,Y,rfl⟩:=zL h;obtain⟨r0,b,c⟩:=eW l Y;exact⟨_,r0,a,by simp[f136],b,c⟩
def wI(a b:Int):Int:=if a<b then -1 else if b<a then 1 else 0
def iv(a b:za):Int:=if Op.bytesLess a b then -1 else if Op.bytesLess a b||a==b then 0 else 1
def On(f:Int->Int->Int):zb->Option O
 |[.v (.int .i64 a),.v (.int .i64 b)]=>some (int (f a b))
 |_=>none
theorem Ug{f:Int->Int->Int}{args:zb}{r:O}(h:On f args=some r):∃a b,args=[int a,int b]/\r=int (f a b):=by
 unfold On at h;split at h
 ·injection h with h;exact⟨_,_,rfl,h.symm⟩
 ·cases h
@[simp]theorem zgG(f:Int->Int->Int)(a b:Int)(Y:Hp)(Z:Nat):zn false [] (On f) [.v (.int .i64 a),.v (.int .i64 b)] Y Z=some (int (f a b),Y,Z):=jm rfl rfl (.inl rfl)
def uh:zb->Option O
 |[.v (.int .i64 _)]=>some (yh false)
 |_=>none
def ui:zb->Option O
 |[.v (.string _)]=>some (yh false)
 |_=>none
@[simp]theorem zbW(a:Int)(Y:Hp)(Z:Nat):zn false [] uh [.v (.int .i64 a)] Y Z=some (yh false,Y,Z):=jm rfl rfl (.inl rfl)
@[simp]theorem zbX(a:ByteArray)(Y:Hp)(Z:Nat):zn false [] ui [.v (.string a)] Y Z=some (yh false,Y,Z):=jm rfl rfl (.inl rfl)
theorem uj:zi prog 59 (zn false [] uh):=
 y3 (fn:=f59) jj (wc func59) false [] _ fun args r h=>by
  unfold uh at h;split at h
  ·injection h with h;subst h;exact⟨by simp[f59],_,zu rfl (by simp[f59]),q9 _⟩
  ·cases h
theorem uk:zi prog 60 (zn false [] ui):=
 y3 (fn:=f60) jj (wc func60) false [] _ fun args r h=>by
  unfold ui at h;split at h
  ·injection h with h;subst h;exact⟨by simp[f60],_,zu rfl (by simp[f60]),q9 _⟩
  ·cases h
noncomputable abbrev Cnn:Ctx:=qj prog [(59,zn false [] uh),(60,zn false [] ui)]
theorem Oo:AM.Good Cnn (fun g=>[59,60].contains g):=qx mixed ⟨uj,fun _=>zt _ _,uk,fun _=>zt _ _,trivial⟩
theorem Z3:zi prog 32 (zn false [] (On wI)):=
 y3 (fn:=f32) Oo (wc func32) false [] _ fun args r h=>by
  obtain⟨a,b,rfl,rfl⟩:=Ug h;refine⟨by simp[f32],_,zu rfl ?_,q9 _⟩;unfold wI;by_cases c:a<b
  ·simp[c,f32]
  ·by_cases d:b<a
   ·simp[c,d,f32]
   ·simp[c,d,f32]
noncomputable def M1 (f:za->za->Int):zb->Option O:=qW (α:=za×za) (fun a=>[str a.1,str a.2]) (fun _=>True) (fun a=>int (f a.1 a.2))
@[simp]theorem zgH(f:za->za->Int)(a b:za)(Y:Hp)(Z:Nat):zn false [] (M1 f) [str a,str b] Y Z=some (int (f a b),Y,Z):=
 iX (a,b) _ _ rfl (fun a b e=>by obtain⟨c,d⟩:=a;obtain⟨g,h⟩:=b;simp only[zq,qh]at e;rw[yp e.1,yp e.2]) trivial (.inl rfl)
theorem bK:zi prog 33 (zn false [] (M1 iv)):=
 VG Oo func33 false [] fun⟨a,b⟩ _=>by
  refine⟨by simp[f33],_,zu rfl ?_,q9 _⟩;simp only[iv];cases c:Op.bytesLess a b
  ·cases d:(a==b)
   ·simp[c,d,f33]
   ·simp[c,d,f33]
  ·simp[c,f33]
theorem Xl:∀a:za,Op.bytesLess a a=false
 |[]=>rfl
 |c::a=>by simp[Op.bytesLess,Xl a]
@[simp]theorem zfj(a:za):iv a a=0:=by simp[iv,Xl]
@[simp]theorem zfk(a:Int):wI a a=0:=by simp[wI]
noncomputable def FVV (out:Val->O) (n:Nat):zb->Option O:=qW (α:=Val) (fun v=>[.agg v.V,.agg v.V]) (fun v=>v.vb<=qg/\v.vb<=n) out
theorem mW(out:Val->O)(n:Nat)(v:Val)(Y:Hp)(Z:Nat)(h:v.vb<=qg/\v.vb<=n):zn false [] (FVV out n) [.agg v.V,.agg v.V] Y Z=some (out v,Y,Z):=
 jm (Y1:=Y) (show zH Y [.agg v.V,.agg v.V]=some ([.agg v.V,.agg v.V],Y) by simp only[zH,YG])
  (qX (V:=fun v:Val=>[O.agg v.V,O.agg v.V]) (a:=v) (fun a b e=>by simp only[zq,qh,O.agg.injEq]at e;exact xq e.1) h) (.inr (by simp only[wZ,Ym,er,zi9]))
noncomputable abbrev Ccs (n:Nat):Ctx:=qj prog [(15,zn false [] (FVV (fun _=>int 0) n)),(32,zn false [] (On wI)),(33,zn false [] (M1 iv))]
theorem um(n:Nat)(v:Val)(h:v.vb<=qg/\v.vb<=n+1):zG (Ccs n) f15 [.agg v.V,.agg v.V]=some (int 0):=by
 have r:=kv v;have s:=yT v.items;have t:=kC v.fields;obtain⟨u,D⟩:=h;unfold qg at u;refine zu rfl ?_;by_cases l:v.kind=1
 ·simp[l,f15]
 by_cases m:v.kind=2
 ·simp[m,f15]
 by_cases o:v.kind=3
 ·simp[o,f15]
 by_cases p:v.kind=4
 ·simp[p];refine ql (fun k M Y Z=>M 2=.ref 0 0 0/\M 3=.ref 1 0 0/\M 43=int v.items.length/\M 44=int k/\Y 0=some ⟨43,5,false,[v.V]⟩/\Y 1=some ⟨43,5,false,[v.V]⟩) v.items.length
   ⟨by simp,by simp,by simp,by simp,by simp,by simp⟩ ?_
  rintro k M Y Z w ⟨e,f,c,d,g,i⟩;by_cases a:k<v.items.length
  ·have x:=jZ (zw a);have j:=wv k;have b:=fun Y Z=>mW (fun _=>int 0) n v.items[k] Y Z ⟨by unfold qg;omega,by omega⟩
   simp[e,f,c,d,g,i,a,b,j];exact a
  ·obtain rfl:k=v.items.length:=by omega
   simp[e,f,c,d,g,i,f15]
 by_cases q:v.kind=5
 ·simp[q];refine ql (fun k M Y Z=>M 2=.ref 0 0 0/\M 3=.ref 1 0 0/\M 77=int v.fields.length/\M 78=int k/\Y 0=some ⟨43,5,false,[v.V]⟩/\Y 1=some ⟨43,5,false,[v.V]⟩) v.fields.length
   ⟨by simp,by simp,by simp,by simp,by simp,by simp⟩ ?_
  rintro k M Y Z w ⟨e,f,c,d,g,i⟩;by_cases a:k<v.fields.length
  ·have x:=Zb (zw a);have j:=wv k;have b:=fun Y Z=>mW (fun _=>int 0) n v.fields[k].2 Y Z ⟨by unfold qg;omega,by omega⟩
   simp[e,f,c,d,g,i,a,b,j];exact a
  ·obtain rfl:k=v.fields.length:=by omega
   simp[e,f,c,d,g,i,f15]
 have y:=jl l;have z:=jl m;have A:=jl o;have B:=jl p;have C:=jl q;simp[y,z,A,B,C,f15]
theorem Hq{out:Val->O}{n:Nat}{args:zb}{r:O}(h:FVV out n args=some r):∃v:Val,args=[.agg v.V,.agg v.V]/\(v.vb<=qg/\v.vb<=n)/\r=out v:=zL h
theorem pn:∀n,zi prog 15 (zn false [] (FVV (fun _=>int 0) n)):=by
 intro n
 induction n with
 |zero=>
  refine⟨⟨_,func15,by kernel_rfl,by kernel_rfl⟩,fun args Y Z r e f h=>?_⟩;unfold zn at h;split at h
  ·split at h
   ·rename_i r0 b;obtain⟨v,_,a,_⟩:=Hq b;have:=WO v;omega
   ·cases h
  ·cases h
 |succ n c=>
  have d:AM.Good (Ccs n) (fun g=>[15,32,33].contains g):=qx mixed ⟨c,fun _=>zt _ _,Z3,fun _=>zt _ _,bK,fun _=>zt _ _,trivial⟩;exact y3 (fn:=f15) d (wc func15) false [] _ fun args r h=>by obtain⟨v,rfl,a,rfl⟩:=Hq h;exact⟨z8 (zk 2) (by decide),_,um n v a,q9 _⟩
noncomputable abbrev yW:=Lib.compareBytes
theorem iw:zi prog 128 (zn false [] (M1 yW)):=
 tM ⟨_,func128,by kernel_rfl,by kernel_rfl⟩ fun args r h=>by obtain⟨⟨a,b⟩,rfl,_,rfl⟩:=zL h;exact⟨[.string ⟨a.toArray⟩,.string ⟨b.toArray⟩],rfl,by simp[lit],_,rfl,rfl,fun w=>by simpa using Tryz.bytealg_CompareString ⟨a.toArray⟩ ⟨b.toArray⟩ w⟩
noncomputable abbrev Cstr:Ctx:=qj prog [(128,zn false [] (M1 yW))]
theorem Ze:zi prog 82 (zn false [] (M1 yW)):=
 VG (qQ mixed ⟨iw,trivial⟩:AM.Good Cstr _) func82 false [] fun⟨a,b⟩ _=>⟨by simp[f82],_,zu rfl (by simp[f82]),q9 _⟩
def KE:List Int->Int
 |[]=>0
 |n::l=>if n=0 then KE l else n
def bL(l:List Int):List zb:=l.map fun n=>[int n]
@[simp]theorem zbY(l:List Int):(bL l).length=l.length:=by simp[bL]
@[simp]theorem zh7{l:List Int}{k:Nat}(h:k<(bL l).length):(bL l)[k]=[int (l[k]'(by simpa using h))]:=by simp[bL]
theorem Oq{a b:List Int}(h:bL a=bL b):a=b:=Yc (fun x y e=>by simp only[zq,qh]at e;exact qA e) h
noncomputable def M3:zb->Option O:=qW (α:=List Int) (fun l=>[.sl 1 (bL l)]) (fun l=>l.length<=qg) (fun l=>int (KE l))
theorem Uh(l:List Int)(i:l.length<=qg):zG C0 f129 [.sl 1 (bL l)]=some (int (KE l)):=by
 refine zu rfl ?_;unfold qg at i;simp;refine ql (fun k M Y Z=>M 3=int 0/\M 6=.sl 1 (bL l)/\M 7=int l.length/\M 8=int k/\KE l=KE (l.drop k)) l.length ⟨by simp,by simp,by simp,by simp,by simp⟩ ?_;rintro k M Y Z m ⟨d,e,f,g,b⟩;by_cases a:k<l.length
 ·have j:=wv k;rw[zl a]at b;simp only[KE]at b;by_cases c:l[k]=0
  ·rw[zg c]at b;simp[d,e,f,g,a,c,j];exact⟨a,b⟩
  ·rw[zf c]at b;have h:=VF c;simp[d,e,f,g,a,h,b,f129]
 ·obtain rfl:k=l.length:=by omega
  rw[zA]at b;simp[d,e,f,g,b,KE,f129]
theorem Xm:zi prog 129 (zn false [] M3):=
 VG jj func129 false [] fun l Y=>⟨by simp[f129],_,Uh l Y,q9 _⟩
theorem dd(l:List Int)(Y:Hp)(Z id:Nat)(e:Nat)(h:l.length<=qg)(c:Y id=some ⟨e,1,true,bL l⟩):zn false [] M3 [.own id 0 l.length] Y Z=some (int (KE l),Y,Z):=by have d:(bL l).take l.length=bL l:=qi (by simp);refine jm (show zH Y [.own id 0 l.length]=some ([.sl 1 (bL l)],qf Y id none) by simp[c,d]) ?_ (.inl rfl);exact qX (V:=fun l:List Int=>[O.sl 1 (bL l)]) (a:=l) (fun a b e=>by simp only[zq,qh]at e;injection e with _ e;exact Oq e) h
def xv(l:za):Bool:=!l.isEmpty&&kg l
noncomputable def yb (a b:za):Int:=if xv a=true then(if xv b=true then KE [wI (Lib.trimLeftB a 48).length (Lib.trimLeftB b 48).length,yW (Lib.trimLeftB a 48) (Lib.trimLeftB b 48)]else -1)else if xv b=true then 1 else yW a b
noncomputable abbrev Ccp:Ctx:=qj prog [(285,zn false [] (FS kg)),(215,zn false [] (WV tlP fun _ b=>uc b)),(32,zn false [] (On wI)),(82,zn false [] (M1 yW)),(129,zn false [] M3)]
theorem zc7:AM.Good Ccp (fun g=>[285].contains g):=qx mixed ⟨WR,fun _=>zt _ _,YK,by simp,Z3,by simp,Ze,by simp,Xm,by simp,trivial⟩
@[simp]theorem zh8:kY Ccp 285:=jo (by rfl) (zt _ _)
theorem iZ(a:za)(Y:Hp)(Z:Nat)(h:a.length<=qg):zn false [] (WV tlP fun _ b=>uc b) [str a,str [48]] Y Z=some (str (Lib.trimLeftB a 48),Y,Z):=Zz _ _ a [48] Y Z h (by decide) ⟨48,rfl,by decide⟩ rfl
theorem iy(a b:za)(i:a.length<=qg)(j:b.length<=qg):zG Ccp f243 [str a,str b]=some (int (yb a b)):=by
 refine zu rfl ?_;have c:=fun Y Z=>kK kg a Y Z i
 have d:=fun Y Z=>kK kg b Y Z j
 have k:=fun Y Z=>iZ a Y Z i
 have tb:=fun Y Z=>iZ b Y Z j
 have e:(!a.isEmpty&&kg a)=xv a:=rfl;have f:(!b.isEmpty&&kg b)=xv b:=rfl;cases g:xv a<;>cases h:xv b
 ·simp[c,d,e,f,g,h,yb,f243]
 ·simp[c,d,e,f,g,h,yb,f243]
 ·simp[c,d,e,f,g,h,yb,f243]
 ·have l:∀(Y:Hp) (Z id:Nat),Y id=some ⟨3,1,true,[[int (wI (Lib.trimLeftB a 48).length (Lib.trimLeftB b 48).length)],[int (yW (Lib.trimLeftB a 48) (Lib.trimLeftB b 48))]]⟩->zn false [] M3 [.own id 0 2] Y Z=some (int (KE [wI (Lib.trimLeftB a 48).length (Lib.trimLeftB b 48).length,yW (Lib.trimLeftB a 48) (Lib.trimLeftB b 48)]),Y,Z):=fun Y Z id m=>dd [_,_] Y Z id _ (by show 2<=qg;decide) m
  simp[c,d,k,tb,e,f,g,h,l,zs,zF,zr,yb,f243]
theorem eX:zi prog 243 (zn false [] (WV (fun a b=>int (yb a b)) fun _ _=>True)):=
 y3 (fn:=f243) zc7 (wc func243) false [] _ fun args r h=>by obtain⟨a,b,rfl,c,d,_,rfl⟩:=xr h;exact⟨by simp[f243],_,iy a b c d,q9 _⟩
theorem rS(a b:za)(Y:Hp)(Z:Nat)(h:a.length<=qg)(c:b.length<=qg):zn false [] (WV (fun a b=>int (yb a b)) fun _ _=>True) [str a,str b] Y Z=some (int (yb a b),Y,Z):=Zz _ _ a b Y Z h c trivial rfl
def yl{α:Type}(c:α->α->Int):List α->List α->Int
 |[],[]=>0
 |[],_::_=>-1
 |_::_,[]=>1
 |x::a,y::b=>if c x y=0 then yl c a b else c x y
noncomputable abbrev Ccf:Ctx:=qj prog [(243,zn false [] (WV (fun a b=>int (yb a b)) fun _ _=>True))]
theorem zc8:Gd Ccf:=qQ mixed ⟨eX,trivial⟩
def vr(l:List za):Prop:=l.length<=qg/\∀p∈l,p.length<=qg
theorem de(a b:List za)(o:vr a)(p:vr b):zG Ccf f242 [.sl 1 (qJ a),.sl 1 (qJ b),.fn (.func 243) [] []]=some (int (yl yb a b)):=by
 refine zu rfl ?_;obtain⟨o,q⟩:=o;obtain⟨p,r⟩:=p;unfold qg at o p;simp;refine ql (fun k M Y Z=>M 0=.sl 1 (qJ a)/\M 1=.sl 1 (qJ b)/\M 2=.fn (.func 243) [] []/\M 11=.sl 1 (qJ a)/\M 12=int a.length/\M 13=int k/\k<=b.length/\yl yb a b=yl yb (a.drop k) (b.drop k)) a.length
  ⟨by simp,by simp,by simp,by simp,by simp,by simp,by simp,by simp⟩ ?_
 rintro k M Y Z y ⟨j,l,m,f,g,h,v,c⟩;by_cases d:k<a.length
 ·have w:=wv k;by_cases e:k<b.length
  ·have i:¬b.length<=k:=by omega
   have u:=fun Y Z=>rS a[k] b[k] Y Z (q _ (zw d)) (r _ (zw e))
   rw[zl d,zl e]at c;simp only[yl]at c;by_cases n:yb a[k] b[k]=0
   ·rw[zg n]at c;simp[j,l,m,f,g,h,d,e,i,u,n,w];exact⟨d,by omega,c⟩
   ·rw[zf n]at c;have s:=VF n;simp[j,l,m,f,g,h,d,e,i,u,s,c,f242]
  ·obtain rfl:k=b.length:=by omega
   rw[zl d,zA]at c;simp only[yl]at c;simp[j,l,m,f,g,h,d,c,f242]
 ·obtain rfl:k=a.length:=by omega
  rw[zA]at c;by_cases t:a.length<b.length
  ·rw[zl t]at c;simp only[yl]at c;simp[j,l,m,f,g,h,t,c,f242]
  ·rw[vj (by omega)]at c;simp only[yl]at c;have x:¬((a.length:Int)<b.length):=by omega
   simp[j,l,m,f,g,h,t,c,f242]
noncomputable def FCf:zb->Option O:=qW (α:=List za×List za) (fun a=>[.sl 1 (qJ a.1),.sl 1 (qJ a.2),.fn (.func 243) [] []]) (fun a=>vr a.1/\vr a.2) (fun a=>int (yl yb a.1 a.2))
theorem zc9:∀a b:List za×List za,[O.sl 1 (qJ a.1),.sl 1 (qJ a.2),.fn (.func 243) [] []]=[.sl 1 (qJ b.1),.sl 1 (qJ b.2),.fn (.func 243) [] []]->a=b:=by rintro⟨f,g⟩ ⟨h,i⟩ e;simp only[zq,qh]at e;obtain⟨c,d⟩:=e;injection c with _ c;injection d with _ d;rw[v8 c,v8 d]
theorem bM:zi prog 242 (zn false [] FCf):=
 VG zc8 func242 false [] fun⟨a,b⟩ ⟨c,d⟩=>⟨by simp[f242],_,de a b c d,q9 _⟩
theorem Ui(a b:List za)(Y:Hp)(Z:Nat)(c:vr a)(d:vr b):zn false [] FCf [.sl 1 (qJ a),.sl 1 (qJ b),.fn (.func 243) [] []] Y Z=some (int (yl yb a b),Y,Z):=
 jm (Y1:=Y) (by simp) (qX (V:=fun a:List za×List za=>[O.sl 1 (qJ a.1),.sl 1 (qJ a.2),.fn (.func 243) [] []]) (a:=(a,b)) zc9 ⟨c,d⟩) (.inl rfl)
noncomputable def QM (v w:yC):Int:=if KE [wI v.a w.a,wI v.b w.b,wI v.c w.c]=0 then(if v.pre.length=0 then(if w.pre.length=0 then 0 else 1)else if w.pre.length=0 then -1 else yl yb v.pre w.pre)else KE [wI v.a w.a,wI v.b w.b,wI v.c w.c]
noncomputable abbrev Ccv:Ctx:=qj prog [(32,zn false [] (On wI)),(129,zn false [] M3),(242,zn false [] FCf)]
theorem zda:AM.Good Ccv (fun g=>[32,129].contains g):=qx mixed ⟨Z3,fun _=>zt _ _,Xm,fun _=>zt _ _,bM,by simp,trivial⟩
theorem Xn(v w:yC)(t:v.small)(u:w.small):zG Ccv f196 [.agg v.V,.agg w.V]=some (int (QM v w)):=by
 obtain⟨a,b,c,p⟩:=v;obtain⟨k,l,m,e⟩:=w;refine zu rfl ?_;have n:=fun Y Z=>Ui p e Y Z t u
 obtain⟨o,s⟩:=wM (KE [wI a k,wI b l,wI c m]);have d:∀(Y:Hp) (Z id:Nat),Y id=some ⟨3,1,true,[[int (wI a k)],[int (wI b l)],[int (wI c m)]]⟩->zn false [] M3 [.own id 0 3] Y Z=some (int o,Y,Z):=fun Y Z id x=>s ▸ dd [_,_,_] Y Z id _ (by show 3<=qg;decide) x
 have j:QM ⟨a,b,c,p⟩ ⟨k,l,m,e⟩=if o=0 then(if p.length=0 then(if e.length=0 then 0 else 1)else if e.length=0 then -1 else yl yb p e)else o:=by rw[<-s];rfl
 rw[j];by_cases q:o=0
 ·subst q;by_cases h:p.length=0<;>by_cases i:e.length=0
  ·simp[yC.V,d,zs,zF,zr,h,i,f196]
  ·have f:((e.length:Int)==0)=false:=by simpa using i
   simp[yC.V,d,zs,zF,zr,h,i,f,f196]
  ·have g:((p.length:Int)==0)=false:=by simpa using h
   simp[yC.V,d,zs,zF,zr,h,i,g,f196]
  ·have g:((p.length:Int)==0)=false:=by simpa using h
   have f:((e.length:Int)==0)=false:=by simpa using i
   simp[yC.V,d,zs,zF,zr,h,i,g,f,n,f196]
 ·have r:=VF q;simp[yC.V,d,zs,zF,zr,q,r,f196]
noncomputable def Ot (f:yC->yC->O):zb->Option O:=qW (α:=yC×yC) (fun a=>[.agg a.1.V,.agg a.2.V]) (fun a=>a.1.small/\a.2.small) (fun a=>f a.1 a.2)
theorem zdb:∀a b:yC×yC,[O.agg a.1.V,.agg a.2.V]=[.agg b.1.V,.agg b.2.V]->a=b:=by rintro⟨f,g⟩ ⟨h,i⟩ e;simp only[zq,qh]at e;obtain⟨c,d⟩:=e;injection c with c;injection d with d;rw[Ke c,Ke d]
theorem VH:zi prog 196 (qK [.g vd,.g vd] (Ot fun v w=>int (QM v w))):=
 yf (fn:=f196) zda (wc func196) _ _ fun args r h=>by obtain⟨⟨v,w⟩,rfl,⟨a,b⟩,rfl⟩:=zL h;exact⟨by simp[f196],_,Xn v w a b,wW.refl _⟩
theorem Hr(v w:yC)(Y:Hp)(Z:Nat)(b:v.small)(c:w.small):qK [.g vd,.g vd] (Ot fun v w=>int (QM v w)) [.agg v.V,.agg w.V] Y Z=some (int (QM v w),Y,Z):=
 vL (show zH Y [.agg v.V,.agg w.V]=some ([.agg v.V,.agg w.V],Y) by simp[yC.V]) (qX (V:=fun a:yC×yC=>[O.agg a.1.V,.agg a.2.V]) (a:=(v,w)) zdb ⟨b,c⟩) (.inl rfl)
structure Cut where
 v:yC
 after:Bool
def Cut.V(c:Cut):zb:=[int c.v.a,int c.v.b,int c.v.c,.sl 1 (qJ c.v.pre),yh c.after]
abbrev jQ:List (Option Nat):=[none,none,none,some 1,none]
theorem Q0{a b:Cut}(h:a.V=b.V):a=b:=by obtain⟨⟨i,j,k,l⟩,m⟩:=a;obtain⟨⟨n,o,p,q⟩,r⟩:=b;simp only[Cut.V,zq,qh]at h;obtain⟨d,e,f,c,g⟩:=h;injection c with _ c;rw[qA d,qA e,qA f,v8 c,Yl g]
noncomputable def wP (a b:Cut):Int:=if QM a.v b.v=0 then(if a.after=b.after then 0 else if b.after=true then -1 else 1)else QM a.v b.v
noncomputable def B9 (f:Cut->Cut->O):zb->Option O:=qW (α:=Cut×Cut) (fun a=>[.agg a.1.V,.agg a.2.V]) (fun a=>a.1.v.small/\a.2.v.small) (fun a=>f a.1 a.2)
theorem Ou:∀a b:Cut×Cut,[O.agg a.1.V,.agg a.2.V]=[.agg b.1.V,.agg b.2.V]->a=b:=by rintro⟨f,g⟩ ⟨h,i⟩ e;simp only[zq,qh]at e;obtain⟨c,d⟩:=e;injection c with c;injection d with d;rw[Q0 c,Q0 d]
noncomputable abbrev Ccu:Ctx:=qj prog [(196,qK [.g vd,.g vd] (Ot fun v w=>int (QM v w)))]
theorem zdc:Gd Ccu:=qQ mixed ⟨VH,trivial⟩
theorem eY(x y:Cut)(l:x.v.small)(m:y.v.small):zG Ccu f145 [.agg x.V,.agg y.V]=some (int (wP x y)):=by
 obtain⟨⟨a,b,c,p⟩,f⟩:=x;obtain⟨⟨h,i,j,k⟩,f'⟩:=y;refine zu rfl ?_;have d:=fun Y Z=>Hr ⟨a,b,c,p⟩ ⟨h,i,j,k⟩ Y Z l m
 simp only[yC.V]at d;by_cases e:QM ⟨a,b,c,p⟩ ⟨h,i,j,k⟩=0
 ·cases f<;>cases f'<;>simp[Cut.V,d,e,wP,f145]
 ·have g:=VF e;simp[Cut.V,d,e,g,wP,f145]
theorem Qt:zi prog 145 (qK [.g jQ,.g jQ] (B9 fun v w=>int (wP v w))):=
 yf (fn:=f145) zdc (wc func145) _ _ fun args r h=>by obtain⟨⟨v,w⟩,rfl,⟨a,b⟩,rfl⟩:=zL h;exact⟨by simp[f145],_,eY v w a b,wW.refl _⟩
theorem uo(x y:Cut)(u v:O)(Y:Hp)(Z:Nat)(b:(Sh.g jQ).fix u=.agg x.V)(c:(Sh.g jQ).fix v=.agg y.V)(d:zH Y [u,v]=some ([u,v],Y))(e:x.v.small)(f:y.v.small):qK [.g jQ,.g jQ] (B9 fun v w=>int (wP v w)) [u,v] Y Z=some (int (wP x y),Y,Z):=
 vL d (by show B9 _ [(Sh.g jQ).fix u,(Sh.g jQ).fix v]=_;rw[b,c];exact qX (V:=fun a:Cut×Cut=>[O.agg a.1.V,.agg a.2.V]) (a:=(x,y)) Ou ⟨e,f⟩) (.inl rfl)
end Go.Q
namespace Go.AM
def YN(a:List Sh)(F:zb->Option O):AM.Spec:=zn true [] fun args=>F (cX a args)
theorem Ca{C:Ctx}{pf:FuncId->Bool}{f:FuncId}{fn:Func}(b:AM.Good C pf)(c:bE C pf f fn)(a:List Sh)(F:zb->Option O)
  (d:∀args r,F args=some r->args.length<=fn.ntmps/\∃r0,zG C fn args=some r0/\wW r0 r):zi C.P f (YN a F):=
 Js b c true [] _ fun args r h w S vs e=>by obtain⟨g,r0,i,j⟩:=d _ _ h;exact⟨cX a args,r0,J9 e,g,i,j⟩
theorem Ov{a:List Sh}{F:zb->Option O}{args:zb}{Y Y1:Hp}{Z:Nat}{ys:zb}{r:O}(b:zH Y args=some (ys,Y1))(c:F (cX a ys)=some r)(d:(r.flat=true\/args.all O.noOwn=true)->Y1=Y) :
  YN a F args Y Z=some (r,Y1,Z):=by
 have e:yR [] ys=ys:=by cases ys<;>rfl
 unfold YN zn;simp only[b,e,c];split
 ·rename_i h;rw[d h]
 ·simp
theorem Fj(c:List Sh)(F:zb->Option O):Wb (YN c F):=by
 intro args Y Z r e f h;unfold YN zn at h;split at h
 ·rename_i ys Y1 d;split at h
  ·split at h
   ·injection h with h;injection h with _ h;injection h with a b;subst a;subst b;exact⟨zk _,fun id blk _ a _=>a⟩
   ·split at h
    ·injection h with h;injection h with _ h;injection h with a b;subst a;subst b;exact⟨zk _,fun id blk _ a b=>Xc d a b⟩
    ·cases h
  ·cases h
 ·cases h
def xw(P:Program)(l:Je)(k:Nat)(D:List (Tmp×Tmp))(L:List Tmp)(b:List Nat):Ctx:=⟨P,lookup l,fun i=>if i=k then D else[],fun i=>if i=k then L else[],fun g=>b.contains g,fun _=>[],fun _=>none⟩
@[simp]theorem zfl(P:Program)(l:Je)(k:Nat)(D:List (Tmp×Tmp))(L:List Tmp)(b:List Nat):(xw P l k D L b).P=P:=rfl
@[simp]theorem zfm(P:Program)(l:Je)(k:Nat)(D:List (Tmp×Tmp))(L:List Tmp)(b:List Nat)(Y:Hp)(Z g:Nat)(x y xs:zb):jO (xw P l k D L b) Y Z (some (.fn (.func g) x y)) xs=(lookup l g).bind fun s=>s (x++xs++y) Y Z:=by unfold jO xw;simp only;cases lookup l g<;>rfl
@[simp]theorem M4(P:Program)(l:Je)(k:Nat)(D:List (Tmp×Tmp))(L:List Tmp)(b:List Nat)(i:Nat)(a:Array Oper)(d:Bool)(st:St)(K:Exit->St->Prop)(h:¬i=k):Zl (xw P l k D L b) (.region i a d) st K=iV (xw P l k D L b) a a.toList st (Wr K):=
 ZZ _ i a d st K (by simp[xw,h]) (by simp[xw,h])
theorem kd{P:Program}{l:Je}{k:Nat}{D:List (Tmp×Tmp)}{L:List Tmp}{b:List Nat}{a:Array Oper}{d:Bool}{st:St}{K:Exit->St->Prop}(h:Qg D st)(c:Qh L st):Zl (xw P l k D L b) (.region k a d) st K=iV (xw P l k D L b) a a.toList st (Wr K):=
 kW _ k a d st K (by simpa[xw]using h) (by simpa[xw]using c)
theorem rT{P:Program}{l:Je}{q:List Nat}{k:Nat}{D:List (Tmp×Tmp)}{L:List Tmp}{b:List Nat}(a:P.follows .mixedOrders=true)(h:Bx True P q l)(c:tT b l):AM.Good (xw P l k D L b) (fun g=>q.contains g):=
 let g:=BM (k:=k) (L:=L) a h c
 ⟨g.spec,g.quiet,g.mixed,g.box,fun _ _ h=>by cases h⟩
end Go.AM
namespace Go.Q
def A0(a b c:Int):O:=.agg [int a,int b,int c]
noncomputable def Fk:zb->Option O:=qW (α:=Int×Int×Int×List za) (fun a=>[A0 a.1 a.2.1 a.2.2.1,.sl 1 (qJ a.2.2.2)]) (fun _=>True) (fun a=>.agg (⟨a.1,a.2.1,a.2.2.1,a.2.2.2⟩:yC).V)
theorem Uj:∀a b:Int×Int×Int×List za,[A0 a.1 a.2.1 a.2.2.1,.sl 1 (qJ a.2.2.2)]=[A0 b.1 b.2.1 b.2.2.1,.sl 1 (qJ b.2.2.2)]->a=b:=by rintro⟨h,i,j,k⟩ ⟨l,m,n,o⟩ e;simp only[A0,zq,qh]at e;obtain⟨c,d⟩:=e;injection c with c;simp only[zq,qh]at c;obtain⟨c,f,g⟩:=c;injection d with _ d;rw[qA c,qA f,qA g,v8 d]
theorem uq(a b c:Int)(p:List za):zG C0 f194 [A0 a b c,.sl 1 (qJ p)]=some (.agg (⟨a,b,c,p⟩:yC).V):=by refine zu rfl ?_;simp[A0,yC.V,zI,qe,yx,f194]
theorem JM:zi prog 194 (YN [.a,.s 1 []] Fk):=
 Ca (fn:=f194) jj (wc func194) _ _ fun args r h=>by obtain⟨⟨a,b,c,p⟩,rfl,_,rfl⟩:=zL h;exact⟨by simp[f194],_,uq a b c p,wW.refl _⟩
theorem K3(a b c:Int)(p:List za)(y z:O)(Y Y1:Hp)(Z:Nat)(e:zO Y y=some (z,Y1))(d:n1 1 z=.sl 1 (qJ p))(f:y.noOwn=true->Y1=Y):YN [.a,.s 1 []] Fk [A0 a b c,y] Y Z=some (.agg (⟨a,b,c,p⟩:yC).V,Y1,Z):=
 Ov (ys:=[A0 a b c,z]) (by
  have g:zO Y (A0 a b c)=some (A0 a b c,Y):=by simp[A0]
  simp only[zH,g,e]) (by
  have:(Sh.s 1 []).fix z=.sl 1 (qJ p):=by
   cases z with
   |sl m es=>simp only[n1]at d;simp only[Sh.fix];rw[<-d];congr 1;exact(ziN (fun c _=>by cases c<;>rfl)).trans (List.map_id _)
   |_=>exact d
  show Fk [A0 a b c,(Sh.s 1 []).fix z]=_;rw[this];exact qX (V:=fun a:Int×Int×Int×List za=>[A0 a.1 a.2.1 a.2.2.1,.sl 1 (qJ a.2.2.2)]) (a:=(a,b,c,p)) Uj trivial) (by simpa[A0,yC.V]using f)
def q8:Cut:=⟨⟨0,0,0,[[48]]⟩,false⟩
noncomputable def YO (r:O):zb->Option O:=qW (α:=Unit) (fun _=>[]) (fun _=>True) (fun _=>r)
theorem Q1(r:O)(Y:Hp)(Z:Nat):qK [] (YO r) [] Y Z=some (r,Y,Z):=vL (show zH Y []=some ([],Y)from rfl) (qX (V:=fun _:Unit=>[]) (a:=()) (fun _ _ _=>rfl) trivial) (.inr rfl)
theorem Fl:zG C0 f139 []=some (.agg q8.V):=by refine zu rfl ?_;simp[q8,Cut.V,qJ,str,zI,qe,zs,zF,zr,yx,f139]
theorem gH:zi prog 139 (qK [] (YO (.agg q8.V))):=
 yf (fn:=f139) jj (wc func139) _ _ fun args r h=>by obtain⟨_,rfl,_,rfl⟩:=zL h;exact⟨by simp[f139],_,Fl,wW.refl _⟩
structure wG where
 lo:Cut
 hi:Cut
 vm:Bool
def wG.V(s:wG):zb:=s.lo.V++s.hi.V++[yh s.vm]
def QP:Cut:=⟨⟨0,0,0,[]⟩,false⟩
abbrev jA:List (Option Nat):=[none,none,none,some 1,none,none,none,none,some 1,none,none]
def yt(c:Cut):wG:=⟨c,QP,true⟩
def bN(a b:Cut):wG:=⟨a,b,false⟩
def qn(l:List wG):List zb:=l.map wG.V
def bO:O:=.sl 11 (qn [yt q8])
noncomputable abbrev Cev:Ctx:=qj prog [(139,qK [] (YO (.agg q8.V)))]
theorem zdd:Gd Cev:=qQ mixed ⟨gH,trivial⟩
theorem iz:∃r0,zG Cev f90 []=some r0/\wW r0 bO:=by refine Ye (sh:=.s 11 jA) rfl ?_;simp[Q1,q8,Cut.V,qJ,str,zI,qe,zs,zF,zr,cY,bO,qn,yt,wG.V,QP,f90]
theorem Kf:zi prog 90 (qK [] (YO bO)):=
 yf (fn:=f90) zdd (wc func90) _ _ fun args r h=>by obtain⟨_,rfl,_,rfl⟩:=zL h;obtain⟨r0,a,b⟩:=iz;exact⟨by simp[f90],r0,a,b⟩
theorem mX{a b:Part}(h:a.V=b.V):a=b:=by obtain⟨i,j,k,l,m⟩:=a;obtain⟨n,o,p,q,r⟩:=b;simp only[Part.V,zq,qh]at h;obtain⟨d,e,f,g,c⟩:=h;injection c with _ c;rw[qA d,qA e,qA f,qA g,v8 c]
def Part.ok(p:Part):Prop:=(0<=p.n0/\p.n0<=999999)/\(0<=p.n1/\p.n1<=999999)/\(0<=p.n2/\p.n2<=999999)/\(1<=p.has/\p.has<=3)/\vr p.pre
noncomputable def FPa (f:Part->O):zb->Option O:=qW (α:=Part) (fun p=>[.agg p.V]) Part.ok f
theorem Cb(f:Part->O)(p:Part)(u:O)(Y:Hp)(Z:Nat)(h:p.ok)(c:(Sh.g Xk).fix u=.agg p.V)(d:zO Y u=some (u,Y))(i:u.noOwn=true):qK [.g Xk] (FPa f) [u] Y Z=some (f p,Y,Z):=
 vL (show zH Y [u]=some ([u],Y) by simp only[zH,d]) (by show FPa f [(Sh.g Xk).fix u]=_;rw[c];exact qX (V:=fun p:Part=>[O.agg p.V]) (a:=p) (fun a b e=>by simp only[zq,qh]at e;injection e with e;exact mX e) h) (.inr (by rw[wZ,i];rfl))
noncomputable def FPt (f:Part->O):zb->Option O:=qW (α:=Part) (fun p=>[.agg p.V]) (fun _=>True) f
theorem Ow(f:Part->O)(p:Part)(Y:Hp)(Z:Nat):qK [.g Xk] (FPt f) [.agg p.V] Y Z=some (f p,Y,Z):=
 vL (show zH Y [.agg p.V]=some ([.agg p.V],Y) by simp[Part.V]) (by show FPt f [(Sh.g Xk).fix (.agg p.V)]=_;rw[show(Sh.g Xk).fix (.agg p.V)=.agg p.V by simp[Part.V]];exact qX (V:=fun p:Part=>[O.agg p.V]) (a:=p) (fun a b e=>by simp only[zq,qh]at e;injection e with e;exact mX e) trivial) (.inr (by simp[Part.V]))
def ZA(p:Part):Cut:=⟨⟨p.n0,p.n1,p.n2,p.pre⟩,false⟩
noncomputable abbrev Clo:Ctx:=qj prog [(194,YN [.a,.s 1 []] Fk)]
theorem zde:Gd Clo:=qQ mixed ⟨JM,trivial⟩
theorem Ox(p:Part):zG Clo f140 [.agg p.V]=some (.agg (ZA p).V):=by
 obtain⟨a,b,c,d,e⟩:=p;refine zu rfl ?_;have f:=fun Y Z=>K3 a b c e (.sl 1 (qJ e)) (.sl 1 (qJ e)) Y Y Z (by simp) rfl (fun _=>rfl)
 simp[A0]at f;simp[Part.V,f,ZA,Cut.V,yC.V,zI,qe,yx,f140]
theorem Li:zi prog 140 (qK [.g Xk] (FPt fun p=>.agg (ZA p).V)):=
 yf (fn:=f140) zde (wc func140) _ _ fun args r h=>by obtain⟨p,rfl,_,rfl⟩:=zL h;exact⟨by simp[f140],_,Ox p,wW.refl _⟩
def jw(p:Part):Nat->Cut
 | 0=>⟨⟨p.n0+1,0,0,[[48]]⟩,false⟩
 | 1=>⟨⟨p.n0,p.n1+1,0,[[48]]⟩,false⟩
 |_=>⟨⟨p.n0,p.n1,p.n2+1,[[48]]⟩,false⟩
def vC(p:Part):Nat->Bool
 | 0=>decide (p.n0+1<=999999)
 | 1=>decide (p.n1+1<=999999)
 |_=>decide (p.n2+1<=999999)
def ve(p:Part)(i:Nat):O:=.wL [.agg (jw p i).V,yh (vC p i)]
noncomputable abbrev Crsd:Ctx:=xw prog [(194,YN [.a,.s 1 []] Fk)] 7 [(6,4),(28,4)] [4,6,28] [194]
theorem Uk:Gd Crsd:=rT mixed ⟨JM,by simp,trivial⟩ ⟨fun _=>Fj _ _,trivial⟩
theorem Yn(st:St):Qg [] st:=fun _ h=>by cases h
theorem yw{a b:Tmp}{D:List (Tmp×Tmp)}{st:St}(h:tc st a b)(c:Qg D st):Qg ((a,b)::D) st:=fun p Y=>by
 rcases zv.1 Y with rfl|Y
 ·exact h
 ·exact c p Y
theorem Kg(st:St):Qh [] st:=fun _ h=>by cases h
theorem xb{s:Tmp}{L:List Tmp}{st:St}{id i j:Nat}{blk:Blk}(h:st.M s=.ref id i j)(b:id<st.Z)(c:st.Y id=some blk)(d:blk.arr=false)(f:Qh L st)(hs:s<zB:=by decide):Qh (s::L) st:=fun t a=>by
 rcases zv.1 a with rfl|a
 ·refine⟨⟨fun id' o n e=>(by rw[h]at e;cases e),fun id' i' j' e=>?_⟩,fun g=>absurd hs (Nat.not_lt.2 g)⟩;rw[h]at e;injection e with e _ _
  subst e;exact⟨b,blk,c,d⟩
 ·exact f t a
theorem kE{s:Tmp}{L:List Tmp}{st:St}{x:zb}(h:st.M s=.wL x)(b:Qh L st)(hs:s<zB:=by decide):Qh (s::L) st:=fun t a=>by
 rcases zv.1 a with rfl|a
 ·exact⟨⟨fun id' o n e=>(by rw[h]at e;cases e),fun id' i' j' e=>(by rw[h]at e;cases e)⟩,fun c=>absurd hs (Nat.not_lt.2 c)⟩
 ·exact b t a
theorem Yo{a b:Tmp}{st:St}{id i j id' i' j':Nat}{blk:Blk}(d:st.M a=.ref id i j)(e:st.M b=.ref id' i' j')(f:id≠id')(g:st.Y id'=some blk)(h:blk.arr=false):tc st a b:=by
 intro k l m c;rw[d]at c;injection c with c _ _
 subst c;exact⟨id',i',j',blk,e,f,g,h⟩
theorem jT{a b:Tmp}{st:St}{x:zb}(d:st.M a=.wL x):tc st a b:=by intro e f g c;rw[d]at c;cases c
theorem Ce(p:Part)(i:Nat)(v:i<3)(Y:p.ok):∃r0,zG Crsd f143 [.agg p.V,int i]=some r0/\wW r0 (ve p i):=by
 obtain⟨a,b,c,d,e⟩:=p;obtain⟨⟨j,k⟩,⟨l,m⟩,⟨n,o⟩,_⟩:=Y;simp only at j k l m n o;refine y6 (sh:=.g jQ) rfl ?_;have q:=wj (a+1);have r:=wj (b+1);have t:=wj (c+1);have f:∀(a b c:Int) (Y:Hp) (Z id:Nat),Y id=some ⟨9,1,true,[[str [48]]]⟩->YN [.a,.s 1 []] Fk [A0 a b c,.own id 0 1] Y Z=some (.agg (⟨a,b,c,[[48]]⟩:yC).V,qf Y id none,Z):=fun a b c Y Z id u=>K3 a b c [[48]] (.own id 0 1) (.sl 1 [[str [48]]]) Y (qf Y id none) Z (by simp[u]) rfl (fun h=>by cases h)
 simp[A0,str]at f;rcases(by omega:i=0\/i=1\/i=2)with rfl|rfl|rfl
 ·simp[Part.V,q];rw[zJ];simp;rw[zJ];simp;rw[zJ];simp;rw[kd (yw (Yo (by simp;exact⟨rfl,rfl,rfl⟩) (by simp;exact⟨rfl,rfl,rfl⟩) (by omega) (by simp;rfl) rfl) (yw (jT (by simp;rfl)) (Yn _)))
   (xb (by simp;exact⟨rfl,rfl,rfl⟩) (by simp) (by simp;rfl) rfl (xb (by simp;exact⟨rfl,rfl,rfl⟩) (by simp) (by simp;rfl) rfl (kE (by simp;rfl) (Kg _))))]
  simp[f,zI,qe,zs,zF,zr,qy,ve,jw,vC,Cut.V,yC.V,f143]
 ·simp[Part.V,r];rw[zJ];simp;rw[zJ];simp;rw[kd (yw (Yo (by simp;exact⟨rfl,rfl,rfl⟩) (by simp;exact⟨rfl,rfl,rfl⟩) (by omega) (by simp;rfl) rfl) (yw (jT (by simp;rfl)) (Yn _)))
   (xb (by simp;exact⟨rfl,rfl,rfl⟩) (by simp) (by simp;rfl) rfl (xb (by simp;exact⟨rfl,rfl,rfl⟩) (by simp) (by simp;rfl) rfl (kE (by simp;rfl) (Kg _))))]
  simp[f,zI,qe,zs,zF,zr,qy,ve,jw,vC,Cut.V,yC.V,f143]
 ·simp[Part.V,t];rw[zJ];simp;rw[kd (yw (Yo (by simp;exact⟨rfl,rfl,rfl⟩) (by simp;exact⟨rfl,rfl,rfl⟩) (by omega) (by simp;rfl) rfl) (yw (jT (by simp;rfl)) (Yn _)))
   (xb (by simp;exact⟨rfl,rfl,rfl⟩) (by simp) (by simp;rfl) rfl (xb (by simp;exact⟨rfl,rfl,rfl⟩) (by simp) (by simp;rfl) rfl (kE (by simp;rfl) (Kg _))))]
  simp[f,zI,qe,zs,zF,zr,qy,ve,jw,vC,Cut.V,yC.V,f143]
noncomputable def FPi (f:Part->Nat->O):zb->Option O:=qW (α:=Part×Nat) (fun a=>[.agg a.1.V,int a.2]) (fun a=>a.1.ok/\a.2<3) (fun a=>f a.1 a.2)
theorem zdf:∀a b:Part×Nat,[O.agg a.1.V,int a.2]=[O.agg b.1.V,int b.2]->a=b:=by rintro⟨h,d⟩ ⟨i,f⟩ e;simp only[zq,qh]at e;obtain⟨c,g⟩:=e;injection c with c;have:=qA g;rw[mX c,show d=f by omega]
theorem Cf(f:Part->Nat->O)(p:Part)(i:Nat)(u:O)(Y:Hp)(Z:Nat)(h:p.ok)(b:i<3)(c:(Sh.g Xk).fix u=.agg p.V)(d:zO Y u=some (u,Y))(e:u.noOwn=true):qK [.g Xk] (FPi f) [u,int i] Y Z=some (f p i,Y,Z):=
 vL (show zH Y [u,int i]=some ([u,int i],Y) by simp only[zH,d];rfl) (by show FPi f [(Sh.g Xk).fix u,int i]=_;rw[c];exact qX (V:=fun a:Part×Nat=>[O.agg a.1.V,int a.2]) (a:=(p,i)) zdf ⟨h,b⟩) (.inr (by rw[wZ,e];rfl))
theorem df:zi prog 143 (qK [.g Xk] (FPi ve)):=
 yf (fn:=f143) Uk (wc func143) _ _ fun args r h=>by obtain⟨⟨p,i⟩,rfl,⟨a,b⟩,rfl⟩:=zL h;obtain⟨r0,c,d⟩:=Ce p i b a;exact⟨by simp[f143],r0,c,d⟩
def vw(p:Part):Cut:=if p.has<3 then jw p (p.has-1).toNat else⟨⟨p.n0,p.n1,p.n2,p.pre⟩,true⟩
def Qu(p:Part):Bool:=if p.has<3 then vC p (p.has-1).toNat else true
def Ju(p:Part):O:=.wL [.agg (vw p).V,yh (Qu p)]
noncomputable abbrev Chi:Ctx:=qj prog [(194,YN [.a,.s 1 []] Fk),(143,qK [.g Xk] (FPi ve))]
theorem zdg:Gd Chi:=qQ mixed ⟨JM,df,trivial⟩
@[simp]theorem lf(p:Part)(Y:Hp):zO Y (.agg p.V)=some (.agg p.V,Y):=by simp[Part.V]
theorem Lj(p:Part)(Y:p.ok):zG Chi f142 [.agg p.V]=some (Ju p):=by
 have a:=Y;obtain⟨_,_,_,⟨g,h⟩,_⟩:=Y;refine zu rfl ?_;have b:=fun Y Z=>Cf ve p (p.has-1).toNat (.agg p.V) Y Z a (by omega) (by simp[Part.V]) (lf p Y) (by simp[Part.V])
 have e:(((p.has-1).toNat:Nat):Int)=p.has-1:=by omega
 have f:=wj (p.has-1);rw[e]at b;have c:=fun Y Z=>K3 p.n0 p.n1 p.n2 p.pre (.sl 1 (qJ p.pre)) (.sl 1 (qJ p.pre)) Y Y Z (by simp) rfl (fun _=>rfl)
 simp[A0]at c;simp only[Part.V]at b;by_cases d:p.has<3
 ·simp[Part.V,d,b,f,Ju,vw,Qu,ve,Cut.V,yx,f142]
 ·simp[Part.V,d,c,Ju,vw,Qu,Cut.V,yC.V,zI,qe,yx,f142]
theorem Fm:zi prog 142 (qK [.g Xk] (FPa Ju)):=
 yf (fn:=f142) zdg (wc func142) _ _ fun args r h=>by obtain⟨p,rfl,a,rfl⟩:=zL h;exact⟨by simp[f142],_,Lj p a,wW.refl _⟩
noncomputable def eZ (a b:Cut):List wG:=if 0<=wP a b then[]else[bN a b]
noncomputable def K4 (a b:Cut):O:=.sl 11 (qn (eZ a b))
noncomputable abbrev Cbt:Ctx:=qj prog [(145,qK [.g jQ,.g jQ] (B9 fun v w=>int (wP v w)))]
theorem zdh:Gd Cbt:=qQ mixed ⟨Qt,trivial⟩
theorem ur(x y:Cut)(b:x.v.small)(c:y.v.small):∃r0,zG Cbt f141 [.agg x.V,.agg y.V]=some r0/\wW r0 (K4 x y):=by
 refine Ye (sh:=.s 11 jA) rfl ?_;have a:=fun Y Z=>uo x y (.agg x.V) (.agg y.V) Y Z (by simp[Cut.V]) (by simp[Cut.V]) (by simp[Cut.V]) b c
 simp only[Cut.V]at a;by_cases h:0<=wP x y
 ·simp[Cut.V,a,h,cY,K4,eZ,qn,f141]
 ·simp[Cut.V,a,h,zI,qe,zs,zF,zr,cY,K4,eZ,qn,bN,wG.V,f141]
theorem po:zi prog 141 (qK [.g jQ,.g jQ] (B9 K4)):=
 yf (fn:=f141) zdh (wc func141) _ _ fun args r h=>by obtain⟨⟨v,w⟩,rfl,⟨a,b⟩,rfl⟩:=zL h;obtain⟨r0,c,d⟩:=ur v w a b;exact⟨by simp[f141],r0,c,d⟩
structure xG where
 sign:List UInt8
 p:Part
 tu:Part
def xG.V(c:xG):zb:=[str c.sign,int c.p.n0,int c.p.n1,int c.p.n2,int c.p.has,.sl 1 (qJ c.p.pre),int c.tu.n0,int c.tu.n1,int c.tu.n2,int c.tu.has,.sl 1 (qJ c.tu.pre)]
abbrev uu:List (Option Nat):=[none,none,none,none,none,some 1,none,none,none,none,some 1]
theorem Ll{a b:xG}(h:a.V=b.V):a=b:=by obtain⟨q,⟨r,s,t,u,v⟩,⟨w,x,y,z,e⟩⟩:=a;obtain⟨A,⟨B,C,D,E,F⟩,⟨G,H,I,J,f⟩⟩:=b;simp only[xG.V,zq,qh]at h;obtain⟨g,i,j,k,l,d,m,n,o,p,c⟩:=h;injection d with _ d;injection c with _ c;rw[yp g,qA i,qA j,qA k,qA l,v8 d,qA m,qA n,qA o,qA p,v8 c]
def jy:za:=[97,108,108]
def xG.ok(c:xG):Prop:=c.sign.length<=qg/\(c.sign=jy\/(c.p.ok/\(c.sign=[45]->c.tu.ok)))
def jM(p:Part):Nat:=if 1<p.has/\p.n0=0 then(if 2<p.has/\p.n1=0 then 2 else 1)else 0
theorem Lm(p:Part):jM p<3:=by unfold jM;split<;>(try split)<;>omega
noncomputable def vy (c:xG):List wG×Bool:=
 if c.sign=jy then([yt q8],true)
 else if c.sign=[62,61]then([yt (ZA c.p)],true)
 else if c.sign=[60]then(eZ q8 (ZA c.p),true)
 else if c.sign=[62]then([yt (vw c.p)],Qu c.p)
 else if c.sign=[60,61]then(eZ q8 (vw c.p),Qu c.p)
 else if c.sign=[45]then(eZ (ZA c.p) (vw c.tu),Qu c.tu)
 else if c.sign=[126]then(eZ (ZA c.p) (jw c.p (min (c.p.has-1) 1).toNat),vC c.p (min (c.p.has-1) 1).toNat)
 else if c.sign=[94]then(eZ (ZA c.p) (jw c.p (jM c.p)),vC c.p (jM c.p))
 else(eZ (ZA c.p) (vw c.p),Qu c.p)
noncomputable def JN (c:xG):O:=.wL [.sl 11 (qn (vy c).1),yh (vy c).2]
def lowP(p:Part):O:=.agg (ZA p).V
def e8:O:=.agg q8.V
noncomputable abbrev Cstt:Ctx:=qj prog [(140,qK [.g Xk] (FPt lowP)),(142,qK [.g Xk] (FPa Ju)),(143,qK [.g Xk] (FPi ve)),(139,qK [] (YO e8)),(90,qK [] (YO bO)),(141,qK [.g jQ,.g jQ] (B9 K4))]
theorem Ul:AM.Good Cstt (fun g=>[139,141].contains g):=qx mixed ⟨Li,by simp,Fm,by simp,df,by simp,gH,fun _=>jn _ _,Kf,by simp,po,fun _=>jn _ _,trivial⟩
theorem uv:q8.v.small:=⟨by decide,fun p Y=>by simp[q8]at Y;subst Y;decide⟩
theorem K5(p:Part)(i:Nat):(jw p i).v.small:=by
 have h:(jw p i).v.pre=[[48]]:=by unfold jw;split<;>rfl
 exact⟨by rw[h];decide,fun q a=>by rw[h]at a;simp at a;subst a;decide⟩
theorem Z9{p:Part}(h:vr p.pre):(ZA p).v.small:=h
theorem Q2{p:Part}(h:vr p.pre):(vw p).v.small:=by
 unfold vw;split
 ·exact K5 _ _
 ·exact h
theorem uw(c:Cut):(Sh.g jQ).fix (.agg c.V)=.agg c.V:=by simp[Cut.V]
theorem Oy(c:Cut)(Y:Hp):zO Y (.agg c.V)=some (.agg c.V,Y):=by simp[Cut.V]
theorem We(x y:Cut)(Y:Hp)(Z:Nat)(b:x.v.small)(c:y.v.small):qK [.g jQ,.g jQ] (B9 K4) [.agg x.V,.agg y.V] Y Z=some (K4 x y,Y,Z):=
 vL (show zH Y [.agg x.V,.agg y.V]=some ([.agg x.V,.agg y.V],Y) by simp only[zH,Oy]) (by show B9 _ [(Sh.g jQ).fix (.agg x.V),(Sh.g jQ).fix (.agg y.V)]=_;rw[uw,uw];exact qX (V:=fun a:Cut×Cut=>[O.agg a.1.V,.agg a.2.V]) (a:=(x,y)) Ou ⟨b,c⟩) (.inr (by simp[Cut.V]))
theorem mY(c:xG)(T:c.ok):∃r0,zG Cstt f91 [.agg c.V]=some r0/\wW r0 (JN c):=by
 obtain⟨h,p,U⟩:=c;obtain⟨_,T⟩:=T;simp only at T;refine y6 (sh:=.s 11 jA) rfl ?_;have e:=fun Y Z=>Ow lowP p Y Z
 have J:∀(Y:Hp) (Z:Nat),qK [] (YO e8) [] Y Z=some (.agg [int q8.v.a,int q8.v.b,int q8.v.c,.sl 1 (qJ q8.v.pre),yh q8.after],Y,Z):=fun Y Z=>Q1 _ Y Z
 have X:∀(Y:Hp) (Z:Nat),qK [] (YO bO) [] Y Z=some (.sl 11 (qn [yt q8]),Y,Z):=fun Y Z=>Q1 _ Y Z
 simp only[lowP,Part.V,Cut.V]at e;by_cases K:h=jy
 ·subst K;simp[xG.V,e,X,jy,qy,JN,vy,qn,yt,wG.V,Cut.V,QP,f91]
 obtain⟨Y,ht⟩:=T.resolve_left K;have B:vr p.pre:=Y.2.2.2.2;have k:(h==[97,108,108])=false:=by simpa[jy]using K
 by_cases W:h=[62,61]
 ·subst W;simp[xG.V,e,k,zI,qe,zs,zF,zr,jy,qy,JN,vy,qn,yt,wG.V,Cut.V,QP,f91]
 have l:=jl W;have L:=fun Y Z=>We q8 (ZA p) Y Z uv (Z9 B)
 have N:=fun Y Z=>We q8 (vw p) Y Z uv (Q2 B)
 have G:=fun I Z=>Cb Ju p (.agg p.V) I Z Y (by simp[Part.V]) (lf p I) (by simp[Part.V])
 simp only[K4,Ju,Part.V,Cut.V]at L N G;by_cases s2:h=[60]
 ·subst s2;simp[xG.V,e,J,L,k,l,jy,qy,JN,vy,qn,wG.V,Cut.V,f91]
 have m:=jl s2;by_cases s3:h=[62]
 ·subst s3;simp[xG.V,e,G,k,l,m,zI,qe,zs,zF,zr,jy,qy,JN,vy,qn,yt,wG.V,Cut.V,QP,f91]
 have q:=jl s3;by_cases s4:h=[60,61]
 ·subst s4;simp[xG.V,e,G,J,N,k,l,m,q,zI,qe,zs,zF,zr,jy,qy,JN,vy,qn,yt,wG.V,Cut.V,QP,f91]
 have r:=jl s4;by_cases s5:h=[45]
 ·subst s5;have P:=ht rfl;have Q:=fun Y Z=>We (ZA p) (vw U) Y Z (Z9 B) (Q2 P.2.2.2.2)
  have R:=fun I Z=>Cb Ju U (.agg U.V) I Z P (by simp[Part.V]) (lf U I) (by simp[Part.V])
  simp only[K4,Ju,Part.V,Cut.V]at Q R;simp[xG.V,e,R,Q,k,l,m,q,r,zI,qe,zs,zF,zr,jy,qy,JN,vy,qn,yt,wG.V,Cut.V,QP,f91]
 have t:=jl s5;have u:=fun i (hi:i<3) I Z=>Cf ve p i (.agg p.V) I Z Y hi (by simp[Part.V]) (lf p I) (by simp[Part.V])
 have w:=fun i Y Z=>We (ZA p) (jw p i) Y Z (Z9 B) (K5 p i)
 simp only[K4,ve,Part.V,Cut.V]at u w;have x:i6.wrap (p.has-1)=p.has-1:=wU (by have:=Y.2.2.2.1;omega) (by have:=Y.2.2.2.1;omega);by_cases s6:h=[126]
 ·subst s6;have hm:(if 1<p.has-1 then 1 else p.has-1)=(((min (p.has-1) 1).toNat:Nat):Int):=by have:=Y.2.2.2.1;split<;>omega
  have d:=u (min (p.has-1) 1).toNat (by omega);rw[<-hm]at d;simp[xG.V,e,d,w,x,k,l,m,q,r,t,zI,qe,zs,zF,zr,jy,qy,JN,vy,qn,yt,wG.V,Cut.V,QP,f91]
 have y:=jl s6;by_cases s7:h=[94]
 ·subst s7;have hs3:(2:Int)<p.has->p.has=3:=by have:=Y.2.2.2.1;omega
  by_cases n:1<p.has
  ·have f:(0:Int)<p.has-1:=by omega
   by_cases C:p.n0=0
   ·have g:(p.n0==0)=true:=by simpa using C
    by_cases D:2<p.has
    ·have j:(1:Int)<p.has-1:=by omega
     have E:¬(2:Int)<p.has-1:=by have:=Y.2.2.2.1;omega
     by_cases H:p.n1=0
     ·have z:(p.n1==0)=true:=by simpa using H
      have o:jM p=2:=by simp[jM,n,f,D,j,E,C,H]
      have d:=u 2 (by omega);rw[show((2:Nat):Int)=2 from rfl]at d;simp[xG.V,e,x,k,l,m,q,r,t,y,n,f,D,j,E,g,z,jy];rw[zJ];simp[xG.V,e,x,k,l,m,q,r,t,y,n,f,D,j,E,g,z];rw[zJ];simp[xG.V,e,x,k,l,m,q,r,t,y,n,f,D,j,E,g,z];rw[zJ];simp[xG.V,e,x,k,l,m,q,r,t,y,d,w,o,n,f,D,j,E,g,z,zI,qe,zs,zF,zr,jy,qy,JN,vy,qn,yt,wG.V,Cut.V,QP,f91]
     ·have A:=jl H;have o:jM p=1:=by simp[jM,n,f,D,j,C,H,A]
      have d:=u 1 (by omega);rw[show((1:Nat):Int)=1 from rfl]at d;simp[xG.V,e,x,k,l,m,q,r,t,y,n,f,D,j,g,A,jy];rw[zJ];simp[xG.V,e,x,k,l,m,q,r,t,y,n,f,D,j,g,A];rw[zJ];simp[xG.V,e,x,k,l,m,q,r,t,y,d,w,o,n,f,D,j,g,A,zI,qe,zs,zF,zr,jy,qy,JN,vy,qn,yt,wG.V,Cut.V,QP,f91]
    ·have j:¬(1:Int)<p.has-1:=by omega
     have o:jM p=1:=by simp[jM,n,f,D,j,C]
     have d:=u 1 (by omega);rw[show((1:Nat):Int)=1 from rfl]at d;simp[xG.V,e,x,k,l,m,q,r,t,y,n,f,D,j,g,jy];rw[zJ];simp[xG.V,e,x,k,l,m,q,r,t,y,n,f,D,j,g];rw[zJ];simp[xG.V,e,x,k,l,m,q,r,t,y,d,w,o,n,f,D,j,g,zI,qe,zs,zF,zr,jy,qy,JN,vy,qn,yt,wG.V,Cut.V,QP,f91]
   ·have F:=jl C;have o:jM p=0:=by simp[jM,n,f,C,F]
    have d:=u 0 (by omega);rw[show((0:Nat):Int)=0 from rfl]at d;simp[xG.V,e,x,k,l,m,q,r,t,y,n,f,F,jy];rw[zJ];simp[xG.V,e,x,k,l,m,q,r,t,y,d,w,o,n,f,F,zI,qe,zs,zF,zr,jy,qy,JN,vy,qn,yt,wG.V,Cut.V,QP,f91]
  ·have f:¬(0:Int)<p.has-1:=by omega
   have o:jM p=0:=by simp[jM,n,f]
   have d:=u 0 (by omega);rw[show((0:Nat):Int)=0 from rfl]at d;simp[xG.V,e,x,k,l,m,q,r,t,y,n,f,jy];rw[zJ];simp[xG.V,e,x,k,l,m,q,r,t,y,d,w,o,n,f,zI,qe,zs,zF,zr,jy,qy,JN,vy,qn,yt,wG.V,Cut.V,QP,f91]
 have e7:=jl s7;have S:=fun Y Z=>We (ZA p) (vw p) Y Z (Z9 B) (Q2 B)
 simp only[K4,Cut.V]at S;simp only[jy]at K;have e1':=W;simp[xG.V,e,G,S,k,l,m,q,r,t,y,e7,K,W,s2,s3,s4,s5,s6,s7,zI,qe,zs,zF,zr,jy,qy,JN,vy,qn,yt,wG.V,Cut.V,QP,f91]
noncomputable def FCm (f:xG->O):zb->Option O:=qW (α:=xG) (fun c=>[.agg c.V]) xG.ok f
theorem iA:zi prog 91 (qK [.g uu] (FCm JN)):=
 yf (fn:=f91) Ul (wc func91) _ _ fun args r h=>by obtain⟨c,rfl,a,rfl⟩:=zL h;obtain⟨r0,b,d⟩:=mY c a;exact⟨by simp[f91],r0,b,d⟩
def wx:List za:=[[62,61],[60,61],[62],[60],[61],[126],[94]]
def wQ:List za->za->za×za
 |[],s=>([],s)
 |g::l,s=>if g.isPrefixOf s=true then(g,s.drop g.length)else wQ l s
def Um(s:za):O:=.wL [str (wQ wx s).1,str (wQ wx s).2]
noncomputable abbrev Cop:Ctx:=qj prog [(193,zn false [] (WV T7 fun _ _=>True))]
theorem zdi:Gd Cop:=qQ mixed ⟨ir,trivial⟩
theorem pq(s:za)(h:s.length<=qg):zG Cop f137 [str s]=some (Um s):=by
 refine zu rfl ?_;have l:∀Y Z,zs prog Y Z 56 7 [(0,str [62,61]),(1,str [60,61]),(2,str [62]),(3,str [60]),(4,str [61]),(5,str [126]),(6,str [94])]=some (.own Z 0 7,qf Y Z (some ⟨9,1,true,qJ wx⟩),Z+1):=fun Y Z=>by simp[zs,zF,zr,wx,str]
 simp[str]at l;simp[l];refine ql (fun k M Y Z=>M 0=str s/\M 8=.own 0 0 7/\M 9=int 7/\M 10=int k/\Y 0=some ⟨9,1,true,qJ wx⟩/\wQ wx s=wQ (wx.drop k) s) 7 ⟨by simp,by simp,by simp,by simp,by simp,by simp⟩ ?_;rintro k M Y Z r ⟨f,g,i,b,m,a⟩;by_cases c:k<7
 ·have e:k<wx.length:=c;have j:wx[k].length<=qg:=by
   have:∀q∈wx,q.length<=qg:=by decide
   exact this _ (zw e)
  have n:=fun Y Z=>Hm s wx[k] Y Z h j
  have o:=wv k;have d:(k:Int)<7:=by omega
  rw[zl e]at a;simp only[wQ]at a;by_cases Y:(wx[k]).isPrefixOf s=true
  ·rw[zg Y]at a;simp[f,g,i,b,m,d,c,e,n,Y,o,Um,a,yx,f137]
  ·rw[zf Y]at a;have p:(wx[k]).isPrefixOf s=false:=Bool.eq_false_iff.2 Y;simp[f,g,i,b,m,d,c,e,n,p,o];exact⟨by omega,a⟩
 ·obtain rfl:k=7:=by omega
  rw[show wx.drop 7=[]from rfl]at a;simp only[wQ]at a;simp[f,g,i,b,Um,a,yx, f137]
theorem mZ:zi prog 137 (zn false [] (M0 Um)):=
 VG zdi func137 false [] fun l Y=>⟨by simp[f137],_,pq l Y,q9 _⟩
def oT(l:za):Bool:=l.isEmpty
theorem na:zi prog 135 (zn false [] (FS oT)):=
 VG jj func135 false [] fun l Y=>⟨by simp[f135],_,zu rfl (by simp[yx,oT,f135]),q9 _⟩
def e9:Nat->List za->Int
 |_,[]=>-1
 |k,x::l=>if x=[]then k else e9 (k+1) l
def lg:O:=.fn (.func 135) [] []
noncomputable def FIx:zb->Option O:=qW (α:=List za) (fun l=>[.sl 1 (qJ l),lg]) vr (fun l=>int (e9 0 l))
noncomputable abbrev Cixf:Ctx:=qj prog [(135,zn false [] (FS oT))]
theorem Un:Gd Cixf:=qQ mixed ⟨na,trivial⟩
theorem iB(l:List za)(h:vr l):zG Cixf f189 [.sl 1 (qJ l),lg]=some (int (e9 0 l)):=by
 refine zu rfl ?_;obtain⟨o,e⟩:=h;unfold qg at o;simp[lg];refine ql (fun k M Y Z=>M 0=.sl 1 (qJ l)/\M 1=lg/\M 7=int l.length/\M 8=int k/\e9 0 l=e9 k (l.drop k)) l.length ⟨by simp,by simp[lg],by simp,by simp,by simp⟩ ?_;rintro k M Y Z q ⟨f,g,i,j,b⟩;by_cases a:k<l.length
 ·have m:=wv k;have n:=fun p Z=>kK oT l[k] p Z (e _ (zw a))
  rw[zl a]at b;simp only[e9]at b;by_cases d:l[k]=[]
  ·rw[zg d]at b;have c:oT l[k]=true:=by simpa[oT]using d
   simp[f,g,i,j,lg,a,n,c,m,b,yx,f189]
  ·rw[zf d]at b;have c:oT l[k]=false:=by simpa[oT]using d
   simp[f,g,i,j,lg,a,n,c,m];exact⟨a,b⟩
 ·obtain rfl:k=l.length:=by omega
  rw[zA]at b;simp only[e9]at b;simp[f,g,i,j,b,yx,f189]
theorem Oz:∀a b:List za,[O.sl 1 (qJ a),lg]=[O.sl 1 (qJ b),lg]->a=b:=fun a b e=>by
 simp only[zq,qh]at e;injection e with _ e
 exact v8 e
theorem fc:zi prog 189 (zn false [] FIx):=
 VG Un func189 false [] fun l Y=>⟨by simp[f189],_,iB l Y,q9 _⟩
theorem OA(l:List za)(Y:Hp)(Z id:Nat)(h:vr l)(b:Y id=some (K2 l)):zn false [] FIx [.own id 0 l.length,lg] Y Z=some (int (e9 0 l),Y,Z):=by
 have c:(qJ l).take l.length=qJ l:=qi (by simp);refine jm (show zH Y [.own id 0 l.length,lg]=some ([.sl 1 (qJ l),lg],qf Y id none) by have:Y id=some ⟨9,1,true,qJ l⟩:=b;simp[lg,this,c]) (qX (V:=fun l:List za=>[O.sl 1 (qJ l),lg]) (a:=l) Oz h) (.inl rfl)
def wJ(l:List za):List za:=l.filter fun x=>!oT x
theorem rU:∀(l:List za) (k:Nat),(e9 k l=-1/\wJ l=l)\/∃i,∃h:i<l.length,e9 k l=((k+i:Nat):Int)/\oT l[i]=true/\wJ (l.take i)=l.take i
 |[],k=>.inl ⟨rfl,rfl⟩
 |x::l,k=>by
  by_cases a:x=[]
  ·exact .inr ⟨0,by simp,by simp[e9,a],by simp[oT,a],by simp[wJ]⟩
  ·have b:oT x=false:=by simpa[oT]using a
   rcases rU l (k+1)with⟨c,d⟩|⟨i,h,c,d,e⟩
   ·exact .inl ⟨by simp[e9,a,c],by simp only[wJ,List.filter_cons,b];simpa[wJ]using d⟩
   ·refine .inr ⟨i+1,by simpa using h,by simp only[e9,zf a,c];congr 1;omega,by simpa using d,?_⟩;simp only[ziM,wJ,List.filter_cons,b];simpa[wJ]using e
theorem K6{l:List za}{j:Nat}(h:j<l.length):wJ (l.take (j+1))=if oT l[j]=true then wJ (l.take j)else wJ (l.take j)++[l[j]]:=by rw[qE h];simp only[wJ,zjj,List.filter_cons,List.filter_nil];cases oT l[j]<;>simp
theorem gI(a b:List za):qJ (a++b)=qJ a++qJ b:=by simp[qJ]
theorem Ln{l:List za}{i:Nat}(h:i<l.length):qJ l=qJ (l.take i)++[str l[i]]::qJ (l.drop (i+1)):=by rw[<-X8,<-gI,<-zl h,zel]
noncomputable abbrev Cdf:Ctx:=qj prog [(135,zn false [] (FS oT)),(189,zn false [] FIx)]
theorem zdj:Gd Cdf:=qQ mixed ⟨na,fc,trivial⟩
theorem fe:zi prog 134 (kX Cdf f134):=J3 zdj func134
def DelQ(l:List za)(id:Nat)(Y:Hp)(Z:Nat)(x:O)(b:Hp)(c:Nat):Prop:=x=.own id 0 (wJ l).length/\c=Z/\(∃a,b id=some ⟨9,1,true,qJ (wJ l)++a⟩)/\∀j,j≠id->b j=Y j
theorem Fo(l:List za)(E:Hp)(S id:Nat)(h:vr l)(F:E id=some (K2 l)):∃x T Z',kX Cdf f134 [.own id 0 l.length,lg] E S=some (x,T,Z')/\DelQ l id E S x T Z':=by
 unfold kX;rw[zg (by simp[f134])];refine w9 rfl ?_;have n:=OA l E S id h F;obtain⟨hl,X⟩:=h;unfold qg at hl;simp only[lg]at n;have G:E id=some ⟨9,1,true,qJ l⟩:=F;rcases rU l 0 with⟨e1,H⟩|⟨i,U,e1,H,e3⟩
 ·rw[e1]at n;simp[lg,n,DelQ,H,f134];exact⟨[],by simpa using G⟩
 ·rw[e1]at n;have hi1:((i:Int)==-1)=false:=by simp
  have w:=wv i;simp[lg,n,hi1,w];refine ql (fun k M Y Z=>M 0=.own id 0 l.length/\M 1=lg/\M 5=int (wJ (l.take (i+1+k))).length/\M 6=int ((i:Int)+1+k)/\Z=S/\(∀j,j≠id->Y j=E j) /\
    ∃a,Y id=some ⟨9,1,true,qJ (wJ (l.take (i+1+k)))++a++qJ (l.drop (i+1+k))⟩/\(wJ (l.take (i+1+k))).length+a.length=i+1+k/\0<a.length/\∀c∈a,c.length=1) (l.length-(i+1))
   ⟨by simp,by simp[lg],by simp[K6 U,H,e3];omega,by simp,rfl,fun _ _=>rfl,[[str l[i]]],by simp[K6 U,H,e3,G];exact Ln U,by simp[K6 U,H,e3];omega,by simp,by simp⟩ ?_
  rintro k M Y Z hk ⟨h0,h1,I,h6,rfl,z,a,s,A,J,B⟩;obtain⟨j,hj⟩:=wM (i+1+k);have C:M 6=int j:=by rw[h6];congr 2;omega
  rw[hj]at I s A;by_cases g:j<l.length
  ·have hc:=fun T Z=>kK oT l[j] T Z (X _ (zw g))
   have K:=wv j;have hww:=wj (((wJ (l.take j)).length:Int)+1);have u:(qJ (wJ (l.take j))++a++qJ (l.drop j))[j]?=some [str l[j]]:=by rw[qo (by simp;omega),zl g,X8];rw[show j-(qJ (wJ (l.take j))++a).length=0 by simp;omega];rfl
   have o:(qJ (wJ (l.take j))++a++qJ (l.drop j)).length=l.length:=by simp;omega
   obtain⟨d,f⟩:=wM (qJ (wJ (l.take j))++a++qJ (l.drop j));rw[f]at s u o;have p:∀h:j<d.length,d[j]=[str l[j]]:=fun h=>(zj.1 u).2
   have t:=K6 g;have L:i+1+(k+1)=j+1:=by omega
   have w:(wJ (l.take j)).length<l.length:=by omega
   cases W:oT l[j]
   ·rw[W,zf (by simp)]at t;obtain⟨y,b,rfl,D⟩:∃y b,a=[y]::b/\∀c∈b,c.length=1:=by
     cases a with
     |nil=>simp at J
     |cons x b=>
      have:=B x (by simp)
      match x,this with
      |[y],_=>exact⟨y,b,rfl,fun c hc=>B c (by simp[hc])⟩
    have hg3:∀h:(wJ (l.take j)).length<d.length,d[(wJ (l.take j)).length]=[y]:=fun h=>by
     have:d[(wJ (l.take j)).length]?=some [y]:=by rw[<-f,qP,qo (by simp)];simp
     exact(zj.1 this).2
    have N:d.set (wJ (l.take j)).length [str l[j]]=qJ (wJ (l.take j))++([str l[j]]::b++qJ (l.drop j)):=by rw[<-f,qP,List.set_append_right _ _ (by simp)];simp
    simp only[zd]at A;simp[h0,h1,I,C,lg,g,s,p,hc,W,K,hww,w,o,hg3,N,L,t];refine⟨by omega,by omega,fun q P=>by rw[w5 _ _ _ _ P];exact z q P,b++[[str l[j]]],?_,by simp;omega,by simp,?_⟩
    ·rw[gI];simp;rw[zl g,X8]
    ·intro c hc;rcases qO.1 hc with hc|hc
     ·exact D c hc
     ·simp at hc;subst hc;rfl
   ·rw[W,zg rfl]at t;simp[h0,h1,I,C,lg,g,s,p,hc,W,K,L,t,o];refine⟨by omega,by omega,z,a++[[str l[j]]],?_,by simp;omega,by simp,?_⟩
    ·rw[<-f];simp;rw[zl g,X8]
    ·intro c hc;rcases qO.1 hc with hc|hc
     ·exact B c hc
     ·simp at hc;subst hc;rfl
  ·obtain rfl:j=l.length:=by omega
   rw[we]at I s A;rw[zA,Oi,jf]at s;have hn1:¬(l.length:Int)<l.length:=by omega
   have v:(wJ l).length<=l.length:=by omega
   have m:l.length-(wJ l).length=a.length:=by omega
   have hcl:VQ prog Y Z 56 (.own id (wJ l).length a.length)=some (.wL [],qf Y id (some ⟨9,1,true,qJ (wJ l)++List.replicate a.length [str []]⟩),Z):=by
    have ht:(qJ (wJ l)++a).take (wJ l).length=qJ (wJ l):=by rw[List.take_append_of_le_length (by simp),Lh]
    have hd:(qJ (wJ l)++a).drop ((wJ l).length+a.length)=[]:=vj (by simp);simp[VQ,s,ht,hd,J,str]
   have hs1:∀Y:Hp,Y id=some ⟨9,1,true,qJ (wJ l)++a⟩->yZ prog Y 56 (.own id 0 l.length) (some (some (int (wJ l).length))) none=some (.own id (wJ l).length a.length):=fun Y F=>by
    have:¬l.length=(wJ l).length:=by omega
    simp[yZ,F,kl,v,m,this];intro e;rw[e]at m⊢;simp at m;simp[m]
   have hs2:∀(Y:Hp) (r:List zb),Y id=some ⟨9,1,true,r⟩->yZ prog Y 56 (.own id 0 l.length) none (some (some (int (wJ l).length)))=some (.own id 0 (wJ l).length):=fun Y r F=>by simp[yZ,F,kl,v]
   have Q:=hs1 Y s;have R:=hs2 (qf Y id (some ⟨9,1,true,qJ (wJ l)++List.replicate a.length [str []]⟩)) _ (by simp;rfl);simp[h0,h1,I,C,lg,s,Q,R,hcl,f134];exact⟨rfl,rfl,⟨_,by simp;rfl⟩,fun q P=>by rw[w5 _ _ _ _ P];exact z q P⟩
def ff:xG:=⟨jy,wz,wz⟩
def Kh(a:za)(p:Part):xG:=⟨a,p,wz⟩
def kp(w:za)(l:List za):Option (xG×List za):=
 if(wQ wx w).1=[]/\yD (wQ wx w).2=true then some (ff,l)
 else if(wQ wx w).1≠[]/\(wQ wx w).2=[]/\l≠[]then(match l with
  |r::l'=>if(zP r).2=true then some (Kh (wQ wx w).1 (zP r).1,l')else none
  |[]=>none)
 else if(zP (wQ wx w).2).2=true then some (Kh (wQ wx w).1 (zP (wQ wx w).2).1,l)else none
def yH:Nat->List za->Option (List xG)
 | 0,_=>some []
 |_+1,[]=>some []
 |n+1,w::l=>match kp w l with
  |some (c,l')=>(yH n l').map (c::·)
  |none=>none
theorem OB{w:za}{l l':List za}{c:xG}(h:kp w l=some (c,l')):l'.length<=l.length:=by
 unfold kp at h;split at h
 ·injection h with h;injection h with _ h;subst h;exact zk _
 ·split at h
  ·split at h
   ·split at h
    ·injection h with h;injection h with _ h;subst h;simp
    ·cases h
   ·cases h
  ·split at h
   ·injection h with h;injection h with _ h;subst h;exact zk _
   ·cases h
def QN(t:za):List xG×Bool:=
 match wJ (qt t [32])with
 |[a,b,c]=>if b=[45]then([⟨[45],(zP a).1,(zP c).1⟩],(zP a).2&&(zP c).2)else(match yH 3 [a,b,c]with
  |some l=>(l,!l.isEmpty)
  |none=>([],false))
 |ws=>match yH ws.length ws with
  |some l=>(l,!l.isEmpty)
  |none=>([],false)
def ZB(l:List xG):List zb:=l.map xG.V
def ux(t:za):O:=.wL [.sl 11 (ZB (QN t).1),yh (QN t).2]
theorem K7:∀(a:List za) (s:za),(wQ a s).2.length<=s.length
 |[],s=>zk _
 |g::l,s=>by
  simp only[wQ];split
  ·simp
  ·exact K7 l s
noncomputable abbrev Calt:Ctx:=qj prog [(107,jL [] FSp),(134,kX Cdf f134),(136,zn false [] (aF j6)),(137,zn false [] (M0 Um)),(138,zn false [] (FS yD))]
theorem Uo:AM.Good Calt (fun g=>[138].contains g):=qx mixed ⟨Wx,by simp,fe,by simp,db,by simp,mZ,by simp,mO,fun _=>zt _ _,trivial⟩
def Ki:O->Nat
 | .own _ _ n=>n
 |_=>0
def OC(b:List za)(c:List zb)(st:St):Prop:=∃f a l xs,a.length<=f/\xs.length+a.length<=b.length/\b.drop (b.length-a.length)=a/\(a=[]/\st.M 4=.sl 1 []\/st.M 4=.own 0 (b.length-a.length) a.length) /\
 qN st.Y st.Z 105 11 (st.M 9) xs/\(∀n,st.M 9≠.own 0 0 n)/\xs.map (QL uu)=ZB l/\1<=st.Z/\st.Y 0=some ⟨9,1,true,c⟩/\yH b.length b=(yH f a).map (l++·)
theorem sl1(Y:Hp)(a:List zb)(o n:Nat)(b:Y 0=some ⟨9,1,true,a⟩):yZ prog Y 56 (.own 0 o (n+1)) (some (some (int 1))) none=some (if n=0 then .sl 1 []else .own 0 (o+1) n):=by simp[yZ,b,kl]
theorem ZC{b a}{f':Nat}{l':List za}{l:List xG}{c:xG}{xs:List zb}{d:zb}{st:St}{v4:O}(k:l'.length<=f')(r:xs.length+1+l'.length<=b.length)(f:b.drop (b.length-l'.length)=l')(m:st.M 4=v4)(g:l'=[]/\v4=.sl 1 []\/v4=.own 0 (b.length-l'.length) l'.length)
  (o:qN st.Y st.Z 105 11 (st.M 9) (xs++[d])) (h:∀n,st.M 9≠.own 0 0 n) (e:QL uu d=c.V) (i:xs.map (QL uu)=ZB l) (j:1<=st.Z) (p:st.Y 0=some ⟨9,1,true,a⟩) (q:yH b.length b=(yH f' l').map ((l++[c])++·)):OC b a st:=
 ⟨f',l',l++[c],xs++[d],k,by simp;omega,f,by rw[m];exact g,o,h,by simp[i,e,ZB],j,p,q⟩
theorem Cg(f:Nat):yH f []=some []:=by cases f<;>rfl
theorem fg(t:za)(ht:t.length+1<=qg):∃r0,zG Calt f89 [str t]=some r0/\wW r0 (ux t):=by
 refine y6 (sh:=.s 11 uu) rfl ?_;have hsp:=fun Y Z=>Z2 t [32] Y Z (by omega) (by decide) (by decide)
 have hpl:∀p∈qt t [32],p.length+1<=qg:=fun p Y=>by have:=vV Y;omega
 have hsm:vr (qt t [32]):=⟨by have:=xP (s:=t) (sep:=[32]) (by simp);omega,fun p Y=>by have:=hpl p Y;omega⟩;obtain⟨x,Y1,nx1,SF,hx,hnx,⟨pad,hb⟩,hfr⟩:=Fo (qt t [32]) (qf (fun _=>none) 0 (some ⟨9,1,true,qJ (qt t [32])⟩)) 1 0 hsm (by simp);subst hx;subst hnx;obtain⟨g,hws⟩:=wM (wJ (qt t [32]));have hwl:∀p∈g,p.length+1<=qg:=fun p Y=>hpl p (by rw[<-hws]at Y;exact(pY.1 Y).1)
 rw[hws]at SF hb;simp only[lg]at SF;have E:g.length<=qg:=by
  have h1:=hU (fun x=>!oT x) (qt t [32]);have h2:=xP (s:=t) (sep:=[32]) (by simp);have h3:g.length=(wJ (qt t [32])).length:=by rw[hws]
  unfold wJ at h3;omega
 have To:=fun(p:za) (Y:p.length+1<=qg) B Z=>Zd j6 p B Z Y
 simp[hsp,SF];by_cases hc:∃a c,g=[a,[45],c]
 ·obtain⟨a,c,rfl⟩:=hc;have ha:=fun B Z=>To a (hwl a (by simp)) B Z
  have GN:=fun B Z=>To c (hwl c (by simp)) B Z
  simp only[j6,Part.V]at ha GN;have m:ux t=.wL [.sl 11 (ZB [⟨[45],(zP a).1,(zP c).1⟩]),yh ((zP a).2&&(zP c).2)]:=by simp only[ux,QN,hws,zK]
  rw[m];have hn:∀k,0<k->Y1 k=none:=fun k hk=>by rw[hfr k (by omega),w5 _ _ _ _ (by omega)]
  simp[hb,ha,GN,zI,qe,zs,zF,zr,qy,ZB,xG.V,f89]
 ·have m:ux t=(match yH g.length g with
   |some l=>.wL [.sl 11 (ZB l),yh (!l.isEmpty)]
   |none=>.wL [.sl 11 [],yh false]):=by
   have hR:QN t=(match yH g.length g with
    |some l=>(l,!l.isEmpty)
    |none=>([],false)):=by
    unfold QN;rw[hws]
    match g,hc with
    |[],_=>rfl
    |[_],_=>rfl
    |[_,_],_=>rfl
    |[a,b,c],hc=>
     have:¬b=[45]:=fun e=>hc ⟨a,c,by rw[e]⟩
     simp only[zf this];rfl
    |_::_::_::_::_,_=>rfl
   unfold ux;rw[hR];cases yH g.length g<;>rfl
  obtain⟨z,Iq⟩:=wM (qJ g++pad);have hrl:g.length<=z.length:=by rw[<-Iq];simp
  have hat:∀k (h:k<g.length) (h':k<z.length),z[k]=[str g[k]]:=fun k h h'=>by subst Iq;rw[List.getElem_append_left (by simpa using h)];simp[qJ]
  rw[Iq]at hb;clear Iq;by_cases h3:g.length=3
  ·have h31:=hat 1 (by omega) (by omega);have hne:(g[1]==[45])=false:=by
    match g,h3,hc with
    |[a,b,c],_,hc=>simpa using fun e=>hc ⟨a,c,by rw[e]⟩
   have h3l:1<z.length:=by omega
   have h33:((g.length:Int)==3)=true:=by simp[h3]
   simp[hb,h33,h3,h31,hne,h3l];refine l9 (OC g z) (fun st=>Ki (st.M 4)) ⟨g.length,g,[],[],zk _,by simp,by simp,.inr (by simp;try omega),.inl ⟨by simp,rfl⟩,by simp,rfl,by simp,by simpa using hb,by simp⟩ ?_;clear SF hfr hsp;rintro⟨M,Y,Z⟩ ⟨f,rest,l,xs,hf,hxl,M8,h4,T,hO0,F,hnx,J,S⟩;simp only at h4 T hO0 hnx J;cases rest with
   |nil=>
    rw[Cg]at S;simp only[zE,jf]at S;rw[S]at m;rw[m];have SG:xs.length=l.length:=by have:=zp List.length F;simpa[ZB]using this
    have hb1:(decide ((0:Int)<(xs.length:Int)))=!l.isEmpty:=by rw[SG];cases l<;>simp
    have hb2:(decide (0<xs.length))=!l.isEmpty:=by rw[SG];cases l<;>simp
    have Vs:M 4=.sl 1 []\/M 4=.own 0 g.length 0:=by
     rcases h4 with⟨_,h4⟩|h4
     ·exact .inl h4
     ·exact .inr (by simpa using h4)
    rcases T with⟨h9,rfl⟩|⟨id,hid,h9,hb9⟩
    ·simp[ZB]at F;subst F;rcases Vs with Vs|Vs<;>simp[Vs,h9,qy,ZB,f89]
    ·rcases Vs with Vs|Vs<;>simp[Vs,h9,hb9,hb1,hb2,F,qy,f89]
   |cons w l'=>
    obtain⟨f',rfl⟩:∃f',f=f'+1:=⟨f-1,by simp at hf;omega⟩;simp only[zd]at hf hxl M8 h4;obtain⟨o,ho⟩:=wM (g.length-(l'.length+1));rw[ho]at M8 h4;have Vs:M 4=.own 0 o (l'.length+1):=by
     rcases h4 with⟨h,_⟩|h
     ·cases h
     ·exact h
    have hol:o<g.length:=by omega
    have C:o<z.length:=by omega
    rw[zl hol]at M8;injection M8 with hdw K
    have u:z[o]=[str w]:=by rw[hat o hol C,hdw]
    have hww:w.length+1<=qg:=hwl w (by rw[<-hdw];exact zw hol);have D:=fun B U=>c7 Um w B U (by omega) rfl
    simp only[Um]at D;have W:(wQ wx w).2.length+1<=qg:=by have:=K7 wx w;omega
    have y:=fun B U=>kK yD (wQ wx w).2 B U (by omega)
    obtain⟨v4,hv4⟩:=wM (if l'.length=0 then O.sl 1 []else .own 0 (o+1) l'.length);have hs1:=fun B (hh:B 0=some _)=>sl1 B z o l'.length hh
    rw[hv4]at hs1;have n:=hs1 Y J;have X:o+1=g.length-l'.length:=by omega
    have A:l'=[]/\v4=.sl 1 []\/v4=.own 0 (g.length-l'.length) l'.length:=by
     rw[<-hv4,<-X];by_cases h:l'.length=0
     ·exact .inl ⟨qM.1 h,zg h⟩
     ·exact .inr (zf h)
    have sY:Ki v4<l'.length+1:=by rcases A with⟨_,h⟩|h<;>rw[h]<;>simp[Ki]
    have hl4:JF prog 56 v4=some (int l'.length):=by
     rcases A with⟨h1,h⟩|h
     ·subst h1;rw[h];simp
     ·rw[h];simp
    rw[X]at K;have sZ:=fun c T=>qN.ji (Y:=Y) (Z:=Z) (v:=M 9) (xs:=xs) (P:=prog) (t:=97) (c:=c) T o9 a7 a8 ba rfl (by omega) (by unfold maxLen;unfold qg at E;omega) (by unfold qg at E;omega)
    by_cases hA:(wQ wx w).1=[]/\yD (wQ wx w).2=true
    ·have L:kp w l'=some (ff,l'):=by unfold kp;rw[zg hA]
     have i:yH g.length g=(yH f' l').map ((l++[ff])++·):=by rw[S];simp only[yH,L];cases yH f' l'<;>simp
     have SH:=sZ [str jy,int 0,int 0,int 0,int 0,.nil,int 0,int 0,int 0,int 0,.nil] T;obtain⟨hA1,hA2⟩:=hA;simp only[jy]at SH;simp[Vs,J,C,u,D,y,n,hA1,hA2,SH,zI,qe,zs,zF,zr];have n0:¬0=Z:=by omega
     have n1:¬0=Z+1:=by omega
     have n2:¬0=Z+2:=by omega
     have R:=fun B=>yr T B 0 hO0
     exact⟨ZC (v4:=v4) (c:=ff) (f':=f') (l':=l') (l:=l) (xs:=xs) (by omega) (by omega) K (by simp) A (by simpa using qN.after) (by simp<;>omega) rfl F (by simp) (by simp[R,n0,n1,n2,J]) i,by simpa[Ki]using sY⟩
    have n0:¬0=Z:=by omega
    have n1:¬0=Z+1:=by omega
    have n2:¬0=Z+2:=by omega
    have R:=fun B=>yr T B 0 hO0
    by_cases hE:(wQ wx w).1=[]
    ·have G:((wQ wx w).1==[])=true:=by simpa using hE
     have H:(wQ wx w).1.isEmpty=true:=by simpa using hE
     have I:((wQ wx w).1 != [])=false:=by simpa using hE
     have hOp:yD (wQ wx w).2=false:=by
      cases h:yD (wQ wx w).2
      ·rfl
      ·exact absurd ⟨hE,h⟩ hA
     have q:=fun B U=>To (wQ wx w).2 W B U
     simp only[j6,Part.V]at q;cases d:(zP (wQ wx w).2).2
     ·have L:kp w l'=none:=by unfold kp;rw[zf hA,zf (fun h=>h.1 hE),zf (by rw[d];simp)]
      have i:yH g.length g=none:=by rw[S];simp only[yH,L];rfl
      rw[i]at m;simp[Vs,J,C,u,D,y,n,G,H,I,hOp,q,d,zI,qe,m,ZB,qy,f89]
     ·have L:kp w l'=some (Kh (wQ wx w).1 (zP (wQ wx w).2).1,l'):=by unfold kp;rw[zf hA,zf (fun h=>h.1 hE),zg d]
      have i:yH g.length g=(yH f' l').map ((l++[Kh (wQ wx w).1 (zP (wQ wx w).2).1])++·):=by rw[S];simp only[yH,L];cases yH f' l'<;>simp
      have j:=qN.ji (P:=prog) (t:=97) (c:=[str (wQ wx w).1,int (zP (wQ wx w).2).1.n0,int (zP (wQ wx w).2).1.n1,int (zP (wQ wx w).2).1.n2,int (zP (wQ wx w).2).1.has,.sl 1 (qJ (zP (wQ wx w).2).1.pre),int 0,int 0,int 0,int 0,.nil]) (T.more (some ⟨103,5,false,[(zP (wQ wx w).2).1.V]⟩)) o9 a7 a8 ba rfl (by omega) (by unfold maxLen;unfold qg at E;omega) (by unfold qg at E;omega);simp only[Part.V]at j;simp[Vs,J,C,u,D,y,n,G,H,I,hOp,q,d,j,zI,qe,zs,zF,zr];exact⟨ZC (v4:=v4) (c:=Kh (wQ wx w).1 (zP (wQ wx w).2).1) (f':=f') (l':=l') (l:=l) (xs:=xs) (by omega) (by omega) K (by simp) A (by simpa using qN.after) (by simp<;>omega) rfl F (by simp) (by simp[R,n0,n1,n2,J]) i,by simpa[Ki]using sY⟩
    have G:=jl hE;have H:(wQ wx w).1.isEmpty=false:=by simpa using hE
    have I:((wQ wx w).1 != [])=true:=by simpa using hE
    by_cases hR:(wQ wx w).2=[]
    ·have N:((wQ wx w).2==[])=true:=by simpa using hR
     have Q:(wQ wx w).2.isEmpty=true:=by simpa using hR
     by_cases hL:l'=[]
     ·have hLz:l'.length=0:=by rw[hL];rfl
      have hLp:¬0<l'.length:=by omega
      have hLq:¬(0:Int)<(l'.length:Int):=by omega
      have q:=fun B U=>To (wQ wx w).2 W B U
      simp only[j6,Part.V]at q;cases d:(zP (wQ wx w).2).2
      ·have L:kp w l'=none:=by unfold kp;rw[zf hA,zf (fun h=>h.2.2 hL),zf (by rw[d];simp)]
       have i:yH g.length g=none:=by rw[S];simp only[yH,L];rfl
       rw[i]at m;simp[Vs,J,C,u,D,y,n,G,H,I,N,Q,hl4,hLp,hLq,q,d,zI,qe,m,ZB,qy,f89]
      ·have L:kp w l'=some (Kh (wQ wx w).1 (zP (wQ wx w).2).1,l'):=by unfold kp;rw[zf hA,zf (fun h=>h.2.2 hL),zg d]
       have i:yH g.length g=(yH f' l').map ((l++[Kh (wQ wx w).1 (zP (wQ wx w).2).1])++·):=by rw[S];simp only[yH,L];cases yH f' l'<;>simp
       have j:=qN.ji (P:=prog) (t:=97) (c:=[str (wQ wx w).1,int (zP (wQ wx w).2).1.n0,int (zP (wQ wx w).2).1.n1,int (zP (wQ wx w).2).1.n2,int (zP (wQ wx w).2).1.has,.sl 1 (qJ (zP (wQ wx w).2).1.pre),int 0,int 0,int 0,int 0,.nil]) (T.more (some ⟨103,5,false,[(zP (wQ wx w).2).1.V]⟩)) o9 a7 a8 ba rfl (by omega) (by unfold maxLen;unfold qg at E;omega) (by unfold qg at E;omega);simp only[Part.V]at j;simp[Vs,J,C,u,D,y,n,G,H,I,N,Q,hl4,hLp,hLq,q,d,j,zI,qe,zs,zF,zr];exact⟨ZC (v4:=v4) (c:=Kh (wQ wx w).1 (zP (wQ wx w).2).1) (f':=f') (l':=l') (l:=l) (xs:=xs) (by omega) (by omega) K (by simp) A (by simpa using qN.after) (by simp<;>omega) rfl F (by simp) (by simp[R,n0,n1,n2,J]) i,by simpa[Ki]using sY⟩
     ·obtain⟨r,l2,rfl⟩:∃r l2,l'=r::l2:=by
       cases l' with
       |nil=>exact absurd rfl hL
       |cons r l2=>exact⟨r,l2,rfl⟩
      have hv:v4=.own 0 (o+1) (l2.length+1):=by
       rcases A with⟨h,_⟩|h
       ·cases h
       ·rw[h,<-X];rfl
      subst hv;simp only[zd]at hf hxl ho Vs n X K sY;have GO:o+1<g.length:=by omega
      have GP:o+1<z.length:=by omega
      rw[<-X,zl GO]at K;injection K with SI SJ
      have Eg:z[o+1]=[str r]:=by rw[hat (o+1) GO GP,SI]
      have ho2:o+1+1=g.length-l2.length:=by omega
      obtain⟨v5,hv5⟩:=wM (if l2.length=0 then O.sl 1 []else .own 0 (o+1+1) l2.length);have GQ:=sl1 Y z (o+1) l2.length J;rw[hv5]at GQ;have SK:l2=[]/\v5=.sl 1 []\/v5=.own 0 (g.length-l2.length) l2.length:=by
       rw[<-hv5,<-ho2];by_cases h:l2.length=0
       ·exact .inl ⟨qM.1 h,zg h⟩
       ·exact .inr (zf h)
      have hmu5:Ki v5<l2.length+1+1:=by rcases SK with⟨_,h⟩|h<;>rw[h]<;>simp[Ki];omega
      rw[ho2]at SJ;have SL:(0:Int)<(l2.length:Int)+1:=by omega
      have Eh:(0:Int)<(l2.length:Int)+1+1:=by omega
      have q:=fun B U=>To r (hwl r (by rw[<-SI];exact zw GO)) B U
      simp only[j6,Part.V]at q;cases d:(zP r).2
      ·have L:kp w (r::l2)=none:=by unfold kp;rw[zf hA,zg ⟨hE,hR,by simp⟩];simp only[d];rfl
       have i:yH g.length g=none:=by rw[S];simp only[yH,L];rfl
       rw[i]at m;simp[Vs,J,C,u,D,y,n,GQ,GP,Eg,G,H,I,N,Q,SL,Eh,q,d,zI,qe,m,ZB,qy,f89]
      ·have L:kp w (r::l2)=some (Kh (wQ wx w).1 (zP r).1,l2):=by unfold kp;rw[zf hA,zg ⟨hE,hR,by simp⟩];simp only[d,zK]
       have i:yH g.length g=(yH f' l2).map ((l++[Kh (wQ wx w).1 (zP r).1])++·):=by rw[S];simp only[yH,L];cases yH f' l2<;>simp
       have j:=qN.ji (P:=prog) (t:=97) (c:=[str (wQ wx w).1,int (zP r).1.n0,int (zP r).1.n1,int (zP r).1.n2,int (zP r).1.has,.sl 1 (qJ (zP r).1.pre),int 0,int 0,int 0,int 0,.nil]) (T.more (some ⟨103,5,false,[(zP r).1.V]⟩)) o9 a7 a8 ba rfl (by omega) (by unfold maxLen;unfold qg at E;omega) (by unfold qg at E;omega);simp only[Part.V]at j;simp[Vs,J,C,u,D,y,n,GQ,GP,Eg,G,H,I,N,Q,SL,Eh,q,d,j,zI,qe,zs,zF,zr];exact⟨ZC (v4:=v5) (c:=Kh (wQ wx w).1 (zP r).1) (f':=f') (l':=l2) (l:=l) (xs:=xs) (by omega) (by omega) SJ (by simp) SK (by simpa using qN.after) (by simp<;>omega) rfl F (by simp) (by simp[R,n0,n1,n2,J]) i,by simpa[Ki]using hmu5⟩
    ·have N:=jl hR;have Q:(wQ wx w).2.isEmpty=false:=by simpa using hR
     have q:=fun B U=>To (wQ wx w).2 W B U
     simp only[j6,Part.V]at q;cases d:(zP (wQ wx w).2).2
     ·have L:kp w l'=none:=by unfold kp;rw[zf hA,zf (fun h=>hR h.2.1),zf (by rw[d];simp)]
      have i:yH g.length g=none:=by rw[S];simp only[yH,L];rfl
      rw[i]at m;simp[Vs,J,C,u,D,y,n,G,H,I,N,Q,q,d,zI,qe,m,ZB,qy,f89]
     ·have L:kp w l'=some (Kh (wQ wx w).1 (zP (wQ wx w).2).1,l'):=by unfold kp;rw[zf hA,zf (fun h=>hR h.2.1),zg d]
      have i:yH g.length g=(yH f' l').map ((l++[Kh (wQ wx w).1 (zP (wQ wx w).2).1])++·):=by rw[S];simp only[yH,L];cases yH f' l'<;>simp
      have j:=qN.ji (P:=prog) (t:=97) (c:=[str (wQ wx w).1,int (zP (wQ wx w).2).1.n0,int (zP (wQ wx w).2).1.n1,int (zP (wQ wx w).2).1.n2,int (zP (wQ wx w).2).1.has,.sl 1 (qJ (zP (wQ wx w).2).1.pre),int 0,int 0,int 0,int 0,.nil]) (T.more (some ⟨103,5,false,[(zP (wQ wx w).2).1.V]⟩)) o9 a7 a8 ba rfl (by omega) (by unfold maxLen;unfold qg at E;omega) (by unfold qg at E;omega);simp only[Part.V]at j;simp[Vs,J,C,u,D,y,n,G,H,I,N,Q,q,d,j,zI,qe,zs,zF,zr];exact⟨ZC (v4:=v4) (c:=Kh (wQ wx w).1 (zP (wQ wx w).2).1) (f':=f') (l':=l') (l:=l) (xs:=xs) (by omega) (by omega) K (by simp) A (by simpa using qN.after) (by simp<;>omega) rfl F (by simp) (by simp[R,n0,n1,n2,J]) i,by simpa[Ki]using sY⟩
  ·have h33:((g.length:Int)==3)=false:=by simp;omega
   simp[hb,h33];refine l9 (OC g z) (fun st=>Ki (st.M 4)) ⟨g.length,g,[],[],zk _,by simp,by simp,.inr (by simp;try omega),.inl ⟨by simp,rfl⟩,by simp,rfl,by simp,by simpa using hb,by simp⟩ ?_;clear SF hfr hsp;rintro⟨M,Y,Z⟩ ⟨f,rest,l,xs,hf,hxl,M8,h4,T,hO0,F,hnx,J,S⟩;simp only at h4 T hO0 hnx J;cases rest with
   |nil=>
    rw[Cg]at S;simp only[zE,jf]at S;rw[S]at m;rw[m];have SG:xs.length=l.length:=by have:=zp List.length F;simpa[ZB]using this
    have hb1:(decide ((0:Int)<(xs.length:Int)))=!l.isEmpty:=by rw[SG];cases l<;>simp
    have hb2:(decide (0<xs.length))=!l.isEmpty:=by rw[SG];cases l<;>simp
    have Vs:M 4=.sl 1 []\/M 4=.own 0 g.length 0:=by
     rcases h4 with⟨_,h4⟩|h4
     ·exact .inl h4
     ·exact .inr (by simpa using h4)
    rcases T with⟨h9,rfl⟩|⟨id,hid,h9,hb9⟩
    ·simp[ZB]at F;subst F;rcases Vs with Vs|Vs<;>simp[Vs,h9,qy,ZB,f89]
    ·rcases Vs with Vs|Vs<;>simp[Vs,h9,hb9,hb1,hb2,F,qy,f89]
   |cons w l'=>
    obtain⟨f',rfl⟩:∃f',f=f'+1:=⟨f-1,by simp at hf;omega⟩;simp only[zd]at hf hxl M8 h4;obtain⟨o,ho⟩:=wM (g.length-(l'.length+1));rw[ho]at M8 h4;have Vs:M 4=.own 0 o (l'.length+1):=by
     rcases h4 with⟨h,_⟩|h
     ·cases h
     ·exact h
    have hol:o<g.length:=by omega
    have C:o<z.length:=by omega
    rw[zl hol]at M8;injection M8 with hdw K
    have u:z[o]=[str w]:=by rw[hat o hol C,hdw]
    have hww:w.length+1<=qg:=hwl w (by rw[<-hdw];exact zw hol);have D:=fun B U=>c7 Um w B U (by omega) rfl
    simp only[Um]at D;have W:(wQ wx w).2.length+1<=qg:=by have:=K7 wx w;omega
    have y:=fun B U=>kK yD (wQ wx w).2 B U (by omega)
    obtain⟨v4,hv4⟩:=wM (if l'.length=0 then O.sl 1 []else .own 0 (o+1) l'.length);have hs1:=fun B (hh:B 0=some _)=>sl1 B z o l'.length hh
    rw[hv4]at hs1;have n:=hs1 Y J;have X:o+1=g.length-l'.length:=by omega
    have A:l'=[]/\v4=.sl 1 []\/v4=.own 0 (g.length-l'.length) l'.length:=by
     rw[<-hv4,<-X];by_cases h:l'.length=0
     ·exact .inl ⟨qM.1 h,zg h⟩
     ·exact .inr (zf h)
    have sY:Ki v4<l'.length+1:=by rcases A with⟨_,h⟩|h<;>rw[h]<;>simp[Ki]
    have hl4:JF prog 56 v4=some (int l'.length):=by
     rcases A with⟨h1,h⟩|h
     ·subst h1;rw[h];simp
     ·rw[h];simp
    rw[X]at K;have sZ:=fun c T=>qN.ji (Y:=Y) (Z:=Z) (v:=M 9) (xs:=xs) (P:=prog) (t:=97) (c:=c) T o9 a7 a8 ba rfl (by omega) (by unfold maxLen;unfold qg at E;omega) (by unfold qg at E;omega)
    by_cases hA:(wQ wx w).1=[]/\yD (wQ wx w).2=true
    ·have L:kp w l'=some (ff,l'):=by unfold kp;rw[zg hA]
     have i:yH g.length g=(yH f' l').map ((l++[ff])++·):=by rw[S];simp only[yH,L];cases yH f' l'<;>simp
     have SH:=sZ [str jy,int 0,int 0,int 0,int 0,.nil,int 0,int 0,int 0,int 0,.nil] T;obtain⟨hA1,hA2⟩:=hA;simp only[jy]at SH;simp[Vs,J,C,u,D,y,n,hA1,hA2,SH,zI,qe,zs,zF,zr];have n0:¬0=Z:=by omega
     have n1:¬0=Z+1:=by omega
     have n2:¬0=Z+2:=by omega
     have R:=fun B=>yr T B 0 hO0
     exact⟨ZC (v4:=v4) (c:=ff) (f':=f') (l':=l') (l:=l) (xs:=xs) (by omega) (by omega) K (by simp) A (by simpa using qN.after) (by simp<;>omega) rfl F (by simp) (by simp[R,n0,n1,n2,J]) i,by simpa[Ki]using sY⟩
    have n0:¬0=Z:=by omega
    have n1:¬0=Z+1:=by omega
    have n2:¬0=Z+2:=by omega
    have R:=fun B=>yr T B 0 hO0
    by_cases hE:(wQ wx w).1=[]
    ·have G:((wQ wx w).1==[])=true:=by simpa using hE
     have H:(wQ wx w).1.isEmpty=true:=by simpa using hE
     have I:((wQ wx w).1 != [])=false:=by simpa using hE
     have hOp:yD (wQ wx w).2=false:=by
      cases h:yD (wQ wx w).2
      ·rfl
      ·exact absurd ⟨hE,h⟩ hA
     have q:=fun B U=>To (wQ wx w).2 W B U
     simp only[j6,Part.V]at q;cases d:(zP (wQ wx w).2).2
     ·have L:kp w l'=none:=by unfold kp;rw[zf hA,zf (fun h=>h.1 hE),zf (by rw[d];simp)]
      have i:yH g.length g=none:=by rw[S];simp only[yH,L];rfl
      rw[i]at m;simp[Vs,J,C,u,D,y,n,G,H,I,hOp,q,d,zI,qe,m,ZB,qy,f89]
     ·have L:kp w l'=some (Kh (wQ wx w).1 (zP (wQ wx w).2).1,l'):=by unfold kp;rw[zf hA,zf (fun h=>h.1 hE),zg d]
      have i:yH g.length g=(yH f' l').map ((l++[Kh (wQ wx w).1 (zP (wQ wx w).2).1])++·):=by rw[S];simp only[yH,L];cases yH f' l'<;>simp
      have j:=qN.ji (P:=prog) (t:=97) (c:=[str (wQ wx w).1,int (zP (wQ wx w).2).1.n0,int (zP (wQ wx w).2).1.n1,int (zP (wQ wx w).2).1.n2,int (zP (wQ wx w).2).1.has,.sl 1 (qJ (zP (wQ wx w).2).1.pre),int 0,int 0,int 0,int 0,.nil]) (T.more (some ⟨103,5,false,[(zP (wQ wx w).2).1.V]⟩)) o9 a7 a8 ba rfl (by omega) (by unfold maxLen;unfold qg at E;omega) (by unfold qg at E;omega);simp only[Part.V]at j;simp[Vs,J,C,u,D,y,n,G,H,I,hOp,q,d,j,zI,qe,zs,zF,zr];exact⟨ZC (v4:=v4) (c:=Kh (wQ wx w).1 (zP (wQ wx w).2).1) (f':=f') (l':=l') (l:=l) (xs:=xs) (by omega) (by omega) K (by simp) A (by simpa using qN.after) (by simp<;>omega) rfl F (by simp) (by simp[R,n0,n1,n2,J]) i,by simpa[Ki]using sY⟩
    have G:=jl hE;have H:(wQ wx w).1.isEmpty=false:=by simpa using hE
    have I:((wQ wx w).1 != [])=true:=by simpa using hE
    by_cases hR:(wQ wx w).2=[]
    ·have N:((wQ wx w).2==[])=true:=by simpa using hR
     have Q:(wQ wx w).2.isEmpty=true:=by simpa using hR
     by_cases hL:l'=[]
     ·have hLz:l'.length=0:=by rw[hL];rfl
      have hLp:¬0<l'.length:=by omega
      have hLq:¬(0:Int)<(l'.length:Int):=by omega
      have q:=fun B U=>To (wQ wx w).2 W B U
      simp only[j6,Part.V]at q;cases d:(zP (wQ wx w).2).2
      ·have L:kp w l'=none:=by unfold kp;rw[zf hA,zf (fun h=>h.2.2 hL),zf (by rw[d];simp)]
       have i:yH g.length g=none:=by rw[S];simp only[yH,L];rfl
       rw[i]at m;simp[Vs,J,C,u,D,y,n,G,H,I,N,Q,hl4,hLp,hLq,q,d,zI,qe,m,ZB,qy,f89]
      ·have L:kp w l'=some (Kh (wQ wx w).1 (zP (wQ wx w).2).1,l'):=by unfold kp;rw[zf hA,zf (fun h=>h.2.2 hL),zg d]
       have i:yH g.length g=(yH f' l').map ((l++[Kh (wQ wx w).1 (zP (wQ wx w).2).1])++·):=by rw[S];simp only[yH,L];cases yH f' l'<;>simp
       have j:=qN.ji (P:=prog) (t:=97) (c:=[str (wQ wx w).1,int (zP (wQ wx w).2).1.n0,int (zP (wQ wx w).2).1.n1,int (zP (wQ wx w).2).1.n2,int (zP (wQ wx w).2).1.has,.sl 1 (qJ (zP (wQ wx w).2).1.pre),int 0,int 0,int 0,int 0,.nil]) (T.more (some ⟨103,5,false,[(zP (wQ wx w).2).1.V]⟩)) o9 a7 a8 ba rfl (by omega) (by unfold maxLen;unfold qg at E;omega) (by unfold qg at E;omega);simp only[Part.V]at j;simp[Vs,J,C,u,D,y,n,G,H,I,N,Q,hl4,hLp,hLq,q,d,j,zI,qe,zs,zF,zr];exact⟨ZC (v4:=v4) (c:=Kh (wQ wx w).1 (zP (wQ wx w).2).1) (f':=f') (l':=l') (l:=l) (xs:=xs) (by omega) (by omega) K (by simp) A (by simpa using qN.after) (by simp<;>omega) rfl F (by simp) (by simp[R,n0,n1,n2,J]) i,by simpa[Ki]using sY⟩
     ·obtain⟨r,l2,rfl⟩:∃r l2,l'=r::l2:=by
       cases l' with
       |nil=>exact absurd rfl hL
       |cons r l2=>exact⟨r,l2,rfl⟩
      have hv:v4=.own 0 (o+1) (l2.length+1):=by
       rcases A with⟨h,_⟩|h
       ·cases h
       ·rw[h,<-X];rfl
      subst hv;simp only[zd]at hf hxl ho Vs n X K sY;have GO:o+1<g.length:=by omega
      have GP:o+1<z.length:=by omega
      rw[<-X,zl GO]at K;injection K with SI SJ
      have Eg:z[o+1]=[str r]:=by rw[hat (o+1) GO GP,SI]
      have ho2:o+1+1=g.length-l2.length:=by omega
      obtain⟨v5,hv5⟩:=wM (if l2.length=0 then O.sl 1 []else .own 0 (o+1+1) l2.length);have GQ:=sl1 Y z (o+1) l2.length J;rw[hv5]at GQ;have SK:l2=[]/\v5=.sl 1 []\/v5=.own 0 (g.length-l2.length) l2.length:=by
       rw[<-hv5,<-ho2];by_cases h:l2.length=0
       ·exact .inl ⟨qM.1 h,zg h⟩
       ·exact .inr (zf h)
      have hmu5:Ki v5<l2.length+1+1:=by rcases SK with⟨_,h⟩|h<;>rw[h]<;>simp[Ki];omega
      rw[ho2]at SJ;have SL:(0:Int)<(l2.length:Int)+1:=by omega
      have Eh:(0:Int)<(l2.length:Int)+1+1:=by omega
      have q:=fun B U=>To r (hwl r (by rw[<-SI];exact zw GO)) B U
      simp only[j6,Part.V]at q;cases d:(zP r).2
      ·have L:kp w (r::l2)=none:=by unfold kp;rw[zf hA,zg ⟨hE,hR,by simp⟩];simp only[d];rfl
       have i:yH g.length g=none:=by rw[S];simp only[yH,L];rfl
       rw[i]at m;simp[Vs,J,C,u,D,y,n,GQ,GP,Eg,G,H,I,N,Q,SL,Eh,q,d,zI,qe,m,ZB,qy,f89]
      ·have L:kp w (r::l2)=some (Kh (wQ wx w).1 (zP r).1,l2):=by unfold kp;rw[zf hA,zg ⟨hE,hR,by simp⟩];simp only[d,zK]
       have i:yH g.length g=(yH f' l2).map ((l++[Kh (wQ wx w).1 (zP r).1])++·):=by rw[S];simp only[yH,L];cases yH f' l2<;>simp
       have j:=qN.ji (P:=prog) (t:=97) (c:=[str (wQ wx w).1,int (zP r).1.n0,int (zP r).1.n1,int (zP r).1.n2,int (zP r).1.has,.sl 1 (qJ (zP r).1.pre),int 0,int 0,int 0,int 0,.nil]) (T.more (some ⟨103,5,false,[(zP r).1.V]⟩)) o9 a7 a8 ba rfl (by omega) (by unfold maxLen;unfold qg at E;omega) (by unfold qg at E;omega);simp only[Part.V]at j;simp[Vs,J,C,u,D,y,n,GQ,GP,Eg,G,H,I,N,Q,SL,Eh,q,d,j,zI,qe,zs,zF,zr];exact⟨ZC (v4:=v5) (c:=Kh (wQ wx w).1 (zP r).1) (f':=f') (l':=l2) (l:=l) (xs:=xs) (by omega) (by omega) SJ (by simp) SK (by simpa using qN.after) (by simp<;>omega) rfl F (by simp) (by simp[R,n0,n1,n2,J]) i,by simpa[Ki]using hmu5⟩
    ·have N:=jl hR;have Q:(wQ wx w).2.isEmpty=false:=by simpa using hR
     have q:=fun B U=>To (wQ wx w).2 W B U
     simp only[j6,Part.V]at q;cases d:(zP (wQ wx w).2).2
     ·have L:kp w l'=none:=by unfold kp;rw[zf hA,zf (fun h=>hR h.2.1),zf (by rw[d];simp)]
      have i:yH g.length g=none:=by rw[S];simp only[yH,L];rfl
      rw[i]at m;simp[Vs,J,C,u,D,y,n,G,H,I,N,Q,q,d,zI,qe,m,ZB,qy,f89]
     ·have L:kp w l'=some (Kh (wQ wx w).1 (zP (wQ wx w).2).1,l'):=by unfold kp;rw[zf hA,zf (fun h=>hR h.2.1),zg d]
      have i:yH g.length g=(yH f' l').map ((l++[Kh (wQ wx w).1 (zP (wQ wx w).2).1])++·):=by rw[S];simp only[yH,L];cases yH f' l'<;>simp
      have j:=qN.ji (P:=prog) (t:=97) (c:=[str (wQ wx w).1,int (zP (wQ wx w).2).1.n0,int (zP (wQ wx w).2).1.n1,int (zP (wQ wx w).2).1.n2,int (zP (wQ wx w).2).1.has,.sl 1 (qJ (zP (wQ wx w).2).1.pre),int 0,int 0,int 0,int 0,.nil]) (T.more (some ⟨103,5,false,[(zP (wQ wx w).2).1.V]⟩)) o9 a7 a8 ba rfl (by omega) (by unfold maxLen;unfold qg at E;omega) (by unfold qg at E;omega);simp only[Part.V]at j;simp[Vs,J,C,u,D,y,n,G,H,I,N,Q,q,d,j,zI,qe,zs,zF,zr];exact⟨ZC (v4:=v4) (c:=Kh (wQ wx w).1 (zP (wQ wx w).2).1) (f':=f') (l':=l') (l:=l) (xs:=xs) (by omega) (by omega) K (by simp) A (by simpa using qN.after) (by simp<;>omega) rfl F (by simp) (by simp[R,n0,n1,n2,J]) i,by simpa[Ki]using sY⟩
theorem dh:zi prog 89 (zn false [] (aF ux)):=
 Js (fn:=f89) Uo (wc func89) false [] _ fun args r h w S vs a=>by obtain⟨l,rfl,Y,rfl⟩:=zL h;obtain⟨r0,b,c⟩:=fg l Y;exact⟨_,r0,a,by simp[f89],b,c⟩
end Go.Q
