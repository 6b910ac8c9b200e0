/- Lemmas. -/
import Derived.Test.YtnbicamkimignaaGreatDoorG18
set_option maxRecDepth 8000
open Go Proofs Proofs.YtnbicamkimignaaGreatDoor Proofs.Tryz RowKit AM SpanLaw Q Zz
open Go.IntKind renaming i64→i6
namespace Go.Q
def Small(l:List Sp):Prop:=∀s∈l,0≤s.1∧s.1≤100000
theorem P6{l:List Sp}{k:Nat}(h:k<l.length)(c:Sp):GO c (l.drop k)=if l[k].1≤c.2 then GO (c.1,max c.2 l[k].2) (l.drop (k+1))else c::GO l[k] (l.drop (k+1)):=by rw[zd h,GO]
theorem GS{l:List Sp}(h:0<l.length):WH l=GO l[0] (l.drop 1):=by
 cases l with
 |nil=>simp at h
 |cons s l=>rfl
def zhC(L:List Sp)(k:Nat)(d:List Sp):Prop:=(k=0∧d=[])∨∃a c,d=a++[c]∧a++GO c (L.drop k)=WH L
noncomputable abbrev Ctg:Ctx:=qb prog [(84,yO [] (yV 82 2)),(85,KA 2 86 T6 T9)]
theorem Mz{l m:List Sp}(h:Small l)(n:l.length≤2097152)(a:Zo T6 (l.map zM)=m.map zM){Y:Hp}{Z:Nat}{v:O}(f:q6 Y Z 82 2 v (l.map zM)) :
  ∃Y',KA 2 86 T6 T9 [v,.fn (.func 86) [] []] Y Z=some (.yb [],Y',Z)∧q6 Y' Z 82 2 v (m.map zM):=by
 rcases f with⟨rfl,g⟩|⟨id,hid,rfl,d⟩
 ·refine⟨Y,rfl,.inl ⟨rfl,?_⟩⟩;rw[←a,g];rfl
 ·by_cases e:l=[]
  ·subst e;have:m=[]:=by
    have:(m.map zM)=[]:=by rw[←a];rfl
    simpa using this
   subst this;exact⟨Y,rfl,.inr ⟨id,hid,rfl,d⟩⟩
  ·have b:¬(l.map zM).length=0:=by simpa using e
   have c:(m.map zM).length=(l.map zM).length:=by rw[←a,Yt (DA h)]
   refine⟨qZ Y id (some ⟨82,2,true,m.map zM⟩),?_,.inr ⟨id,hid,by rw[c],by simp⟩⟩;show(if(l.map zM).length=0 then _ else _)=_;rw[zj b,d];simp only;have i:((l.map zM).drop 0).take (l.map zM).length=l.map zM:=by rw[yj,yk]
   have j:(l.map zM).drop (0+(l.map zM).length)=[]:=by rw[wD,zl]
   rw[i,j,zf ⟨rfl,rfl,rfl,by simp,by simp;omega,DA h,fun x k=>by obtain⟨s,hs,rfl⟩:=qX.1 k;exact⟨s,rfl,h s hs⟩⟩,a]
   simp
theorem bD(l L:List Sp)(h:Small l)(hl:l.length≤2097152)(hm:Zo T6 (l.map zM)=L.map zM)(y:O)(hy:vw 2 (l.map zM) y):∃E,zz Ctg f45 [y]=some E∧qM E (.sl 2 ((WH L).map zM)):=by
 have I:∀{code},f45.body=some code→Zf Ctg code ⟨ve [y],fun _=>none,0⟩ (JT Ctg.P f45 (VW (.sl 2 ((WH L).map zM))))→∃E,zz Ctg f45 [y]=some E∧qM E (.sl 2 ((WH L).map zM)):=by intro code hb h;obtain⟨E,h1,h2⟩:=xr hb h;exact⟨E,h1,fun w S u hr=>JU hr h2⟩
 refine I rfl ?_;have hLl:L.length=l.length:=by have:=zD List.length hm;rw[Yt (DA h)]at this;simpa using this.symm
 have U:=fun Y Z=>Q9 (e:=82) hy (by simp;unfold zG;omega) Y Z
 have n:=Wa (e:=82) hy (fun _=>none) 0;generalize hv:(Zn 82 2 (l.map zM) y 0)=v0 at n;obtain⟨v,H,n0⟩:=v0;have o:=U (fun _=>none) 0;rw[hv]at o;simp only at n o;obtain⟨Y1,W,J⟩:=Mz h hl hm n;have C:=J.len (P:=prog) (t:=48) iI;simp at C;simp[o,W,C];refine zQ (fun k s Y Z=>s 11=v∧s 12=int L.length∧s 13=int k∧(0<L.length→∃a,a<Z∧v=.own a 0 L.length∧Y a=some ⟨82,2,true,L.map zM⟩∧∀m,s 3≠.own a 0 m)∧∃d,q6 Y Z 82 2 (s 3) (d.map zM)∧zhC L k d∧d.length≤k∧(k=0→s 3=.nil)) L.length
  ⟨by simp,by simp,by simp,fun K=>?_,[],.inl (by simp),.inl ⟨rfl,rfl⟩,by simp,by simp⟩ ?_
 ·obtain⟨a,g1,g2,D⟩:=J.at_ (by simpa using K);exact⟨a,g1,by simpa using g2,by simpa using D,by simp⟩
 rintro k s Y Z hk ⟨x,z,A,X,d,N,p,F,hk0⟩;by_cases f:k<L.length
 ·obtain⟨a,g1,rfl,D,g4⟩:=X (by omega);have hw:i6.wrap ((k:Int)+1)=(k:Int)+1:=zn (by omega) (by omega);have b:¬a=Z:=by omega
  have q:¬a=Z+1:=by omega
  have r:¬a=Z+2:=by omega
  have H8:=N.more (some ⟨82,2,false,[zM L[k]]⟩);have g:=H8.yx (P:=prog) (t:=48) (c:=zM L[k]) iI ff iJ iK rfl (by omega) (by rw[qO];unfold maxLen;omega) (by rw[qO];omega);have G:∀Y Z,zv prog Y Z 48 1 [(0,.agg (zM L[k]))]=some (.own Z 0 1,qZ Y Z (some ⟨82,2,true,[zM L[k]]⟩),Z+1):=fun Y Z=>by simp[zv,zN,zy]
  simp only[zM]at g G;rcases p with⟨rfl,rfl⟩|⟨j,c,rfl,p⟩
  ·have hn:s 3=.nil:=hk0 rfl;have Q:i6.wrap 1=1:=zn (by omega) (by omega);rw[hn]at g;simp at g;simp[x,z,A,f,D,hn,G,g,Q,b,q,r,ZD];refine⟨f,⟨a,by omega,rfl,?_,by omega⟩,[L[0]],.inr ⟨Z+1+1,by omega,by simp,by simp⟩,.inr ⟨[],L[0],rfl,(GS f).symm⟩,by simp⟩;simp[D,b,q,r]
  ·obtain⟨id,hid,R,hh⟩:∃id,id<Z∧s 3=.own id 0 (j.length+1)∧Y id=some ⟨82,2,true,j.map zM++[zM c]⟩:=by obtain⟨id,q1,q2,q3⟩:=N.at_ (by simp);exact⟨id,q1,by simpa using q2,by simpa using q3⟩
   have B:¬id=a:=fun e=>g4 _ (e ▸ R)
   have i:¬a=id:=fun e=>B e.symm
   have M:¬id=Z:=by omega
   have Q:i6.wrap (j.length:Int)=j.length:=zn (by simp at F;omega) (by simp at F;omega);have w2:(j.length:Int)<j.length+1:=by omega
   have w3:(0:Int)<(j.length:Int)+1:=by omega
   simp at F;rw[P6 f]at p;by_cases T:L[k].1≤c.2
   ·rw[zf T]at p;simp[x,z,A,f,D,R,hh,b,B,i,M,Q,w2,w3,T,hw];have Oj:(if c.2<L[k].2 then L[k].2 else c.2)=max c.2 L[k].2:=by split<;>omega
    rw[Oj];refine⟨f,fun _=>⟨a,by omega,rfl,by simp[D,b,i],B⟩,j++[(c.1,max c.2 L[k].2)],.inr ⟨id,by omega,by simp,by simp⟩,.inr ⟨j,_,rfl,p⟩,by simp;omega⟩
   ·rw[zj T]at p;rw[R]at g;simp at g;simp[x,z,A,f,D,R,hh,b,B,i,M,Q,w2,w3,T,hw,G,g];refine⟨f,fun _=>⟨a,by omega,rfl,by simp[D,b,q,r,i,ZD],by omega⟩,j++[c]++[L[k]],.inr ⟨Z+1+1,by omega,by simp,by simp⟩,.inr ⟨j++[c],_,rfl,by rw[qj];exact p⟩,by simp;omega⟩
 ·obtain rfl:k=L.length:=by omega
  have hd:d=WH L:=by
   rcases p with⟨h0,rfl⟩|⟨j,c,rfl,p⟩
   ·have:L=[]:=qo.1 h0;subst this;rfl
   ·rw[zl,GO]at p;exact p
  rw[hd]at N;have:=N.freeze Z;simp[x,z,A,f45];exact this
noncomputable def kv (l:List Sp):List Sp:=by
 classical exact if h:Small l then(gZ h).choose else[]
theorem JD{l:List Sp}(h:Small l):Zo T6 (l.map zM)=(kv l).map zM∧(kv l).Perm l∧(kv l).Pairwise (fun a b=>a.1≤b.1):=by unfold kv;rw[zjj h];exact(gZ h).choose_spec
theorem nL:zg prog 45 (zi false [] (FP (fun l=>.sl 2 ((WH (kv l)).map zM)) fun l=>Small l∧l.length≤2097152)):=
 jD (fn:=f45) (zI (q:=[]) mixed ⟨Vy,by simp,gY,by simp,trivial⟩:AM.Good Ctg _) ⟨_,func45,by kernel_rfl,rfl,by kernel_rfl⟩ false [] _ fun args r h w S vs c=>by obtain⟨l,rfl,a,rfl⟩:=zr h;obtain⟨u,rfl,d⟩:=Qv c;obtain⟨y,e,b⟩:=mQ d;obtain⟨f,g,i⟩:=bD l (kv l) a.1 a.2 (JD a.1).1 y e;exact⟨_,f,.cons b .nil,zC (ze 1) (by decide),g,i⟩
def Oa(Y:Hp)(Z:Nat)(v:O)(d:List Sp):Prop:=(v=.nil∧d=[])∨(d≠[]∧∃id,id<Z∧v=.own id 0 d.length∧Y id=Jh d)
theorem Oa.freeze{Y:Hp}{Z:Nat}{v:O}{d:List Sp}(h:Oa Y Z v d)(a:Nat):VW (.sl 2 (d.map zM)) v Y a:=by
 rcases h with⟨rfl,rfl⟩|⟨hd,id,b,rfl,c⟩
 ·exact(q6.nil Y Z 82 2).freeze a
 ·have:q6 Y Z 82 2 (.own id 0 d.length) (d.map zM):=.inr ⟨id,b,by simp,by rw[c,Jh,zj (by simpa using hd)]⟩;exact this.freeze a
theorem zaj(d:List Sp)(f t:Int):eU d f t≠[]:=by
 unfold eU;split
 ·split<;>simp
 ·simp
theorem hC(d:List Sp)(f t:Int):(eU d f t).length≤d.length+1:=by
 unfold eU;split
 ·split
  ·simp
  ·simp
 ·simp
theorem DC{Y:Hp}{Z:Nat}{v:O}{d:List Sp}{f t:Int}(h:Oa Y Z v d)(l:d.length≤100000):∃i Y' j,mz [] Du [v,int f,int t] Y Z=some (i,Y',j)∧Oa Y' j i (eU d f t):=by
 have a:=zaj d f t;have e:Jh (eU d f t)=some ⟨82,2,true,(eU d f t).map zM⟩:=by rw[Jh,zj (by simpa using a)]
 have b:=zaf d f t l;rw[e]at b;have c:∀Y,zA Y [int f,int t]=some ([int f,int t],Y):=fun Y=>by rfl
 rcases h with⟨rfl,rfl⟩|⟨hd,id,m,rfl,k⟩
 ·refine⟨.own Z 0 (eU [] f t).length,qZ Y Z (some ⟨82,2,true,(eU [] f t).map zM⟩),Z+1,?_,.inr ⟨a,Z,by omega,rfl,by rw[e];simp⟩⟩;have b:Du none [int f,int t]=_:=b;simp[mz,c,yf,b]
 ·have g:Jh d=some ⟨82,2,true,d.map zM⟩:=by rw[Jh,zj (by simpa using hd)]
  rw[g]at b k;refine⟨.own Z 0 (eU d f t).length,qZ (qZ Y id none) Z (some ⟨82,2,true,(eU d f t).map zM⟩),Z+1,?_,.inr ⟨a,Z,by omega,rfl,by rw[e];simp⟩⟩;simp[mz,c,yf,b,k]
noncomputable abbrev Ue:Ctx:=qb prog [(88,zi false [] (Mu (fun l x=>int (vF x 100000 l)) fun l _=>l.length≤100000)),(89,zi false [] (Mu (fun l x=>wq (Z8 l x)) fun l _=>l.length≤100000)),(90,mz [] Du)]
theorem DD(a b:List Sp)(M:j7 a)(E:j7 b):∃d,KV (fun k=>mem a k∨mem b k) 100000 d∧∃q,zz Ue f51 [.sl 2 (a.map zM),.sl 2 (b.map zM)]=some q∧qM q (.sl 2 (d.map zM)):=by
 obtain⟨_,_,_,i⟩:=M;obtain⟨_,_,_,j⟩:=E;have s:∀{code},f51.body=some code→Zf Ue code ⟨ve [.sl 2 (a.map zM),.sl 2 (b.map zM)],fun _=>none,0⟩ (JT Ue.P f51 (fun x Y Z=>∃d,KV (fun k=>mem a k∨mem b k) 100000 d∧VW (.sl 2 (d.map zM)) x Y Z))→∃d,KV (fun k=>mem a k∨mem b k) 100000 d∧∃q,zz Ue f51 [.sl 2 (a.map zM),.sl 2 (b.map zM)]=some q∧qM q (.sl 2 (d.map zM)):=by intro code E h;obtain⟨x,Y',N,m,d,I,q,Q,R⟩:=zT E h;exact⟨d,I,q,by unfold zz;simp only[m];exact Q,fun w S u T=>JU T R⟩
 refine s rfl ?_;have n1:=fun l x Y Z h=>ZR (fun l x=>int (vF x 100000 l)) (fun l _=>l.length≤100000) l x Y Z h
 have z:=fun l x Y Z h=>ZR (fun l x=>wq (Z8 l x)) (fun l _=>l.length≤100000) l x Y Z h
 simp;refine Zi (fun o=>o.σ 0=.sl 2 (a.map zM)∧o.σ 1=.sl 2 (b.map zM)∧∃(at_:Int) (d:List Sp),o.σ 6=int at_∧0≤at_∧at_≤100000∧Oa o.Y o.Z (o.σ 5) d∧KV (fun k=>mem a k∨mem b k) at_ d∧(d.length:Int)≤at_)
  (fun o=>(100000-VV (o.σ 6)).toNat) ⟨by simp,by simp,0,[],by simp,by simp,by simp,.inl (by simp),nH _,by simp⟩ ?_
 rintro⟨σ,Y,Z⟩ ⟨A,m,at_,d,B,F,J,C,G,U⟩;simp only at A m B C;by_cases n:at_<100000
 ·obtain⟨to,c⟩:∃to,(if vF at_ 100000 b<vF at_ 100000 a then vF at_ 100000 b else vF at_ 100000 a)=to:=⟨_,rfl⟩;have g1:=XD (at_:=at_) (l:=a) n;have g2:=XD (at_:=at_) (l:=b) n;have g3:=KF at_ a 100000;have g4:=KF at_ b 100000;have K:at_<to:=by rw[←c];split<;>omega
  have L:to≤100000:=by rw[←c];split<;>omega
  have t3:to≤vF at_ 100000 a:=by rw[←c];split<;>omega
  have t4:to≤vF at_ 100000 b:=by rw[←c];split<;>omega
  have e:∀k,at_≤k→k<to→((mem a k∨mem b k)↔(fun k=>mem a k∨mem b k) at_):=fun k m I=>by have W:=Vv (l:=a) (out:=100000) m (by omega);have X:=Vv (l:=b) (out:=100000) m (by omega);simp only[W,X]
  have p:(Z8 a at_||Z8 b at_)=true↔(fun k=>mem a k∨mem b k) at_:=by simp[XG,←XG]
  by_cases D:(fun k=>mem a k∨mem b k) at_
  ·obtain⟨v',Y',N,p1,p2⟩:=DC C (f:=at_) (t:=to) (by omega);have H:((eU d at_ to).length:Int)≤to:=by have:=hC d at_ to;omega
   have r:=zl4 F G K e D;have g:=p.2 D;cases v:Z8 a at_<;>cases y:Z8 b at_<;>simp only[v,y]at g<;>simp at g
   all_goals simp[A,m,B,n,n1 _ _ _ _ i,n1 _ _ _ _ j,z _ _ _ _ i,z _ _ _ _ j,c,v,y,p1]
   all_goals exact⟨⟨by omega,L,eU d at_ to,p2,r,H⟩,by omega⟩
  ·have r:=nI G K e D;have g:¬(Z8 a at_||Z8 b at_)=true:=fun h=>D (p.1 h)
   cases v:Z8 a at_<;>cases y:Z8 b at_<;>simp only[v,y]at g<;>simp at g
   all_goals simp[A,m,B,n,n1 _ _ _ _ i,n1 _ _ _ _ j,z _ _ _ _ i,z _ _ _ _ j,c,v,y]
   all_goals exact⟨⟨by omega,L,d,C,r,by omega⟩,by omega⟩
 ·obtain rfl:at_=100000:=by omega
  simp[A,m,B,f51];exact⟨d,G,C.freeze Z⟩
theorem DE(a b:List Sp)(M:j7 a)(E:j7 b):∃d,KV (fun k=>mem a k∧¬mem b k) 100000 d∧∃q,zz Ue f49 [.sl 2 (a.map zM),.sl 2 (b.map zM)]=some q∧qM q (.sl 2 (d.map zM)):=by
 obtain⟨_,_,_,i⟩:=M;obtain⟨_,_,_,j⟩:=E;have s:∀{code},f49.body=some code→Zf Ue code ⟨ve [.sl 2 (a.map zM),.sl 2 (b.map zM)],fun _=>none,0⟩ (JT Ue.P f49 (fun x Y Z=>∃d,KV (fun k=>mem a k∧¬mem b k) 100000 d∧VW (.sl 2 (d.map zM)) x Y Z))→∃d,KV (fun k=>mem a k∧¬mem b k) 100000 d∧∃q,zz Ue f49 [.sl 2 (a.map zM),.sl 2 (b.map zM)]=some q∧qM q (.sl 2 (d.map zM)):=by intro code E h;obtain⟨x,Y',N,m,d,I,q,Q,R⟩:=zT E h;exact⟨d,I,q,by unfold zz;simp only[m];exact Q,fun w S u T=>JU T R⟩
 refine s rfl ?_;have n1:=fun l x Y Z h=>ZR (fun l x=>int (vF x 100000 l)) (fun l _=>l.length≤100000) l x Y Z h
 have z:=fun l x Y Z h=>ZR (fun l x=>wq (Z8 l x)) (fun l _=>l.length≤100000) l x Y Z h
 simp;refine Zi (fun o=>o.σ 0=.sl 2 (a.map zM)∧o.σ 1=.sl 2 (b.map zM)∧∃(at_:Int) (d:List Sp),o.σ 6=int at_∧0≤at_∧at_≤100000∧Oa o.Y o.Z (o.σ 5) d∧KV (fun k=>mem a k∧¬mem b k) at_ d∧(d.length:Int)≤at_)
  (fun o=>(100000-VV (o.σ 6)).toNat) ⟨by simp,by simp,0,[],by simp,by simp,by simp,.inl (by simp),nH _,by simp⟩ ?_
 rintro⟨σ,Y,Z⟩ ⟨A,m,at_,d,B,F,J,C,G,U⟩;simp only at A m B C;by_cases n:at_<100000
 ·obtain⟨to,c⟩:∃to,(if vF at_ 100000 b<vF at_ 100000 a then vF at_ 100000 b else vF at_ 100000 a)=to:=⟨_,rfl⟩;have g1:=XD (at_:=at_) (l:=a) n;have g2:=XD (at_:=at_) (l:=b) n;have g3:=KF at_ a 100000;have g4:=KF at_ b 100000;have K:at_<to:=by rw[←c];split<;>omega
  have L:to≤100000:=by rw[←c];split<;>omega
  have t3:to≤vF at_ 100000 a:=by rw[←c];split<;>omega
  have t4:to≤vF at_ 100000 b:=by rw[←c];split<;>omega
  have e:∀k,at_≤k→k<to→((mem a k∧¬mem b k)↔(fun k=>mem a k∧¬mem b k) at_):=fun k m I=>by have W:=Vv (l:=a) (out:=100000) m (by omega);have X:=Vv (l:=b) (out:=100000) m (by omega);simp only[W,X]
  have p:(Z8 a at_&&!Z8 b at_)=true↔(fun k=>mem a k∧¬mem b k) at_:=by simp[XG,←XG]
  by_cases D:(fun k=>mem a k∧¬mem b k) at_
  ·obtain⟨v',Y',N,p1,p2⟩:=DC C (f:=at_) (t:=to) (by omega);have H:((eU d at_ to).length:Int)≤to:=by have:=hC d at_ to;omega
   have r:=zl4 F G K e D;have g:=p.2 D;cases v:Z8 a at_<;>cases y:Z8 b at_<;>simp only[v,y]at g<;>simp at g
   all_goals simp[A,m,B,n,n1 _ _ _ _ i,n1 _ _ _ _ j,z _ _ _ _ i,z _ _ _ _ j,c,v,y,p1]
   all_goals exact⟨⟨by omega,L,eU d at_ to,p2,r,H⟩,by omega⟩
  ·have r:=nI G K e D;have g:¬(Z8 a at_&&!Z8 b at_)=true:=fun h=>D (p.1 h)
   cases v:Z8 a at_<;>cases y:Z8 b at_<;>simp only[v,y]at g<;>simp at g
   all_goals simp[A,m,B,n,n1 _ _ _ _ i,n1 _ _ _ _ j,z _ _ _ _ i,z _ _ _ _ j,c,v,y]
   all_goals exact⟨⟨by omega,L,d,C,r,by omega⟩,by omega⟩
 ·obtain rfl:at_=100000:=by omega
  simp[A,m,B,f49];exact⟨d,G,C.freeze Z⟩
theorem DF{l m:List Sp}(h:l.Perm m)(k:Int):mem l k↔mem m k:=by
 unfold mem;constructor
 ·rintro⟨s,hs,g⟩;exact⟨s,h.mem_iff.1 hs,g⟩
 ·rintro⟨s,hs,g⟩;exact⟨s,h.mem_iff.2 hs,g⟩
theorem fT:∀{lo:Int} {m:List Sp},(∀s∈m,lo≤s.1∧s.1<s.2)→m.Pairwise (fun a b=>a.1≤b.1)→J1 lo m
 |_,[],_,_=>trivial
 |lo,s::m,h,Y=>by rw[wv]at Y;exact⟨(h s (by simp)).1,(h s (by simp)).2,fT (fun x c=>⟨Y.1 x c,(h x (by simp[c])).2⟩) Y.2⟩
noncomputable def Wh (a b:List Sp):List Sp:=WH (kv (a++b))
theorem DG{a b:List Sp}(d:j7 a)(e:j7 b):Small (a++b)∧∀s∈a++b,0≤s.1∧s.1<s.2∧s.2≤100000:=by
 obtain⟨f,g,h,_⟩:=d;obtain⟨i,j,k,_⟩:=e;have c:∀s∈a++b,0≤s.1∧s.1<s.2∧s.2≤100000:=fun s hs=>by
  rcases qP.1 hs with hs|hs
  ·exact⟨h s hs,kB f s hs,g s hs⟩
  ·exact⟨k s hs,kB i s hs,j s hs⟩
 exact⟨fun s hs=>by have:=c s hs;omega,c⟩
theorem cn{a b:List Sp}(d:j7 a)(e:j7 b):zlN (-1) (Wh a b)∧∀k,mem (Wh a b) k↔mem a k∨mem b k:=by obtain⟨f,g⟩:=DG d e;obtain⟨_,c,h⟩:=JD f;have hs:J1 0 (kv (a++b)):=fT (fun s hs=>by have:=g s (c.mem_iff.1 hs);exact⟨this.1,this.2.1⟩) h;refine⟨nF (lo:=-1) (by simpa using hs),fun k=>?_⟩;rw[Wh,Dn hs,DF c,mem_append]
theorem Yx{a:List Sp}(b:j7 a){k:Int}(h:mem a k):0≤k∧k<100000:=by obtain⟨_,c,d,_⟩:=b;obtain⟨s,hs,e,f⟩:=h;have:=c s hs;have:=d s hs;omega
theorem DH{a b:List Sp}(c:a.length≤100000)(d:b.length≤100000){Y:Hp}{Z id e:Nat}(h:Y id=some ⟨e,1,true,[[.sl 2 (a.map zM)],[.sl 2 (b.map zM)]]⟩) :
  zi true [] My [.own id 0 2] Y Z=some (.sl 2 ((a++b).map zM),qZ Y id none,Z):=by
 have f:My [.sl 1 [[.sl 2 (a.map zM)],[.sl 2 (b.map zM)]]]=some (.sl 2 ((a++b).map zM)):=
  by unfold My FCat;exact zJ (V:=fun a:List Sp×List Sp=>[O.sl 1 [[.sl 2 (a.1.map zM)],[.sl 2 (a.2.map zM)]]]) (a:=(a,b)) (fun a b e=>by obtain⟨g,i⟩:=a;obtain⟨j,k⟩:=b;simp only[zh,zK,O.sl.injEq,ab]at e;rw[jE (zD (O.sl 2) e.1),jE (zD (O.sl 2) e.2)]) ⟨c,d⟩
 simp[zi,zA,qf,we,h,yf,f,O.flat,O.noOwn,-List.map_append]
theorem P7{a b:List Sp}{k:Nat}(c:k<a.length)(d:k<b.length):decide (a.drop k=b.drop k)=(decide (a[k]=b[k])&&decide (a.drop (k+1)=b.drop (k+1))):=by rw[zd c,zd d,←Bool.decide_and];congr 1;simp only[zh]
theorem binS(x y u v:Int):jP prog .neq 82 (.agg [int x,int y]) (.agg [int u,int v])=some (wq (!(decide (x=u)&&decide (y=v)))):=by simp only[jP,fl82,yi,wi,zH,ae];rfl
theorem zd9{a b:Sp}:decide (a=b)=(decide (a.1=b.1)&&decide (a.2=b.2)):=by simp[Prod.ext_iff]
theorem hI(a b:List Sp)(r:a.length≤zG):zz C0 f118 [.sl 2 (a.map zM),.sl 2 (b.map zM)]=some (wq (decide (a=b))):=by
 unfold zG at r;refine zo rfl ?_;by_cases l:a.length=b.length
 case neg=>
  have f:((a.length:Int) != (b.length:Int))=true:=by simp;omega
  have m:¬a=b:=fun e=>l (by rw[e])
  simp[f,m,f118]
 have f:((a.length:Int) != (b.length:Int))=false:=by simp[l]
 simp[f];refine zQ (fun k j Y Z=>j 0=.sl 2 (a.map zM)∧j 1=.sl 2 (b.map zM)∧j 12=int a.length∧j 13=int k∧decide (a=b)=decide (a.drop k=b.drop k)) a.length
  ⟨by simp,by simp,by simp,by simp,by simp⟩ ?_
 rintro k j Y Z t ⟨n,o,g,h,i⟩;by_cases d:k<a.length
 ·have c:k<b.length:=by omega
  have s:i6.wrap ((k:Int)+1)=(k:Int)+1:=zn (by omega) (by omega);rw[P7 d c,zd9]at i;by_cases p:a[k].1=b[k].1<;>by_cases q:a[k].2=b[k].2<;>simp only[p,q,Lm,zca,ae,yZ,zh2,kM]at i
  ·simp[n,o,g,h,d,c,p,q,s,binS];exact⟨d,by simpa using i⟩
  all_goals simp[n,o,g,h,d,c,p,q,i,binS,f118]
 ·obtain rfl:k=a.length:=by omega
  rw[zl,l,zl]at i;simp[n,o,g,h,i,f118]
theorem dS:zg prog 118 (zi false [] (lT (fun a b=>wq (decide (a=b))) fun a _=>a.length≤zG)):=
 qq (fn:=f118) w8 ⟨_,func118,by kernel_rfl,rfl,by kernel_rfl⟩ false [] _ fun args r h=>by obtain⟨⟨a,b⟩,rfl,c,rfl⟩:=zr h;exact⟨zC (ze 2) (by decide),_,hI a b c,qm _⟩
abbrev Rg:=Int×Int×Int
abbrev xv(r:Rg):zc:=[int r.1,int r.2.1,int r.2.2]
theorem P8{a b:Rg}(h:xv a=xv b):a=b:=by simp only[zh,zK,O.v.injEq,Value.int.injEq,ab]at h;exact Th h.1 (Th h.2.1 h.2.2)
theorem Vz{a b:List Rg}(h:O.sl 3 (a.map xv)=O.sl 3 (b.map xv)):a=b:=by injection h with _ h;exact y7 (fun _ _=>P8) h
def rgO(at_:Int)(r:Rg):Bool:=(r.1 != at_)||decide (r.2.1≤r.1)
def rgT(p:Option Int)(r:Rg):Bool:=match p with
 |none=>false
 |some q=>q==r.2.2
def P9(n:Int):Int→Option Int→List Rg→Int
 |at_,_,[]=>if at_=100000 then 0 else 8
 |at_,p,r::l=>if jg r.2.2 0 (n-1)then(if rgO at_ r then 8 else if(100000:Int)<r.2.1 then 1 else if rgT p r then 7 else P9 n r.2.1 (some r.2.2) l)else 1
theorem DI{l:List Rg}{k:Nat}(h:k<l.length)(n a:Int)(p:Option Int):P9 n a p (l.drop k)=if jg l[k].2.2 0 (n-1)then(if rgO a l[k]then 8 else if(100000:Int)<l[k].2.1 then 1 else if rgT p l[k]then 7 else P9 n l[k].2.1 (some l[k].2.2) (l.drop (k+1)))else 1:=by rw[zd h,P9]
def JE(l:List Rg)(k:Nat):Option Int:=if k=0 then none else(l[k-1]?).map (·.2.2)
def vo(l:List Rg)(n:Int):Int:=if l.length=0 then 9 else if(200:Int)<l.length then 2 else P9 n 0 none l
theorem ra:zg prog 165 (zi false [] (F3 jg)):=
 qq (fn:=f165) w8 ⟨_,func165,by kernel_rfl,rfl,by kernel_rfl⟩ false [] _ fun args r h=>by obtain⟨a,b,c,rfl,rfl⟩:=mD h;exact⟨by simp[f165],_,zo rfl (by simp[f165,jg]),qm _⟩
noncomputable abbrev Cwf:Ctx:=qb prog [(165,zi false [] (F3 jg))]
theorem fU(l:List Rg)(n:Int)(P:1≤n∧n≤20):zz Cwf f126 [.sl 3 (l.map xv),int n]=some (int (vo l n)):=by
 refine zo rfl ?_;have g:i6.wrap (n-1)=n-1:=zn (by omega) (by omega);rw[vo];by_cases w:l.length=0
 ·have:l=[]:=qo.1 w;subst this;simp[f126]
 have q:¬l=[]:=fun h=>w (by rw[h];rfl)
 have E:((l.length:Int)==0)=false:=by simpa using q
 by_cases F:(200:Int)<l.length
 ·simp[E,w,q,F,f126]
 simp[E,w,q,F];refine zQ (fun k r Y Z=>r 0=.sl 3 (l.map xv)∧r 1=int n∧r 14=.sl 3 (l.map xv)∧r 15=int l.length∧r 16=int k∧∃a:Int,r 5=int a∧P9 n 0 none l=P9 n a (JE l k) (l.drop k)) l.length
  ⟨by simp,by simp,by simp,by simp,by simp,0,by simp,by simp[JE]⟩ ?_
 rintro k r Y Z Q ⟨i,m,d,e,f,a,o,b⟩;by_cases c:k<l.length
 ·have R:i6.wrap ((k:Int)+1)=(k:Int)+1:=zn (by omega) (by omega);rw[DI c]at b;cases p:jg l[k].2.2 0 (n-1)
  case false=>rw[p]at b;simp at b;simp[i,m,o,d,e,f,c,g,p,b,f126]
  simp only[p,wi]at b;have s:((l[k].1 != a)||decide (l[k].2.1≤l[k].1))=rgO a l[k]:=rfl;cases A:rgO a l[k]
  case true=>rw[A]at s b;simp only[wi]at b;simp[i,m,o,d,e,f,c,g,p,s,b,f126]
  rw[A]at s;simp only[A,zU,wK]at b;by_cases t:(100000:Int)<l[k].2.1
  ·rw[zf t]at b;simp[i,m,o,d,e,f,c,g,p,s,t,b,f126]
  rw[zj t]at b;have u:JE l (k+1)=some l[k].2.2:=by simp[JE,c]
  by_cases L:k=0
  ·subst L;simp only[JE,wi,rgT,zU,wK]at b;have M:i6.wrap 1=1:=zn (by omega) (by omega);simp[i,m,o,d,e,f,c,g,p,s,t,M];exact⟨c,by rw[b,u];simp⟩
  ·obtain⟨j,rfl⟩:∃j,k=j+1:=⟨k-1,by omega⟩;have B:j<l.length:=by omega
   have G:i6.wrap ((j:Int)+1-1)=(j:Int):=by rw[zn (by omega) (by omega)];omega
   have v:i6.wrap (j:Int)=(j:Int):=zn (by omega) (by omega);have H:((j:Int)+1).toNat=j+1:=by omega
   have I:0<(j:Int)+1:=by omega
   have J:0≤(j:Int)+1:=by omega
   have K:(j:Int)+1<l.length:=by omega
   have N:i6.wrap ((j:Int)+1+1)=(j:Int)+1+1:=zn (by omega) (by omega);have C:JE l (j+1)=some l[j].2.2:=by simp[JE,B]
   have x:(l[j].2.2==l[j+1].2.2)=rgT (some l[j].2.2) l[j+1]:=rfl;rw[C]at b;cases y:rgT (some l[j].2.2) l[j+1]
   ·rw[y]at x;simp only[y,zU,wK]at b;simp[i,m,o,d,e,f,c,B,g,p,s,t,x,G,v,H,I,J,K,N];exact⟨by omega,by rw[b,u]⟩
   ·rw[y]at x;simp only[y,wi]at b;simp[i,m,o,d,e,f,c,B,g,p,s,t,x,G,v,H,I,J,K,b,f126]
 ·obtain rfl:k=l.length:=by omega
  rw[zl,P9]at b;by_cases z:a=100000
  ·rw[zf z]at b;simp[i,m,o,d,e,f,z,b,f126]
  ·rw[zj z]at b;have D:(a != 100000)=true:=by simpa using z
   simp[i,m,o,d,e,f,D,b,f126]
noncomputable def FRN (out:List Rg→Int→O) (pre:List Rg→Int→Prop):zc→Option O:=qv (α:=List Rg×Int) (fun a=>[.sl 3 (a.1.map xv),int a.2]) (fun a=>pre a.1 a.2) (fun a=>out a.1 a.2)
theorem DJ(out:List Rg→Int→O)(pre:List Rg→Int→Prop)(l:List Rg)(n:Int)(Y:Hp)(Z:Nat)(h:pre l n):zi false [] (FRN out pre) [.sl 3 (l.map xv),int n] Y Z=some (out l n,Y,Z):=
 qe rfl (zJ (V:=fun a:List Rg×Int=>[O.sl 3 (a.1.map xv),int a.2]) (a:=(l,n)) (fun a b e=>by obtain⟨c,d⟩:=a;obtain⟨f,g⟩:=b;simp only[zh,zK]at e;rw[Vz e.1,qn e.2]) h) (.inr rfl)
theorem dT:zg prog 126 (zi false [] (FRN (fun l n=>int (vo l n)) fun _ n=>1≤n∧n≤20)):=
 qq (fn:=f126) (zI (q:=[165]) mixed ⟨ra,fun _=>zt _ _,trivial⟩:AM.Good Cwf _) ⟨_,func126,by kernel_rfl,rfl,by kernel_rfl⟩ false [] _ fun args r h=>by obtain⟨⟨l,n⟩,rfl,a,rfl⟩:=zr h;exact⟨zC (ze 2) (by decide),_,fU l n a,qm _⟩
structure wh where
 name:List UInt8
 qI:List UInt8
 rest:Int
def wh.V(x:wh):zc:=[str x.name,str x.qI,int x.rest]
theorem Yy{a b:wh}(h:a.V=b.V):a=b:=by cases a;cases b;simp only[wh.V,zh,zK]at h;rw[wx h.1,wx h.2.1,qn h.2.2]
structure yI where
 name:List UInt8
 qI:List UInt8
 buckets:Int
 zk:List (List UInt8)
def yI.V(x:yI):zc:=[str x.name,str x.qI,int x.buckets,.sl 1 (qd x.zk)]
theorem lM{a b:yI}(h:a.V=b.V):a=b:=by
 cases a;cases b;simp only[yI.V,zh,zK]at h;obtain⟨d,e,f,c⟩:=h;injection c with _ c
 rw[wx d,wx e,qn f,vf c]
structure wc where
 at_:Int
 qS:List Sp
def wc.V(x:wc):zc:=[int x.at_,.sl 2 (x.qS.map zM)]
theorem dU{a b:wc}(h:a.V=b.V):a=b:=by cases a;cases b;simp only[wc.V,zh,zK]at h;rw[qn h.1,jE h.2]
structure Xp where
 name:List UInt8
 qi:List UInt8
 flag:List UInt8
 cond:wV
 qI:List UInt8
 jX:List Rg
 zs:List wc
def Xp.V(x:Xp):zc:=[str x.name,str x.qi,str x.flag]++x.cond.V++[str x.qI,.sl 3 (x.jX.map xv),.sl 2 (x.zs.map wc.V)]
theorem zZ(x:Xp):x.V=[str x.name,str x.qi,str x.flag,int x.cond.kind,str x.cond.attr,int x.cond.op,.sl 5 (x.cond.yY.map qE.V),str x.cond.pat,str x.cond.name,.sl 7 (x.cond.args.map wV.V),str x.qI,.sl 3 (x.jX.map xv),.sl 2 (x.zs.map wc.V)]:=by unfold Xp.V;rw[yU];rfl
theorem xQ{a b:Xp}(h:a.V=b.V):a=b:=by
 have e:a.cond.V=b.cond.V:=by rw[zZ,zZ]at h;simp only[zh,zK]at h;rw[yU,yU];simp only[zh,zK];exact⟨h.2.2.2.1,h.2.2.2.2.1,h.2.2.2.2.2.1,h.2.2.2.2.2.2.1,h.2.2.2.2.2.2.2.1,h.2.2.2.2.2.2.2.2.1,h.2.2.2.2.2.2.2.2.2.1⟩
 have c:=Ki e;rw[zZ,zZ]at h;simp only[zh,zK]at h;obtain⟨f,g,i,_,_,_,_,_,_,_,j,k,d⟩:=h;cases a;cases b;simp only at *;injection d with _ d
 rw[wx f,wx g,wx i,c,wx j,Vz k,y7 (fun _ _=>dU) d]
structure Bk where
 zk:List wh
 holds:List yI
 zE:List Xp
def Bk.V(b:Bk):zc:=[.sl 3 (b.zk.map wh.V),.sl 4 (b.holds.map yI.V),.sl 13 (b.zE.map Xp.V)]
theorem vk{a b:Bk}(h:a.V=b.V):a=b:=by
 cases a;cases b;simp only[Bk.V,zh,zK]at h;obtain⟨c,d,e⟩:=h;injection c with _ c
 injection d with _ d;injection e with _ e;rw[y7 (fun _ _=>Yy) c,y7 (fun _ _=>lM) d,y7 (fun _ _=>xQ) e]
def wg{α:Type}(f:α→Nat)(l:List α):Nat:=(l.map f).sum
theorem yg{α:Type}{f:α→Nat}:∀{l:List α} {x:α},x∈l→f x≤wg f l
 |y::l,x,h=>by
  simp only[wg,qF,lS];rcases zL.1 h with rfl|h
  ·omega
  ·have:=yg (f:=f) h;simp only[wg]at this;omega
theorem qJ{α:Type}{f:α→Nat}(a:∀x,1≤f x):∀l:List α,l.length≤wg f l
 |[]=>by simp
 |y::l=>by have:=qJ a l;have:=a y;simp only[wg,qF,lS,qa]at *;omega
def wh.cb(x:wh):Nat:=1+x.name.length+x.qI.length
def yI.cb(x:yI):Nat:=1+x.name.length+x.qI.length+wg (fun s=>1+s.length) x.zk
def wc.cb(x:wc):Nat:=1+x.qS.length
def Xp.cb(x:Xp):Nat:=x.name.length+x.qi.length+x.flag.length+x.cond.cb+x.qI.length+x.jX.length+wg wc.cb x.zs
def Bk.cb(b:Bk):Nat:=wg wh.cb b.zk+wg yI.cb b.holds+wg Xp.cb b.zE
theorem xa(x:wh):1≤x.cb:=by unfold wh.cb;omega
theorem JF(x:yI):1≤x.cb:=by unfold yI.cb;omega
theorem vG(x:wc):1≤x.cb:=by unfold wc.cb;omega
theorem ZG(x:Xp):1≤x.cb:=by have:=mO x.cond;unfold Xp.cb;omega
theorem Ax(a b:UInt8):a<b∨a=b∨b<a:=by
 rcases Nat.lt_trichotomy a.toNat b.toNat with h|h|h
 ·exact .inl (xi.2 h)
 ·exact .inr (.inl (Jc.1 h))
 ·exact .inr (.inr (xi.2 h))
theorem cp(a:UInt8):¬a<a:=fun h=>Nat.lt_irrefl _ (xi.1 h)
theorem nM{a b:UInt8}(h:a<b):¬b<a:=fun c=>Nat.lt_asymm (xi.1 h) (xi.1 c)
theorem Ra{a b c:UInt8}(h:a<b)(d:b<c):a<c:=xi.2 (Nat.lt_trans (xi.1 h) (xi.1 d))
theorem Yz:∀a b:za,YF a b<0↔Op.bytesLess a b=true
 |[],[]=>by simp[YF,Lib.compareBytes,Op.bytesLess]
 |[],_::_=>by simp[YF,Lib.compareBytes,Op.bytesLess]
 |_::_,[]=>by simp[YF,Lib.compareBytes,Op.bytesLess]
 |a::x,b::y=>by
  have d:=Yz x y;unfold YF at d⊢;rcases Ax a b with h|rfl|h
  ·simp[Lib.compareBytes,Op.bytesLess,h]
  ·simp[Lib.compareBytes,Op.bytesLess,cp,d]
  ·have c:¬a=b:=fun e=>cp b (e ▸ h)
   simp[Lib.compareBytes,Op.bytesLess,h,nM h,c]
theorem xN:∀a b:za,YF a b=0↔a=b
 |[],[]=>by simp[YF,Lib.compareBytes]
 |[],_::_=>by simp[YF,Lib.compareBytes]
 |_::_,[]=>by simp[YF,Lib.compareBytes]
 |a::x,b::y=>by
  have d:=xN x y;unfold YF at d⊢;rcases Ax a b with h|rfl|h
  ·have c:¬a=b:=fun e=>cp b (e ▸ h)
   simp[Lib.compareBytes,h,c]
  ·simp[Lib.compareBytes,cp,d]
  ·have c:¬a=b:=fun e=>cp b (e ▸ h)
   simp[Lib.compareBytes,h,nM h,c]
theorem Wi:∀{a b c:za},Op.bytesLess a b=true→Op.bytesLess b c=true→Op.bytesLess a c=true
 |_,[],_,h,_=>by simp[Op.bytesLess]at h
 |_,_::_,[],_,h=>by simp[Op.bytesLess]at h
 |[],_::_,_::_,_,_=>by simp[Op.bytesLess]
 |a::x,b::y,c::z,e,d=>by
  simp only[Op.bytesLess,qH,ql,zF,eO]at e d⊢;rcases e with e|⟨rfl,e⟩
  ·rcases d with d|⟨rfl,d⟩
   ·exact .inl (Ra e d)
   ·exact .inl e
  ·rcases d with d|⟨rfl,d⟩
   ·exact .inl d
   ·exact .inr ⟨rfl,Wi e d⟩
theorem zlQ:∀{a b:za},fg a b=false→Op.bytesLess b a=true
 |[],[],h=>by simp[fg]at h
 |[],_::_,h=>by simp[fg,Op.bytesLess]at h
 |_::_,[],_=>by simp[Op.bytesLess]
 |a::x,b::y,h=>by
  simp only[fg,Op.bytesLess,w5,jh,Bool.and_eq_false_iff,q7]at h;obtain⟨⟨d,c⟩,f⟩:=h;simp only[Op.bytesLess,qH,ql,zF,eO];rcases Ax a b with g|rfl|g
  ·exact absurd g d
  ·refine .inr ⟨rfl,zlQ ?_⟩;rcases c with c|c
   ·exact absurd rfl c
   ·have:¬x=y:=fun e=>f (by rw[e])
    simp[fg,c,this]
  ·exact .inl g
def Jk(f:Nat→Bool)(lo a:Nat):Nat:=if h:lo<a then(if f ((lo+a)/2)then Jk f ((lo+a)/2+1) a else Jk f lo ((lo+a)/2))else lo
termination_by a-lo
decreasing_by all_goals omega
theorem te{f:Nat→Bool}{lo a:Nat}(h:lo<a):Jk f lo a=if f ((lo+a)/2)then Jk f ((lo+a)/2+1) a else Jk f lo ((lo+a)/2):=by rw[Jk,zjj h]
theorem DK{f:Nat→Bool}{lo a:Nat}(h:¬lo<a):Jk f lo a=lo:=by rw[Jk,dif_neg h]
theorem MA{f:Nat→Bool}{n m:Nat}(j:∀k,k<m→f k=true)(l:∀k,m≤k→k<n→f k=false):∀{lo b:Nat},lo≤m→m≤b→b≤n→Jk f lo b=m:=by
 intro lo b
 induction lo,b using Jk.induct (f:=f)with
 |case1 lo b a d e=>
  intro g h i;rw[Jk,zjj a,zf d];refine e ?_ h i;apply Nat.succ_le_of_lt;refine Nat.lt_of_not_le fun c=>?_
  rw[l _ c (by omega)]at d;cases d
 |case2 lo b a d e=>
  intro g h i;rw[Jk,zjj a,zj d];refine e g ?_ (by omega);refine Nat.le_of_not_lt fun c=>?_
  exact d (j _ c)
 |case3 lo b a=>intro g h _;rw[Jk,dif_neg a];omega
noncomputable def Yc (l:List za) (s:za) (k:Nat):Bool:=match l[k]? with
 |some x=>decide (YF x s<0)
 |none=>false
noncomputable def vd (l:List za) (s:za):Nat×Bool:=(Jk (Yc l s) 0 l.length,match l[Jk (Yc l s) 0 l.length]? with
 |some x=>YF x s==0
 |none=>false)
theorem nN{l:List za}{s:za}(h:(vd l s).2=true):l[(vd l s).1]?=some s:=by
 unfold vd at h⊢;simp only at h⊢;split at h
 ·rename_i x a;rw[a,(xN x s).1 (by simpa using h)]
 ·cases h
theorem J2{l:List za}{s:za}(h:(vd l s).2=true):(vd l s).1<l.length:=(zq.1 (nN h)).1
def DL(l:List za):Prop:=l.Pairwise fun a b=>Op.bytesLess a b=true
theorem DM(a:za):Op.bytesLess a a=false:=by
 cases h:Op.bytesLess a a with
 |false=>rfl
 |true=>have b:=(Yz a a).2 h;have c:=(xN a a).2 rfl;omega
theorem GU{l:List za}{s:za}(f:DL l){j:Nat}(g:l[j]?=some s):vd l s=(j,true):=by
 obtain⟨a,b⟩:=zq.1 g;have i:Jk (Yc l s) 0 l.length=j:=by
  refine MA (n:=l.length) (fun k d=>?_) (fun k d c=>?_) (kD _) (Nat.le_of_lt a) (ze _)
  ·have:=List.pairwise_iff_getElem.1 f k j (by omega) a d;rw[b]at this;simp[Yc,show k<l.length by omega,(Yz _ _).2 this]
  ·rcases Nat.lt_or_eq_of_le d with h|rfl
   ·have:=List.pairwise_iff_getElem.1 f j k a c h;rw[b]at this;have e:¬YF l[k] s<0:=fun m=>by have:=Wi this ((Yz _ _).1 m);rw[DM]at this;cases this
    simp[Yc,c,e]
   ·have e:¬YF s s<0:=by rw[(xN s s).2 rfl];omega
    simp[Yc,a,b,e]
 unfold vd;rw[i,g];simp[(xN s s).2 rfl]
def kb(name a:za):Int:=if yn name=true then(if fg name a=true then 8 else 0)else 5
noncomputable def Rb (f:za→za→O):zc→Option O:=qv (α:=za×za) (fun a=>[str a.1,str a.2]) (fun a=>a.1.length≤zG) (fun a=>f a.1 a.2)
theorem fV(f:za→za→O)(a b:za)(Y:Hp)(Z:Nat)(h:a.length≤zG)(c:(f a b).flat=true):zi false [] (Rb f) [str a,str b] Y Z=some (f a b,Y,Z):=
 qe rfl (zJ (V:=fun a:List UInt8×za=>[str a.1,str a.2]) (a:=(a,b)) uS h) (.inl c)
noncomputable abbrev Cnf:Ctx:=qb prog [(123,zi false [] (FS yn))]
theorem W0:zg prog 121 (zi false [] (Rb fun a b=>int (kb a b))):=
 qq (fn:=f121) (zI (q:=[]) mixed ⟨Yo,by simp,trivial⟩:AM.Good Cnf _) ⟨_,func121,by kernel_rfl,rfl,by kernel_rfl⟩ false [] _ fun args r h=>by
  obtain⟨⟨a,b⟩,rfl,d,rfl⟩:=zr h;have c:(Op.bytesLess a b||a==b)=fg a b:=rfl;refine⟨by simp[f121],_,zo rfl ?_,qm _⟩;simp only at d;cases e:yn a
  ·simp[d,e,kb,f121]
  ·cases f:fg a b
   ·simp[d,e,c,f,kb,f121]
   ·simp[d,e,c,f,kb,f121]
def zlR(s:za):Bool:=jg s.length 1 40&&Xo s
noncomputable abbrev Csl:Ctx:=qb prog [(16,zi false [] (F3 jg)),(179,zi false [] (FS Xo))]
@[simp]theorem zhD:yB Csl 179:=wC (by rfl) (zt _ _)
theorem Ay:zg prog 158 (zi false [] (FS zlR)):=
 qq (fn:=f158) (zI (q:=[16,179]) mixed ⟨kV,fun _=>zt _ _,gL,fun _=>zt _ _,trivial⟩:AM.Good Csl _) ⟨_,func158,by kernel_rfl,rfl,by kernel_rfl⟩ false [] _ fun args r h=>by obtain⟨l,rfl,Y,rfl⟩:=zr h;exact⟨by simp[f158],_,zo rfl (by simp[Y,zlR,f158]),qm _⟩
def vT(n:Int):Bool:=jg n 0 4000000000
noncomputable abbrev Ctm:Ctx:=qb prog [(16,zi false [] (F3 jg))]
theorem VA:zg prog 17 (zi false [] (fK vT)):=
 qq (fn:=f17) (zI (q:=[]) mixed ⟨kV,by simp,trivial⟩:AM.Good Ctm _) ⟨_,func17,by kernel_rfl,rfl,by kernel_rfl⟩ false [] _ fun args r h=>by obtain⟨a,rfl,rfl⟩:=JB h;exact⟨by simp[f17],_,zo rfl (by simp[vT,f17]),qm _⟩
noncomputable def Rc:zc→Option O:=qv (α:=wh×za) (fun a=>[.agg a.1.V,str a.2]) (fun _=>True) (fun a=>int (YF a.1.name a.2))
theorem nO(x:wh)(s:za)(Y:Hp)(Z:Nat):zi false [] Rc [.agg x.V,str s] Y Z=some (int (YF x.name s),Y,Z):=
 qe (Y1:=Y) (show zA Y [.agg x.V,str s]=some ([.agg x.V,str s],Y) by simp[wh.V]) (zJ (V:=fun a:wh×za=>[.agg a.1.V,str a.2]) (a:=(x,s)) (fun a b e=>by obtain⟨c,d⟩:=a;obtain⟨f,g⟩:=b;simp only[zh,zK,O.agg.injEq]at e;rw[Yy e.1,wx e.2]) trivial) (.inl rfl)
noncomputable abbrev zhE:Ctx:=qb prog [(25,zi false [] (Me YF))]
theorem GW:zg prog 57 (zi false [] Rc):=
 qq (fn:=f57) (zI (q:=[]) mixed ⟨va,by simp,trivial⟩:AM.Good zhE _) ⟨_,func57,by kernel_rfl,rfl,by kernel_rfl⟩ false [] _ fun args r h=>by obtain⟨⟨x,s⟩,rfl,_,rfl⟩:=zr h;exact⟨by simp[f57],_,zo rfl (by simp[f57,wh.V]),qm _⟩
noncomputable def FBsL:zc→Option O:=qv (α:=List wh×za) (fun a=>[.sl 3 (a.1.map wh.V),str a.2,.fn (.func 57) [] []]) (fun a=>a.1.length≤zG) (fun a=>.yb [int (vd (a.1.map wh.name) a.2).1,wq (vd (a.1.map wh.name) a.2).2])
theorem MB(l:List wh)(s:za)(Y:Hp)(Z:Nat)(h:l.length≤zG):zi false [] FBsL [.sl 3 (l.map wh.V),str s,.fn (.func 57) [] []] Y Z=some (.yb [int (vd (l.map wh.name) s).1,wq (vd (l.map wh.name) s).2],Y,Z):=
 qe rfl (zJ (V:=fun a:List wh×za=>[O.sl 3 (a.1.map wh.V),str a.2,.fn (.func 57) [] []]) (a:=(l,s)) (fun a b e=>by obtain⟨f,g⟩:=a;obtain⟨i,j⟩:=b;simp only[zh,zK]at e;obtain⟨c,d⟩:=e;injection c with _ c;rw[y7 (fun _ _=>Yy) c,wx d]) h) (.inl rfl)
noncomputable abbrev CbsL:Ctx:=qb prog [(57,zi false [] Rc)]
theorem Re(l:List wh)(s:za)(y:l.length≤zG):zz CbsL f56 [.sl 3 (l.map wh.V),str s,.fn (.func 57) [] []]=some (.yb [int (vd (l.map wh.name) s).1,wq (vd (l.map wh.name) s).2]):=by
 refine zo rfl ?_;unfold zG at y;have i:(l.map wh.name).length=l.length:=by simp
 simp;refine Zi (fun g=>g.σ 0=.sl 3 (l.map wh.V)∧g.σ 1=str s∧g.σ 2=.fn (.func 57) [] []∧g.σ 8=int l.length∧∃lo hi:Nat,lo≤hi∧hi≤l.length∧g.σ 9=int lo∧g.σ 10=int hi∧Jk (Yc (l.map wh.name) s) 0 (l.map wh.name).length=Jk (Yc (l.map wh.name) s) lo hi)
  (fun g=>(VV (g.σ 10)).toNat-(VV (g.σ 9)).toNat) ⟨by simp,by simp,by simp,by simp,0,l.length,by simp,by simp,by simp,by simp,by rw[i]⟩ ?_
 rintro⟨F,Y,Z⟩ ⟨j,k,n,o,lo,hi,z,u,p,d,f⟩;simp only at j k n o p d;by_cases b:lo<hi
 ·have a:=fun x Y Z=>nO x s Y Z
  have w:i6.wrap ((lo:Int)+hi)=(lo:Int)+hi:=zn (by omega) (by omega);have A:(lo+hi)/2<l.length:=by omega
  obtain⟨m,B⟩:∃m,m=(lo+hi)/2:=⟨_,rfl⟩;have h:i6.wrap ((IntKind.u64.wrap ((lo:Int)+hi)).fdiv (2 ^ min 1 IntKind.u64.bits))=(m:Int):=by
   have C:IntKind.u64.wrap ((lo:Int)+hi)=(lo:Int)+hi:=by rw[IntKind.wrap_u64];omega
   have D:(2 ^ min 1 IntKind.u64.bits:Int)=2:=by decide
   rw[C,D,Int.fdiv_eq_ediv_of_nonneg _ (by omega),zn (by omega) (by omega)];omega
  have e:m<l.length:=by omega
  have E:i6.wrap ((m:Int)+1)=(m:Int)+1:=zn (by omega) (by omega);have v:Yc (l.map wh.name) s m=decide (YF l[m].name s<0):=by simp[Yc,e]
  rw[te (lo:=lo) b,←B,v]at f;have c:=a l[m];simp only[wh.V]at c;by_cases t:YF l[m].name s<0
  ·simp only[t,Lm,wi]at f;simp[j,k,n,o,p,d,b,w,h,e,c,t,E,wh.V];exact⟨⟨m+1,hi,by omega,u,by omega,rfl,by rw[i]at f;exact f⟩,by omega⟩
  ·simp only[t,zca,zU,wK]at f;simp[j,k,n,o,p,d,b,w,h,e,c,t,wh.V];exact⟨⟨lo,m,by omega,by omega,rfl,rfl,by rw[i]at f;exact f⟩,by omega⟩
 ·have f:Jk (Yc (l.map wh.name) s) 0 (l.map wh.name).length=lo:=by rw[f,DK (lo:=lo) b]
  have a:=fun x Y Z=>nO x s Y Z
  unfold vd;rw[f];by_cases q:lo<l.length
  ·have c:=a l[lo];simp only[wh.V]at c;simp[j,k,n,o,p,d,b,q,c,wh.V,f56,wH]
  ·have r:l[lo]?=none:=Jj (by omega);simp[j,k,n,o,p,d,b,q,r,f56,wH]
theorem MC:zg prog 56 (zi false [] FBsL):=
 qq (fn:=f56) (zI (q:=[57]) mixed ⟨GW,fun _=>zt _ _,trivial⟩:AM.Good CbsL _) ⟨_,func56,by kernel_rfl,rfl,by kernel_rfl⟩ false [] _ fun args r h=>by obtain⟨⟨l,s⟩,rfl,a,rfl⟩:=zr h;exact⟨zC (ze 3) (by decide),_,Re l s a,qm _⟩
noncomputable def GX:zc→Option O:=qv (α:=List wh×za) (fun a=>[.sl 3 (a.1.map wh.V),str a.2]) (fun a=>a.1.length≤zG) (fun a=>.yb [int (vd (a.1.map wh.name) a.2).1,wq (vd (a.1.map wh.name) a.2).2])
theorem KG(l:List wh)(s:za)(Y:Hp)(Z:Nat)(h:l.length≤zG):zi false [] GX [.sl 3 (l.map wh.V),str s] Y Z=some (.yb [int (vd (l.map wh.name) s).1,wq (vd (l.map wh.name) s).2],Y,Z):=
 qe rfl (zJ (V:=fun a:List wh×za=>[O.sl 3 (a.1.map wh.V),str a.2]) (a:=(l,s)) (fun a b e=>by obtain⟨f,g⟩:=a;obtain⟨i,j⟩:=b;simp only[zh,zK]at e;obtain⟨c,d⟩:=e;injection c with _ c;rw[y7 (fun _ _=>Yy) c,wx d]) h) (.inl rfl)
noncomputable abbrev CofL:Ctx:=qb prog [(56,zi false [] FBsL)]
theorem KH:zg prog 15 (zi false [] GX):=
 qq (fn:=f15) (zI (q:=[]) mixed ⟨MC,by simp,trivial⟩:AM.Good CofL _) ⟨_,func15,by kernel_rfl,rfl,by kernel_rfl⟩ false [] _ fun args r h=>by
  obtain⟨⟨l,s⟩,rfl,a,rfl⟩:=zr h;have b:=fun Y Z=>MB l s Y Z a
  exact⟨by simp[f15],_,zo rfl (by simp[b,wH,f15]),qm _⟩
noncomputable def Rf:zc→Option O:=qv (α:=Xp×za) (fun a=>[.agg a.1.V,str a.2]) (fun _=>True) (fun a=>int (YF a.1.name a.2))
theorem nQ(x:Xp)(s:za)(Y:Hp)(Z:Nat):zi false [] Rf [.agg x.V,str s] Y Z=some (int (YF x.name s),Y,Z):=
 qe (Y1:=Y) (show zA Y [.agg x.V,str s]=some ([.agg x.V,str s],Y) by simp[zZ]) (zJ (V:=fun a:Xp×za=>[.agg a.1.V,str a.2]) (a:=(x,s)) (fun a b e=>by obtain⟨c,d⟩:=a;obtain⟨f,g⟩:=b;simp only[zh,zK,O.agg.injEq]at e;rw[xQ e.1,wx e.2]) trivial) (.inl rfl)
noncomputable abbrev zhF:Ctx:=qb prog [(25,zi false [] (Me YF))]
theorem GY:zg prog 55 (zi false [] Rf):=
 qq (fn:=f55) (zI (q:=[]) mixed ⟨va,by simp,trivial⟩:AM.Good zhF _) ⟨_,func55,by kernel_rfl,rfl,by kernel_rfl⟩ false [] _ fun args r h=>by obtain⟨⟨x,s⟩,rfl,_,rfl⟩:=zr h;exact⟨by simp[f55],_,zo rfl (by simp[f55,zZ]),qm _⟩
noncomputable def FBsX:zc→Option O:=qv (α:=List Xp×za) (fun a=>[.sl 13 (a.1.map Xp.V),str a.2,.fn (.func 55) [] []]) (fun a=>a.1.length≤zG) (fun a=>.yb [int (vd (a.1.map Xp.name) a.2).1,wq (vd (a.1.map Xp.name) a.2).2])
theorem tf(l:List Xp)(s:za)(Y:Hp)(Z:Nat)(h:l.length≤zG):zi false [] FBsX [.sl 13 (l.map Xp.V),str s,.fn (.func 55) [] []] Y Z=some (.yb [int (vd (l.map Xp.name) s).1,wq (vd (l.map Xp.name) s).2],Y,Z):=
 qe rfl (zJ (V:=fun a:List Xp×za=>[O.sl 13 (a.1.map Xp.V),str a.2,.fn (.func 55) [] []]) (a:=(l,s)) (fun a b e=>by obtain⟨f,g⟩:=a;obtain⟨i,j⟩:=b;simp only[zh,zK]at e;obtain⟨c,d⟩:=e;injection c with _ c;rw[y7 (fun _ _=>xQ) c,wx d]) h) (.inl rfl)
noncomputable abbrev CbsX:Ctx:=qb prog [(55,zi false [] Rf)]
theorem Rh(l:List Xp)(s:za)(y:l.length≤zG):zz CbsX f54 [.sl 13 (l.map Xp.V),str s,.fn (.func 55) [] []]=some (.yb [int (vd (l.map Xp.name) s).1,wq (vd (l.map Xp.name) s).2]):=by
 refine zo rfl ?_;unfold zG at y;have i:(l.map Xp.name).length=l.length:=by simp
 simp;refine Zi (fun g=>g.σ 0=.sl 13 (l.map Xp.V)∧g.σ 1=str s∧g.σ 2=.fn (.func 55) [] []∧g.σ 8=int l.length∧∃lo hi:Nat,lo≤hi∧hi≤l.length∧g.σ 9=int lo∧g.σ 10=int hi∧Jk (Yc (l.map Xp.name) s) 0 (l.map Xp.name).length=Jk (Yc (l.map Xp.name) s) lo hi)
  (fun g=>(VV (g.σ 10)).toNat-(VV (g.σ 9)).toNat) ⟨by simp,by simp,by simp,by simp,0,l.length,by simp,by simp,by simp,by simp,by rw[i]⟩ ?_
 rintro⟨F,Y,Z⟩ ⟨j,k,n,o,lo,hi,z,u,p,d,f⟩;simp only at j k n o p d;by_cases b:lo<hi
 ·have a:=fun x Y Z=>nQ x s Y Z
  have w:i6.wrap ((lo:Int)+hi)=(lo:Int)+hi:=zn (by omega) (by omega);have A:(lo+hi)/2<l.length:=by omega
  obtain⟨m,B⟩:∃m,m=(lo+hi)/2:=⟨_,rfl⟩;have h:i6.wrap ((IntKind.u64.wrap ((lo:Int)+hi)).fdiv (2 ^ min 1 IntKind.u64.bits))=(m:Int):=by
   have C:IntKind.u64.wrap ((lo:Int)+hi)=(lo:Int)+hi:=by rw[IntKind.wrap_u64];omega
   have D:(2 ^ min 1 IntKind.u64.bits:Int)=2:=by decide
   rw[C,D,Int.fdiv_eq_ediv_of_nonneg _ (by omega),zn (by omega) (by omega)];omega
  have e:m<l.length:=by omega
  have E:i6.wrap ((m:Int)+1)=(m:Int)+1:=zn (by omega) (by omega);have v:Yc (l.map Xp.name) s m=decide (YF l[m].name s<0):=by simp[Yc,e]
  rw[te (lo:=lo) b,←B,v]at f;have c:=a l[m];simp only[zZ]at c;by_cases t:YF l[m].name s<0
  ·simp only[t,Lm,wi]at f;simp[j,k,n,o,p,d,b,w,h,e,c,t,E,zZ];exact⟨⟨m+1,hi,by omega,u,by omega,rfl,by rw[i]at f;exact f⟩,by omega⟩
  ·simp only[t,zca,zU,wK]at f;simp[j,k,n,o,p,d,b,w,h,e,c,t,zZ];exact⟨⟨lo,m,by omega,by omega,rfl,rfl,by rw[i]at f;exact f⟩,by omega⟩
 ·have f:Jk (Yc (l.map Xp.name) s) 0 (l.map Xp.name).length=lo:=by rw[f,DK (lo:=lo) b]
  have a:=fun x Y Z=>nQ x s Y Z
  unfold vd;rw[f];by_cases q:lo<l.length
  ·have c:=a l[lo];simp only[zZ]at c;simp[j,k,n,o,p,d,b,q,c,zZ,f54,wH]
  ·have r:l[lo]?=none:=Jj (by omega);simp[j,k,n,o,p,d,b,q,r,f54,wH]
theorem th:zg prog 54 (zi false [] FBsX):=
 qq (fn:=f54) (zI (q:=[55]) mixed ⟨GY,fun _=>zt _ _,trivial⟩:AM.Good CbsX _) ⟨_,func54,by kernel_rfl,rfl,by kernel_rfl⟩ false [] _ fun args r h=>by obtain⟨⟨l,s⟩,rfl,a,rfl⟩:=zr h;exact⟨zC (ze 3) (by decide),_,Rh l s a,qm _⟩
noncomputable def MD:zc→Option O:=qv (α:=List Xp×za) (fun a=>[.sl 13 (a.1.map Xp.V),str a.2]) (fun a=>a.1.length≤zG) (fun a=>.yb [int (vd (a.1.map Xp.name) a.2).1,wq (vd (a.1.map Xp.name) a.2).2])
theorem ME(l:List Xp)(s:za)(Y:Hp)(Z:Nat)(h:l.length≤zG):zi false [] MD [.sl 13 (l.map Xp.V),str s] Y Z=some (.yb [int (vd (l.map Xp.name) s).1,wq (vd (l.map Xp.name) s).2],Y,Z):=
 qe rfl (zJ (V:=fun a:List Xp×za=>[O.sl 13 (a.1.map Xp.V),str a.2]) (a:=(l,s)) (fun a b e=>by obtain⟨f,g⟩:=a;obtain⟨i,j⟩:=b;simp only[zh,zK]at e;obtain⟨c,d⟩:=e;injection c with _ c;rw[y7 (fun _ _=>xQ) c,wx d]) h) (.inl rfl)
noncomputable abbrev CofX:Ctx:=qb prog [(54,zi false [] FBsX)]
theorem MF:zg prog 14 (zi false [] MD):=
 qq (fn:=f14) (zI (q:=[]) mixed ⟨th,by simp,trivial⟩:AM.Good CofX _) ⟨_,func14,by kernel_rfl,rfl,by kernel_rfl⟩ false [] _ fun args r h=>by
  obtain⟨⟨l,s⟩,rfl,a,rfl⟩:=zr h;have b:=fun Y Z=>tf l s Y Z a
  exact⟨by simp[f14],_,zo rfl (by simp[b,wH,f14]),qm _⟩
end Go.Q
