/- Lemmas. -/
import Derived.Deep.AppendSrc
import Derived.Test.YtmbfinldjgmhaaaGreatDoorG9
set_option maxRecDepth 100000
set_option maxHeartbeats 4000000
open Go Proofs Proofs.YtmbfinldjgmhaaaGreatDoor Proofs.Tryz RowKit AM SpanLaw Q Zz
namespace Go.Q
noncomputable def eP (x:yu) (c:zG):Bool:=(x.find c.attr).2&&WZ c (x.find c.attr).1
noncomputable def hF (l:List qd) (x:yu) (c:zG):Bool:=zaE l x.key (eP x) c
noncomputable def mF (l:List qd) (x:yu) (i:Nat):Bool:=Fw l x.key (eP x) i
theorem zfc(l:List qd)(x:yu)(c:zG):hF l x c=if c.kind=1 then c.args.all (hF l x)else if c.kind=2 then c.args.any (hF l x)else if c.kind=3 then !(Tk (hF l x) c.args)else if c.kind=5 then mF l x (wS l c.name)else eP x c:=ZC _ _ c
def iv(l:List qd)(x:yu)(ida m:Nat)(_:Unit)(Y:Hp):Prop:=Y ida=some (CO l x m)/\∃M,Y m=some (nj M)/\uy (mF l x) M
theorem iv.qt{l:List qd}{x:yu}{ida m:Nat}{u:Unit}{Y:Hp}(h:iv l x ida m u Y){j:Nat}(b:Option kn)(a:ida≠j)(c:m≠j):iv l x ida m u (qt Y j b):=by obtain⟨d,M,e,f⟩:=h;exact⟨by rw[zm _ _ _ _ a];exact d,M,by rw[zm _ _ _ _ c];exact e,f⟩
def KN(ida:Nat):kn:=⟨59,1,false,[[.ref ida 0 0]]⟩
theorem TH(x:yu)(s:za)(d:x.cb+2<=zx):(x.find s).1.vb<=zx:=by
 have b:=mJ x;unfold yu.find;split
 ·rw[xD];simp[ki,zZ.s,zZ.items,zZ.fields,JI,dI];omega
 ·split
  ·rename_i a c;have:=vx (zz c);split
   ·simp only;omega
   ·rw[xD];simp[CL,zZ.s,zZ.items,zZ.fields,JI,dI,zx]
  ·rw[xD];simp[CL,zZ.s,zZ.items,zZ.fields,JI,dI,zx]
theorem Xa{mem:AM.Spec}{l:List qd}{x:yu}{ida m Z0:Nat}{I:Nat->Prop}(K:ida≠m)(hid:ida<Z0)(hm:m<Z0)(hl:l.length<=zx)(hx:x.cb+2<=zx)
  (p:∀i Y Z,I i->Z0<=Z->iv l x ida m () Y->∃r Y' w,mem [.ref ida 0 0,int i] Y Z=some (r,Y',w)/\jc (·=m) (iv l x ida m) (q8 (mF l x i)) () Y Z r Y' w) :
  ∀(k:Nat) (c:zG) (Y:Hp) (Z:Nat),c.cb<=k->c.cb<=zx->YW c->(∀n∈c.names,I (wS l n))->Z0<=Z->iv l x ida m () Y ->
   ∃r Y' w,Vm mem k [.ref ida 0 0,.agg c.V] Y Z=some (r,Y',w)/\jc (·=m) (iv l x ida m) (q8 (hF l x c)) () Y Z r Y' w
 | 0,c,_,_,h,_,_,_,_,_=>absurd h (by have:=VX c;omega)
 |k+1,c,M,a,hk,hcl,hg,hI,hn1,hR=>by
  have Ea:=xG c;have hal:=ju c.args;have N:=yU c;have b:=zfc l x c;have hlim:zx=268435456:=rfl;have am:∀y∈c.args,y.cb<=k/\y.cb<=zx/\YW y/\∀n∈y.names,I (wS l n):=fun y z=>by have:=kg z;exact⟨by omega,by omega,hg.args y z,fun n hn=>hI n (by rw[N];exact zF.2 (.inr (jQ.2 ⟨y,z,hn⟩)))⟩
  have q:iv l x ida m () (qt (qt M a (some (KN ida))) (a+1) (some (Yf c))):=(hR.qt _ (by omega) (by omega)).qt _ (by omega) (by omega);have D:∀{Y':Hp},(∀j,j<a+2->¬j=m->Y' j=qt (qt M a (some (KN ida))) (a+1) (some (Yf c)) j)->∀j,j<a->¬j=m->Y' j=M j:=fun f j hj A=>by rw[f j (by omega) A,zm _ _ _ _ (by omega),zm _ _ _ _ (by omega)]
  unfold Vm yz;rw[zf (by simp[f21])];refine qz rfl ?_;refine vL (fun U Y Z=>U 2=.ref a 0 0/\U 3=.ref (a+1) 0 0/\U 4=q8 false/\U 1000004=.wq []/\Y=qt (qt M a (some (KN ida))) (a+1) (some (Yf c))/\Z=a+2) (by simp[KN,Yf]) ?_;rintro U Y Z ⟨E,F,h4,P,rfl,rfl⟩;have ma:¬a=a+1:=by omega
  by_cases k1:c.kind=1
  ·rw[zf k1]at b;obtain⟨r,Y',w,d,rfl,⟨G,_⟩,n2,B⟩:=CG (U:=Unit) (T:=(·=m)) (Rep:=fun u Y=>iv l x ida m u Y/\Y a=some (KN ida)) (step:=fun _ y=>(!hF l x y,())) (Ta:=TAh (Vm mem k)) (g:=47) (sp:=TG (Vm mem k)) (fi:=[]) (cap:=[.ref a 0 0]) (Z0:=a+2) (by simp) c.args (by omega)
    (fun _ y Y Z z hn ⟨C,Q⟩=>by
     obtain⟨R,S,W,X⟩:=am y z;obtain⟨r,Y',w,d,rfl,G,n2,B⟩:=Xa K hid hm hl hx p k y (qt Y Z (some (Yf y))) (Z+1) R S W X (by omega) (C.qt _ (by omega) (by omega));refine⟨_,Y',w,?_,rfl,⟨G,by rw[B a (by omega) (by omega),zm _ _ _ _ (by omega)];exact Q⟩,by omega,fun j hj A=>by rw[B j (by omega) A,zm _ _ _ _ (by omega)]⟩;unfold TG yz;rw[zf (by simp[f47])];refine y0 rfl ?_;have n1:¬a=Z:=by omega
     simp only[KN]at Q;simp only[Yf]at d;simp[Q,n1,d,f47]) () _ (a+2) (ze _) ⟨q,by rw[zm _ _ _ _ ma];simp⟩
   rw[sd]at d;have L:=D B;simp only[KN,Yf]at d;simp[E,F,KN,Yf,k1,d,b,jc,f21];exact⟨G,by omega,L⟩
  have k1':=yq k1;rw[zc k1]at b;by_cases k2:c.kind=2
  ·rw[zf k2]at b;obtain⟨r,Y',w,d,rfl,G,n2,B⟩:=CG (U:=Unit) (T:=(·=m)) (Rep:=iv l x ida m) (step:=fun _ y=>(hF l x y,())) (Ta:=TAh (Vm mem k)) (g:=21) (sp:=Vm mem k) (fi:=[.ref ida 0 0]) (cap:=[]) (Z0:=Z0) (by simp) c.args (by omega)
    (fun _ y Y Z z hn C=>by obtain⟨R,S,W,X⟩:=am y z;exact Xa K hid hm hl hx p k y Y Z R S W X hn C) () _ (a+2) (by omega) q
   rw[XV]at d;have L:=D B;simp only[KN,Yf]at d;simp[E,F,KN,Yf,k2,d,b,jc,f21];exact⟨G,by omega,L⟩
  have k2':=yq k2;rw[zc k2]at b;by_cases k3:c.kind=3
  ·rw[zf k3]at b;obtain⟨y,z⟩:∃y,c.args=[y]:=by
    have:=hg.one k3
    match h:c.args,this with
    |[y],_=>exact⟨y,rfl⟩
   obtain⟨R,S,W,X⟩:=am y (by rw[z];simp);obtain⟨r,Y',w,d,rfl,G,n2,B⟩:=Xa K hid hm hl hx p k y _ (a+2) R S W X (by omega) q;have L:=D B;rw[z]at b;simp only[Tk]at b;simp only[KN,Yf]at d;simp[E,F,KN,Yf,k3,z,d,b,jc,f21];exact⟨G,by omega,L⟩
  have k3':=yq k3;rw[zc k3]at b;by_cases k5:c.kind=5
  ·rw[zf k5]at b;have hIn:=hI c.name (by rw[N,zf k5];simp);obtain⟨r,Y',w,d,rfl,G,n2,B⟩:=p (wS l c.name) _ (a+2) hIn (by omega) q;have L:=D B;have C:=fun Y Z=>YK l c.name Y Z hl
   have v:=hR.1;have H:¬ida=a:=by omega
   have J:¬ida=a+1:=by omega
   simp only[CO]at v;simp only[KN,Yf,wS]at d;simp[E,F,KN,Yf,k5,v,H,J,C,d,b,jc,wS,f21];exact⟨G,by omega,L⟩
  have k5':=yq k5;rw[zc k5]at b;have hkk:=hg.kind;have k4:c.kind=4:=by omega
  have C:∀Y Z,zi false [] (FXS (fun x s=>bL (x.find s)) fun _ _=>True) [.agg [str x.key,.sl 6 (x.attrs.map ya)],str c.attr] Y Z=some (.wq [.agg (x.find c.attr).1.V,q8 (x.find c.attr).2],Y,Z):=fun Y Z=>OY (fun x s=>bL (x.find s)) (fun _ _=>True) x c.attr Y Z ⟨by omega,by omega,trivial⟩
  have Q:=fun Y Z=>OS c (x.find c.attr).1 Y Z hcl (TH x c.attr hx) (hg.ord k4)
  have v:=hR.1;have H:¬ida=a:=by omega
  have J:¬ida=a+1:=by omega
  simp only[CO]at v;rw[b];unfold eP;refine vL (fun U Y Z=>U 2=.ref a 0 0/\U 3=.ref (a+1) 0 0/\U 4=q8 false/\U 1000004=.wq []/\Y=qt (qt M a (some (KN ida))) (a+1) (some (Yf c))/\Z=a+2) (by simp[E,F,h4,P,KN,Yf,k1',k2',k3',k5']) ?_;clear E F h4 P U;rintro U Y Z ⟨E,F,h4,P,rfl,rfl⟩;have hrf:xy [1000004] ⟨U,qt (qt M a (some (KN ida))) (a+1) (some (Yf c)),a+2⟩:=fun t ht=>by
   have:t=1000004:=by simpa using ht
   subst this;refine⟨⟨fun id o n e=>?_,fun id i j e=>?_⟩,fun _=>?_⟩
   ·have e:U 1000004=.own id o n:=e;rw[P]at e;cases e
   ·have e:U 1000004=.ref id i j:=e;rw[P]at e;cases e
   ·show(U 4).YU=true;rw[h4];rfl
  rw[ti,jb hrf];cases hf:(x.find c.attr).2
  ·rw[hf]at C;simp[E,F,KN,Yf,v,H,J,C,jc,f21];exact⟨q.qt _ (by omega) (by omega),by omega,fun j hj A=>by rw[zm _ _ _ _ (by omega),zm _ _ _ _ (by omega),zm _ _ _ _ (by omega)]⟩
  ·rw[hf]at C;simp[E,F,KN,Yf,v,H,J,C,Q,jc,f21];exact⟨q.qt _ (by omega) (by omega),by omega,fun j hj A=>by rw[zm _ _ _ _ (by omega),zm _ _ _ _ (by omega),zm _ _ _ _ (by omega)]⟩
theorem Hq{s:qd}(h:xw s=0):dK s.ins/\dK s.outs/\s.cond.check=0:=by
 unfold xw at h;split at h
 case isFalse a=>exact absurd h a
 rename_i b;split at h
 case isFalse a=>exact absurd h a
 rename_i c;split at h
 ·omega
 ·exact⟨mR b,mR c,h⟩
theorem Hr{l:List qd}{x:yu}{ida m Z0:Nat}(e:ida≠m)(hid:ida<Z0)(W:m<Z0)(f:Qa l)(hl:Qb l<=zx)(X:x.cb+2<=zx) :
  ∀(n i:Nat) (Y:Hp) (Z:Nat),i<l.length->Co l i<n->Z0<=Z->iv l x ida m () Y->∃r Y' L,CP n [.ref ida 0 0,int i] Y Z=some (r,Y',L)/\jc (·=m) (iv l x ida m) (q8 (mF l x i)) () Y Z r Y' L
 | 0,_,_,_,_,h,_,_=>absurd h (by omega)
 |n+1,i,N,c,g,hrk,hn1,J=>by
  have hle:=xJ l;obtain⟨s,hs⟩:=jj (l[i]);have t:s∈l:=by rw[<-hs];exact zk g
  have hm2:=xI t;have hmc:s.cb=1+s.name.length+Qh s.ins+Qh s.outs+s.cond.cb:=rfl;have hxk:=mJ x;obtain⟨u1,u2,P⟩:=Hq (f.right s t).2;have B:l[i]?=some s:=by rw[zj g,hs]
  have u:mF l x i=(s.ins.contains x.key||(!s.outs.contains x.key&&hF l x s.cond)):=by show Fw l x.key (eP x) i=_;rw[Hh f,OB,B];rfl
  have hH:=Xa (mem:=CP n) (I:=fun j=>j<l.length/\Co l j<n) e hid W (by omega) X (fun j Y Z C hn hr=>Hr e hid W f hl X n j Y Z C.1 C.2 hn hr) zx s.cond
   (qt N c (some (bH s))) (c+1) (by omega) (by omega) (nh P) (fun y hy=>⟨ZU (f.known s t y hy),by
    have Q:wS l y∈wb l i:=by unfold wb;rw[B];exact wo hy
    have:=Jz f i _ Q;omega⟩) (by omega) (J.qt _ (by omega) (by omega))
  obtain⟨r,Y',L,e1,rfl,R,n2,f2⟩:=hH;have v:=fun Y Z=>uk s.ins x.key Y Z (by omega) (by omega)
  have D:=fun Y Z=>uk s.outs x.key Y Z (by omega) (by omega)
  rw[um u1]at v;rw[um u2]at D;have w:=J.1;obtain⟨M,S,z⟩:=J.2;have k:¬ida=c:=by omega
  have E:¬m=c:=by omega
  unfold CP yz;rw[zf (by simp[f48])];refine qz rfl ?_;have o:=w;simp only[CO]at o;rcases Lu z i S with p|p
  ·simp[o,p,jc,f48];exact J
  simp only[bH]at e1;cases A:s.ins.contains x.key
  ·cases K:s.outs.contains x.key
   ·have q:mF l x i=hF l x s.cond:=by rw[u,A,K];rfl
    obtain⟨M2,T,F⟩:=R.2;obtain⟨G,a,b⟩:=nk F i T;have H:=R.1;simp only[CO]at H;rw[q]at a;rw[A]at v;rw[K]at D;simp[o,p,g,hs,k,v,D,e1,H,a,q,jc,f48];exact⟨⟨by rw[zm _ _ _ _ e];exact R.1,G,by simp,b⟩,by omega,fun j C d=>by rw[zm _ _ _ _ d,f2 j (by omega) d,zm _ _ _ _ (by omega)]⟩
   ·have q:mF l x i=false:=by rw[u,A,K];rfl
    obtain⟨G,a,b⟩:=nk (Y:=qt N c (some (bH s))) z i (by rw[zm _ _ _ _ E];exact S);simp only[bH]at a;rw[q]at a;rw[A]at v;rw[K]at D;simp[o,p,g,hs,k,v,D,a,q,jc,f48];exact⟨⟨by rw[zm _ _ _ _ e,zm _ _ _ _ k];exact w,G,by simp,b⟩,fun j C d=>by rw[zm _ _ _ _ d,zm _ _ _ _ (by omega)]⟩
  ·have q:mF l x i=true:=by rw[u,A];rfl
   obtain⟨G,a,b⟩:=nk (Y:=qt N c (some (bH s))) z i (by rw[zm _ _ _ _ E];exact S);simp only[bH]at a;rw[q]at a;rw[A]at v;simp[o,p,g,hs,k,v,a,q,jc,f48];exact⟨⟨by rw[zm _ _ _ _ e,zm _ _ _ _ k];exact w,G,by simp,b⟩,fun j C d=>by rw[zm _ _ _ _ d,zm _ _ _ _ (by omega)]⟩
theorem nn{α d:Type}(f:d->α)(c:α->α->Int):∀a b:List d,w7 c (a.map f) (b.map f)=w7 (fun x y=>c (f x) (f y)) a b
 |[],[]=>rfl
 |[],_::_=>rfl
 |_::_,[]=>rfl
 |x::a,y::b=>by simp only[wg,w7,nn f c a b]
def Ly(v:zZ):Int:=if v.kind=1\/v.kind=2 then v.n else 0
def LA(v:zZ):za:=if v.kind=3 then v.s else[]
def CQ(v:zZ):List zZ:=if v.kind=4 then v.items else[]
def CR(v:zZ):List (za×zZ):=if v.kind=5 then v.fields else[]
theorem FR(a b:zZ):qQ a b=xP (fun x y=>wA x.kind y.kind) (xP (fun x y=>wA (Ly x) (Ly y)) (xP (fun x y=>yB (LA x) (LA y)) (xP (fun x y=>w7 qQ (CQ x) (CQ y)) fun x y=>w7 jN (CR x) (CR y)))) a b:=by
 rw[JT];unfold xP;by_cases i:a.kind=b.kind
 ·have j:wA a.kind b.kind=0:=by rw[i];exact ZK.refl _
  have s:wA 0 0=0:=ZK.refl _;have n:yB [] []=0:=X9.refl _;have k:w7 qQ [] []=0:=rfl;have g:w7 jN [] []=0:=rfl;rw[zf i,zf j];unfold Ly LA CQ CR;dsimp only;by_cases o:b.kind=1\/b.kind=2
  ·have t:¬b.kind=3:=by omega
   have l:¬b.kind=4:=by omega
   have e:¬b.kind=5:=by omega
   have m:a.kind=1\/a.kind=2:=by omega
   have f:¬a.kind=3:=by omega
   have d:¬a.kind=4:=by omega
   have c:¬a.kind=5:=by omega
   simp only[zf o,zc t,zc l,zc e,zf m,zc f,zc d,zc c,n,k,g,qI];split
   ·rename_i h;exact h
   ·rfl
  ·have m:¬(a.kind=1\/a.kind=2):=by omega
   simp only[zc o,zc m,s,qI];by_cases p:b.kind=3
   ·have l:¬b.kind=4:=by omega
    have e:¬b.kind=5:=by omega
    have f:a.kind=3:=by omega
    have d:¬a.kind=4:=by omega
    have c:¬a.kind=5:=by omega
    simp only[zf p,zc l,zc e,zf f,zc d,zc c,k,g,qI];split
    ·rename_i h;exact h
    ·rfl
   ·have f:¬a.kind=3:=by omega
    simp only[zc p,zc f,n,qI];by_cases q:b.kind=4
    ·have e:¬b.kind=5:=by omega
     have d:a.kind=4:=by omega
     have c:¬a.kind=5:=by omega
     simp only[zf q,zc e,zf d,zc c,g];split
     ·rename_i h;exact h
     ·rfl
    ·have d:¬a.kind=4:=by omega
     simp only[zc q,zc d,k,qI];by_cases r:b.kind=5
     ·have c:a.kind=5:=by omega
      simp only[zf r,zf c]
     ·have c:¬a.kind=5:=by omega
      simp only[zc r,zc c,g]
 ·have j:¬wA a.kind b.kind=0:=by unfold wA;split<;>(try split)<;>omega
  rw[zc i,zc j]
abbrev Xb(n:Nat):={v:zZ // v.vb<=n}
def FT(n:Nat)(v:Xb (n+1)):List (Xb n):=(CQ v.1).attach.map fun x=>⟨x.1,by
 have a:=x.2;unfold CQ at a;split at a
 ·have b:=js a;have c:=xD v.1;have d:=v.2;omega
 ·cases a⟩
def FU(n:Nat)(v:Xb (n+1)):List (za×Xb n):=(CR v.1).attach.map fun x=>(x.1.1,⟨x.1.2,by
 have a:=x.2;unfold CR at a;split at a
 ·have b:=vx a;have c:=xD v.1;have d:=v.2;omega
 ·cases a⟩)
theorem CS(n:Nat)(v:Xb (n+1)):(FT n v).map (·.1)=CQ v.1:=by unfold FT;rw[UO];exact List.attach_map_subtype_val _
theorem CT(n:Nat)(v:Xb (n+1)):(FU n v).map (fun x=>(x.1,x.2.1))=CR v.1:=by unfold FU;rw[UO];exact List.attach_map_subtype_val _
theorem FW(a b:za×zZ):jN a b=xP (fun x y=>yB x.1 y.1) (fun x y=>qQ x.2 y.2) a b:=by
 unfold jN xP Kz;simp only[Kz];split
 ·split
  ·rename_i c;rw[c]
  ·rfl
 ·rfl
theorem iK:∀n:Nat,TO fun a b:Xb n=>qQ a.1 b.1
 | 0=>⟨fun x=>absurd x.2 (by have:=WN x.1;omega),fun x _=>absurd x.2 (by have:=WN x.1;omega),fun x _ _=>absurd x.2 (by have:=WN x.1;omega)⟩
 |n+1=>by
  have c:=iK n;have:(fun a b:Xb (n+1)=>qQ a.1 b.1)=xP (fun x y=>wA x.1.kind y.1.kind) (xP (fun x y=>wA (Ly x.1) (Ly y.1)) (xP (fun x y=>yB (LA x.1) (LA y.1)) (xP (fun x y=>w7 (fun p q:Xb n=>qQ p.1 q.1) (FT n x) (FT n y)) fun x y=>w7 (xP (fun p q:za×Xb n=>yB p.1 q.1) fun p q=>qQ p.2.1 q.2.1) (FU n x) (FU n y)))):=by
   funext a b;rw[FR];unfold xP;have d:w7 qQ (CQ a.1) (CQ b.1)=w7 (fun p q:Xb n=>qQ p.1 q.1) (FT n a) (FT n b):=by rw[<-CS n a,<-CS n b,nn]
   have e:w7 jN (CR a.1) (CR b.1)=w7 (fun x y:za×Xb n=>if yB x.1 y.1=0 then qQ x.2.1 y.2.1 else yB x.1 y.1) (FU n a) (FU n b):=by rw[<-CT n a,<-CT n b,nn];congr 1;funext x y;exact FW _ _
   simp only[d,e]
  rw[this];exact TO.lex (ZK.pull fun x:Xb (n+1)=>x.1.kind) (TO.lex (ZK.pull fun x:Xb (n+1)=>Ly x.1) (TO.lex (X9.pull fun x:Xb (n+1)=>LA x.1) (TO.lex ((iG c).pull (FT n)) ((iG (TO.lex (X9.pull fun p:List UInt8×Xb n=>p.1) (c.pull fun p:List UInt8×Xb n=>p.2))).pull (FU n)))))
theorem Va:TO qQ where
 refl x:=(iK x.vb).refl ⟨x,ze _⟩
 flip x y:=(iK (x.vb+y.vb)).flip ⟨x,by omega⟩ ⟨y,by omega⟩
 tr x y z:=(iK (x.vb+y.vb+z.vb)).tr ⟨x,by omega⟩ ⟨y,by omega⟩ ⟨z,by omega⟩
def UpV(l:List zZ):Prop:=l.Pairwise fun a b=>qQ a b<0
theorem TI{l:List zZ}(m:UpV l)(v:zZ):(sf l v).2=l.any fun w=>qQ v w==0:=by
 rw[qv,jS];constructor
 ·intro h;unfold sf at h;simp only at h;split at h
  ·rename_i x r;refine⟨x,zz r,?_⟩;rw[yH]at h⊢;exact(Va.eq x v).1 h
  ·cases h
 ·rintro⟨w,s,o⟩;rw[yH]at o;have g:=(Va.eq v w).1 o;obtain⟨j,p⟩:=Kd s;obtain⟨a,b⟩:=zd.1 p;have t:Zv (V8 l v) 0 l.length=j:=by
   refine r8 (n:=l.length) (fun k i=>?_) (fun k i c=>?_) (xq _) (Nat.le_of_lt a) (ze _)
   ·have d:=Qd.1 m k j (by omega) a i;rw[b]at d;have e:qQ l[k] v<0:=by
     have q:=Va.tr l[k] w v (by omega) (by omega);rcases Yk q with f|f
     ·exact f
     ·have u:=Va.tr w v l[k] (by omega) (by have:=(Va.eq l[k] v).1 f;omega);have:=(Va.flip l[k] w).1 d;omega
    simp[V8,show k<l.length by omega,e]
   ·rcases Nat.lt_or_eq_of_le i with h|rfl
    ·have d:=Qd.1 m j k a c h;rw[b]at d;have e:¬qQ l[k] v<0:=fun q=>by have f:=Va.tr w l[k] v (by omega) (by omega);have u:=Va.tr l[k] v w (by omega) (by omega);have:=(Va.flip w l[k]).1 d;omega
     simp[V8,c,e]
    ·have e:¬qQ w v<0:=by omega
     simp[V8,a,b,e]
  unfold sf;simp only[t,p];rw[yH];exact g
def vm(a:List za):zG:=.mk 4 V9 2 (a.map ki) [] [] []
def Hs(s:qd)(c:zG):zG:=if 0<s.ins.length then .mk 2 [] 0 [] [] [] [vm s.ins,c]else c
def jA(s:qd)(c:zG):zG:=if 0<s.outs.length then .mk 1 [] 0 [] [] [] [.mk 3 [] 0 [] [] [] [vm s.outs],Hs s c]else Hs s c
mutual
def zG.Qe(Wj:za->zG):zG->zG
 | .mk k a o v p n l=>if k=5 then Wj n else .mk k a o v p n (HX Wj l)
def HX(Wj:za->zG):List zG->List zG
 |[]=>[]
 |c::l=>c.Qe Wj::HX Wj l
end
theorem sn(Wj:za->zG):∀l,HX Wj l=l.map (zG.Qe Wj)
 |[]=>rfl
 |c::l=>by rw[HX,sn Wj l];rfl
theorem KO(Wj:za->zG)(k:Int)(a:za)(o:Int)(v:List zZ)(p n:za)(l:List zG):(zG.mk k a o v p n l).Qe Wj=if k=5 then Wj n else .mk k a o v p n (l.map (zG.Qe Wj)):=by rw[zG.Qe,sn]
noncomputable def Y4 (l:List qd):Nat->Nat->zG
 | 0,_=>.mk 0 [] 0 [] [] [] []
 |n+1,i=>match l[i]? with
  |some s=>jA s (s.cond.Qe fun m=>Y4 l n (wS l m))
  |none=>.mk 0 [] 0 [] [] [] []
noncomputable def yZ (l:List qd) (c:zG):zG:=c.Qe fun m=>Y4 l 101 (wS l m)
theorem np{sg:za->zG}{f g:za->Bool}{b:zG->Bool}(q:∀k a o v p n l l',b (.mk k a o v p n l)=b (.mk k a o v p n l'))(c:zG):(∀n∈c.names,(sg n).y8 f b=g n)->(c.Qe sg).y8 f b=c.y8 g b:=by
 induction c using zG.ind with
 |h k a o v p n l r=>
  intro h;rw[yU]at h;have d:∀x∈l,(x.Qe sg).y8 f b=x.y8 g b:=fun x e=>r x e fun m s=>h m (zF.2 (.inr (jQ.2 ⟨x,e,s⟩)))
  rw[KO];by_cases j:k=5
  ·rw[zf j,ZC g];simp only[zG.kind,j];exact h n (by simp[zG.kind,zG.name,j])
  ·rw[zc j,ZC f,ZC g];simp only[zG.kind,zG.args,zG.name,j,wx];have t:((l.map (zG.Qe sg)).all fun x=>x.y8 f b)=l.all fun x=>x.y8 g b:=by rw[List.all_map,qv,zL,zL];exact⟨fun i x e=>by rw[<-d x e];exact i x e,fun i x e=>by show(x.Qe sg).y8 f b=true;rw[d x e];exact i x e⟩
   have u:((l.map (zG.Qe sg)).any fun x=>x.y8 f b)=l.any fun x=>x.y8 g b:=by rw[List.any_map,qv,jS,jS];exact⟨fun⟨x,e,i⟩=>⟨x,e,by rw[<-d x e];exact i⟩,fun⟨x,e,i⟩=>⟨x,e,by show(x.Qe sg).y8 f b=true;rw[d x e];exact i⟩⟩
   have w:Tk (fun x=>x.y8 f b) (l.map (zG.Qe sg))=Tk (fun x=>x.y8 g b) l:=by
    cases l with
    |nil=>rfl
    |cons x l=>exact d x (by simp)
   rw[t,u,w,q k a o v p n _ l]
theorem CU{s:qd}{c:zG}{f:za->Bool}{a:zG->Bool}{key:za}(hi:a (vm s.ins)=s.ins.contains key)(g:a (vm s.outs)=s.outs.contains key)(hd:∀k,k∈s.ins->k ∉ s.outs) :
  (jA s c).y8 f a=(s.ins.contains key||(!s.outs.contains key&&c.y8 f a)):=by
 have d:∀b,(vm b).y8 f a=a (vm b):=fun b=>by rw[ZC];rfl
 have e:(Hs s c).y8 f a=(s.ins.contains key||c.y8 f a):=by
  unfold Hs;split
  ·rw[ZC];simp[zG.kind,zG.args,d,hi]
  ·rename_i h;have:s.ins=[]:=qj.1 (by omega);rw[this];simp
 unfold jA;split
 ·rw[ZC];simp only[zG.kind,zG.args,qI,q9,Zn,zhs];have i:(zG.mk 3 [] 0 [] [] [] [vm s.outs]).y8 f a=!s.outs.contains key:=by rw[ZC];simp[zG.kind,zG.args,Tk,d,g]
  rw[e,i];cases j:s.ins.contains key
  ·simp
  ·have:key ∉ s.outs:=hd key (by simpa using j);simp[this]
 ·rename_i h;have:s.outs=[]:=qj.1 (by omega);rw[e,this];simp
theorem sq(x:yu)(k:Int)(a:za)(o:Int)(v:List zZ)(p n:za)(l l':List zG):eP x (.mk k a o v p n l)=eP x (.mk k a o v p n l'):=rfl
theorem nq(a b:za):qQ (ki a) (ki b)=yB a b:=by simp[qQ,ki,zZ.kind,zZ.s]
theorem O0{d:List za}(h:dK d):UpV (d.map ki):=by
 unfold UpV;rw[List.pairwise_map];refine h.imp fun{a b} c=>?_
 rw[nq];exact(Jg a b).2 c
theorem Ht(x:yu){a:List za}(h:dK a):eP x (vm a)=a.contains x.key:=by
 have d:x.find V9=(ki x.key,true):=by simp[yu.find]
 unfold eP;show((x.find V9).2&&WZ (vm a) (x.find V9).1)=_;rw[d];simp only[jK];unfold WZ;rw[zc (by simp[vm,zG.op]),zf (by simp[vm,zG.op])];show(sf (a.map ki) (ki x.key)).2=_;rw[TI (O0 h),List.any_map,qv,jS,zcC];constructor
 ·rintro⟨k,b,c⟩;have c:yB x.key k=0:=by rw[<-nq];simpa using c
  rw[(kI _ _).1 c];exact b
 ·intro b;refine⟨x.key,b,?_⟩;show(qQ (ki x.key) (ki x.key)==0)=true;rw[nq,(kI _ _).2 rfl];rfl
theorem LB{s:qd}(h:xw s=0):∀k,k∈s.ins->k ∉ s.outs:=by
 unfold xw at h;split at h
 ·split at h
  ·split at h
   ·cases h
   ·rename_i a;intro k b d;exact a (jS.2 ⟨k,b,by simpa using d⟩)
  ·rename_i c;exact absurd h c
 ·rename_i c;exact absurd h c
theorem nr{l:List qd}(h:Qa l)(x:yu)(f:za->Bool):∀(n i:Nat),Co l i<n->i<l.length->(Y4 l n i).y8 f (eP x)=Fw l x.key (eP x) i
 | 0,i,c,_=>by omega
 |n+1,i,c,hi=>by
  have hs:l[i]?=some l[i]:=zj hi;have a:=(h.right l[i] (zk hi)).2;obtain⟨d,e,_⟩:=Hq a;rw[Hh h];unfold Y4 OB;rw[hs];simp only;rw[CU (Ht x d) (Ht x e) (LB a),np (g:=fun m=>Fw l x.key (eP x) (wS l m)) (sq x)];intro m b;have j:wS l m∈wb l i:=by unfold wb;rw[hs];exact wo b
  exact nr h x f n _ (by have:=Jz h i _ j;omega) (ZU (h.known l[i] (zk hi) m b))
theorem FY{l:List qd}(h:Qa l)(x:yu)(f:za->Bool)(c:zG)(a:∀n∈c.names,yx l n=true):(yZ l c).y8 f (eP x)=hF l x c:=by
 unfold yZ hF zaE;refine np (sq x) c fun n b=>?_
 exact nr h x f 101 _ (by have:=KL h (wS l n);omega) (ZU (a n b))
theorem nt{sg:za->zG}(c:zG):(∀n∈c.names,(sg n).names=[])->(c.Qe sg).names=[]:=by
 induction c using zG.ind with
 |h k a o v p n l f=>
  intro h;rw[yU]at h;rw[KO];by_cases d:k=5
  ·rw[zf d];exact h n (by simp[zG.kind,zG.name,d])
  ·rw[zc d,yU,List.eq_nil_iff_forall_not_mem];intro m hm;rcases zF.1 hm with hm|hm
   ·simp[zG.kind,d]at hm
   ·obtain⟨y,g,b⟩:=jQ.1 hm;obtain⟨z,e,rfl⟩:=qp.1 g;rw[f z e fun q i=>h q (zF.2 (.inr (jQ.2 ⟨z,e,i⟩)))]at b;cases b
theorem nu(a:List za):(vm a).names=[]:=by unfold vm;rw[yU];simp[zG.kind];rfl
theorem XW(k:Int)(b:k≠5)(l:List zG)(h:∀c∈l,c.names=[]):(zG.mk k [] 0 [] [] [] l).names=[]:=by
 rw[yU,List.eq_nil_iff_forall_not_mem];intro m hm;rcases zF.1 hm with hm|hm
 ·simp[zG.kind,b]at hm
 ·obtain⟨y,d,a⟩:=jQ.1 hm;rw[h y d]at a;cases a
theorem CV(s:qd)(c:zG)(h:c.names=[]):(jA s c).names=[]:=by
 have b:(Hs s c).names=[]:=by
  unfold Hs;split
  ·exact XW 2 (by decide) _ fun y a=>by
    rcases zv.1 a with rfl|a
    ·exact nu _
    ·rw[qB.1 a];exact h
  ·exact h
 unfold jA;split
 ·refine XW 1 (by decide) _ fun y a=>?_
  rcases zv.1 a with rfl|a
  ·exact XW 3 (by decide) _ fun z d=>by rw[qB.1 d];exact nu _
  ·rw[qB.1 a];exact b
 ·exact b
theorem nv:(zG.mk 0 [] 0 [] [] [] []).names=[]:=XW 0 (by decide) [] fun c a=>by cases a
theorem nw(l:List qd):∀n i,(Y4 l n i).names=[]
 | 0,_=>nv
 |n+1,i=>by
  unfold Y4;split
  ·exact CV _ _ (nt _ fun m _=>nw l n _)
  ·exact nv
theorem FZ(l:List qd)(c:zG):(yZ l c).names=[]:=nt c fun n _=>nw l 101 _
theorem uz:∀a b:za,gP a b=yB a b
 |[],[]=>by simp[gP,yB,Lib.compareBytes,Op.bytesLess]
 |[],_::_=>by simp[gP,yB,Lib.compareBytes,Op.bytesLess]
 |_::_,[]=>by simp[gP,yB,Lib.compareBytes,Op.bytesLess]
 |a::x,b::y=>by
  have d:=uz x y;unfold gP yB at d⊢;rcases uh a b with h|rfl|h
  ·simp[Lib.compareBytes,Op.bytesLess,h]
  ·simpa[Lib.compareBytes,Op.bytesLess,bG]using d
  ·have c:¬a=b:=fun e=>bG b (e ▸ h)
   simp[Lib.compareBytes,Op.bytesLess,h,mO h,c]
theorem XX{a b:Int}(h:wA a b=0):a=b:=by
 unfold wA at h;split at h
 ·cases h
 ·split at h
  ·cases h
  ·omega
theorem ny{α:Type}(c:α->α->Int){a b:List α}{m:Nat}(f:m<=a.length)(g:m<=b.length)(h:m=a.length\/m=b.length):w7 c (a.drop m) (b.drop m)=wA a.length b.length:=by
 unfold wA;by_cases e:m<a.length
 ·have d:m=b.length:=by omega
  rw[zh e,kW (l:=b) (by omega),zc (by omega),zf (by omega)];rfl
 ·rw[kW (l:=a) (by omega)];by_cases d:m<b.length
  ·rw[zh d,zf (by omega)];rfl
  ·rw[kW (l:=b) (by omega),zc (by omega),zc (by omega)];rfl
theorem uA(a b:Nat):∃m:Nat,(if b<a then(b:Int)else a)=m/\m<=a/\m<=b/\(m=a\/m=b):=by
 by_cases h:b<a
 ·exact⟨b,by rw[zf h],by omega,ze _,.inr rfl⟩
 ·exact⟨a,by rw[zc h],ze _,by omega,.inl rfl⟩
theorem eQ(f g:za×zZ):jN f g=if yB f.1 g.1=0 then qQ f.2 g.2 else yB f.1 g.1:=by
 unfold jN;simp only[Kz];split
 ·split
  ·rename_i h;rw[h]
  ·rfl
 ·rfl
noncomputable abbrev Crcm (n:Nat):Ctx:=zW prog [(16,zi false [] (R0 n)),(37,zi false [] (NQ wA)),(38,zi false [] (IP gP))]
theorem pq(n:Nat)(a b:zZ)(h:a.vb<=zx/\a.vb<=n+1/\b.vb<=zx):zt (Crcm n) f16 [.agg a.V,.agg b.V]=some (int (qQ a b)):=by
 obtain⟨M,p,o⟩:=h;have X:=xD a;have vb:=xD b;have la:=yE a.items;have lb:=yE b.items;have fa:=jt a.fields;have fb:=jt b.fields;unfold zx at M o;refine zn rfl ?_;have c:=JT a b;by_cases A:a.kind=b.kind
 case neg=>
  rw[zc A]at c;have F:(wA a.kind b.kind != 0)=true:=by rw[zhz];exact fun e=>A (XX e)
  simp[F,c,f16]
 rw[zf A]at c;by_cases G:a.kind=1
 ·rw[zf (.inl G)]at c;have q:b.kind=1:=by omega
  simp[G,q,c,f16]
 by_cases H:a.kind=2
 ·rw[zf (.inr H)]at c;have q:b.kind=2:=by omega
  simp[H,q,c,f16]
 rw[zc (by omega)]at c;by_cases C:a.kind=3
 ·rw[zf C]at c;have q:b.kind=3:=by omega
  have hs:=uz a.s b.s;simp[C,q,c,hs,f16]
 rw[zc C]at c;by_cases D:a.kind=4
 ·rw[zf D]at c;have q:b.kind=4:=by omega
  obtain⟨m,I,v,w,x⟩:=uA a.items.length b.items.length;rw[c];simp[D,q,I];refine zT (fun k U Y Z=>U 2=.ref 0 0 0/\U 3=.ref 1 0 0/\U 43=int m/\U 44=int k/\Y 0=some ⟨52,5,false,[a.V]⟩/\Y 1=some ⟨52,5,false,[b.V]⟩/\w7 qQ a.items b.items=w7 qQ (a.items.drop k) (b.items.drop k)) m
   ⟨by simp,by simp,by simp,by simp,by simp,by simp,by simp⟩ ?_
  rintro k U Y Z A ⟨p,o,i,j,t,u,d⟩;by_cases l:k<m
  ·have f:k<a.items.length:=by omega
   have g:k<b.items.length:=by omega
   have N:=js (zk f);have P:=js (zk g);have B:=fun Y Z=>YC n a.items[k] b.items[k] Y Z ⟨by unfold zx;omega,by omega,by unfold zx;omega⟩
   have J:=qH k;rw[zh f,zh g]at d;simp only[w7]at d;by_cases r:qQ a.items[k] b.items[k]=0
   ·rw[zf r]at d;simp[p,o,i,j,t,u,l,f,g,B,r,J];exact⟨l,d⟩
   ·rw[zc r]at d;have y:=ZX r;simp[p,o,i,j,t,u,l,f,g,B,y,d,f16]
  ·obtain rfl:k=m:=by omega
   rw[ny qQ v w x]at d;simp[p,o,i,j,t,u,d,f16]
 rw[zc D]at c;by_cases E:a.kind=5
 ·rw[zf E]at c;have q:b.kind=5:=by omega
  obtain⟨m,I,v,w,x⟩:=uA a.fields.length b.fields.length;rw[c];simp[E,q,I];refine zT (fun k U Y Z=>U 2=.ref 0 0 0/\U 3=.ref 1 0 0/\U 77=int m/\U 78=int k/\Y 0=some ⟨52,5,false,[a.V]⟩/\Y 1=some ⟨52,5,false,[b.V]⟩/\w7 jN a.fields b.fields=w7 jN (a.fields.drop k) (b.fields.drop k)) m
   ⟨by simp,by simp,by simp,by simp,by simp,by simp,by simp⟩ ?_
  rintro k U Y Z A ⟨p,o,i,j,t,u,d⟩;by_cases l:k<m
  ·have f:k<a.fields.length:=by omega
   have g:k<b.fields.length:=by omega
   have N:=vx (zk f);have P:=vx (zk g);have B:=fun Y Z=>YC n a.fields[k].2 b.fields[k].2 Y Z ⟨by unfold zx;omega,by omega,by unfold zx;omega⟩
   have hs:=uz a.fields[k].1 b.fields[k].1;have J:=qH k;rw[zh f,zh g]at d;simp only[w7]at d;rw[eQ]at d;by_cases z:yB a.fields[k].1 b.fields[k].1=0
   ·rw[zf z]at d;by_cases r:qQ a.fields[k].2 b.fields[k].2=0
    ·rw[zf r]at d;simp[p,o,i,j,t,u,l,f,g,B,hs,z,r,J];exact⟨l,d⟩
    ·rw[zc r]at d;have y:=ZX r;simp[p,o,i,j,t,u,l,f,g,B,hs,z,y,d,f16]
   ·rw[zc z,zc z]at d;have K:=yq z;have L:=ZX z;simp[p,o,i,j,t,u,l,f,g,B,hs,K,L,d,f16]
  ·obtain rfl:k=m:=by omega
   rw[ny jN v w x]at d;simp[p,o,i,j,t,u,d,f16]
 rw[zc E]at c;have Q:=yq G;have R:=yq H;have S:=yq C;have T:=yq D;have W:=yq E;have F:wA a.kind b.kind=0:=by rw[A];simp
 simp[F,Q,R,S,T,W,c,f16]
theorem nz:∀n,zg prog 16 (zi false [] (R0 n)):=by
 intro n
 induction n with
 |zero=>
  exact Yn ⟨_,func16,by kernel_rfl,by kernel_rfl⟩ fun args r h=>by obtain⟨a,b,_,f,_⟩:=iC h;have:=WN a;omega
 |succ n c=>
  have d:Gd (Crcm n):=qc mixed ⟨c,ZS,bp,trivial⟩;exact yj (fn:=f16) d (qE func16) false [] _ fun args r h=>by obtain⟨a,b,rfl,e,rfl⟩:=iC h;exact⟨zE (ze 2) (by decide),_,pq n a b e,qq _⟩
def Yg(s:Int×Bool):Bool:=s.2||decide (200<s.1)
def sr(s r:Int×Bool):Int×Bool:=if Yg s then s else(s.1+r.1,s.2||r.2)
mutual
def zG.rp:zG->Int->Int×Bool
 | .mk _ _ _ _ _ _ xs,l=>AL xs l (1,decide (20<l))
def AL:List zG->Int->Int×Bool->Int×Bool
 |[],_,s=>s
 |c::cs,l,s=>AL cs l (sr s (c.rp (l+1)))
end
theorem O1(c:zG)(l:Int):c.rp l=AL c.args l (1,decide (20<l)):=by cases c;rfl
theorem dj{l:Int}{s:Int×Bool}(h:Yg s=true):∀xs:List zG,AL xs l s=s
 |[]=>rfl
 |c::cs=>by have:sr s (c.rp (l+1))=s:=zf h;simp only[AL];rw[this];exact dj h cs
theorem O2{xs:List zG}{l:Int}{s:Int×Bool}{k:Nat}(h:k<xs.length):AL (xs.drop k) l s=AL (xs.drop (k+1)) l (sr s (xs[k].rp (l+1))):=by rw[zh h,AL]
structure RPC (xs:List zG) (l:Int) (s r:Int×Bool):Prop where
 lo:s.1<=r.1
 hi:r.1<=s.1+wI xs
 deep:r.2=true->s.2=true\/20<l+(yp xs:Int)
 all:Yg r=false->r.1=s.1+wI xs/\(xs≠[]->l+(yp xs:Int)<=20)
theorem CW(c:zG):∀l,0<=(c.rp l).1/\(c.rp l).1<=c.parts/\((c.rp l).2=true->20<l+(c.levels:Int)-1)/\(Yg (c.rp l)=false->(c.rp l).1=c.parts/\l+(c.levels:Int)-1<=20):=by
 induction c using zG.ind with
 |h k a o v p n ys C=>
  intro l;have m:∀(xs:List zG) (s:Int×Bool),0<=s.1->(∀x∈xs,x∈ys)->RPC xs l s (AL xs l s):=by
   intro xs
   induction xs with
   |nil=>intro s _ _;exact⟨by simp[AL],by simp[AL,wI],fun h=>.inl (by simpa[AL]using h),fun _=>⟨by simp[AL,wI],fun h=>absurd rfl h⟩⟩
   |cons x xs q=>
    intro s I B;by_cases g:Yg s=true
    ·rw[dj g];exact⟨by omega,by omega,fun h=>.inl h,fun h=>by rw[g]at h;cases h⟩
    ·have e:AL (x::xs) l s=AL xs l (s.1+(x.rp (l+1)).1,s.2||(x.rp (l+1)).2):=by simp only[AL,sr,g];rfl
     rw[e];obtain⟨J,K,D,E⟩:=C x (B x (by simp)) (l+1);have i:=q (s.1+(x.rp (l+1)).1,s.2||(x.rp (l+1)).2) (by simp only;omega) (fun y F=>B y (by simp[F]));have b:wI (x::xs)=x.parts+wI xs:=by simp[wI]
     have d:yp (x::xs)=max x.levels (yp xs):=by simp[yp]
     have r:=i.lo;have t:=i.hi;simp only at r t;refine⟨by omega,by rw[b];omega,fun h=>?_,fun h=>?_⟩
     ·rw[d];rcases i.deep h with h|h
      ·simp only[qF]at h;rcases h with h|h
       ·exact .inl h
       ·right;have:=D h;omega
      ·right;omega
     ·obtain⟨u,w⟩:=i.all h;have z:Yg (x.rp (l+1))=false:=by
       simp only[Yg,wy,yW]at h g⊢;refine⟨?_,by omega⟩;cases hd:(x.rp (l+1)).2 with
       |false=>rfl
       |true=>
        exfalso;have A:Yg (s.1+(x.rp (l+1)).1,s.2||(x.rp (l+1)).2)=true:=by simp[Yg,hd]
        rw[dj A]at h;simp[hd]at h
      obtain⟨L,M⟩:=E z;simp only at u;refine⟨by rw[b];omega,fun _=>?_⟩;rw[d];by_cases f:xs=[]
      ·subst f;simp only[yp];omega
      ·have:=w f;omega
  have j:=m ys (1,decide (20<l)) (by simp) fun x z=>z
  rw[O1,QX,bw];simp only[zG.args];have G:=j.lo;have H:=j.hi;simp only at G H;refine⟨by omega,by omega,fun h=>?_,fun h=>?_⟩
  ·rcases j.deep h with h|h
   ·simp at h;omega
   ·omega
  ·obtain⟨u,w⟩:=j.all h;simp only at u;refine⟨by omega,?_⟩;by_cases f:ys=[]
   ·rw[f]at h⊢;simp[AL,Yg]at h;simp only[yp];omega
   ·have:=w f;omega
theorem ss(c:zG):Yg (c.rp 1)=(decide ((200:Int)<c.parts)||decide ((20:Int)<c.levels)):=by
 obtain⟨e,f,b,d⟩:=CW c 1;rw[qv];constructor
 ·intro h;simp only[Yg,qF,qi]at h⊢;rcases h with h|h
  ·right;have:=b h;omega
  ·left;omega
 ·intro h;refine vC fun a=>?_
  have a:Yg (c.rp 1)=false:=by simpa using a
  obtain⟨g,i⟩:=d a;simp only[Yg,wy,yW]at a;simp only[qF,qi]at h;omega
theorem su(a b:Int):wA a b<0↔0<wA b a:=by
 unfold wA;by_cases c:a<b
 ·rw[zf c,zc (by omega),zf c];omega
 ·by_cases d:b<a
  ·rw[zc c,zf d,zf d];omega
  ·rw[zc c,zc d,zc d,zc c]
theorem eR(a b:za):yB a b<0↔0<yB b a:=by
 have d:=Jg a b;have f:=Jg b a;have i:=kI a b;have g:=kI b a;constructor
 ·intro h;have j:=d.1 h;have n:¬yB b a<0:=fun c=>by have:=Q0 j (f.1 c);rw[V5]at this;cases this
  have o:¬yB b a=0:=fun e=>by have:=g.1 e;have:=i.2 this.symm;omega
  omega
 ·intro h;refine vC fun c=>?_
  have k:¬a=b:=fun e=>by have:=g.2 e.symm;omega
  have l:gM a b=false:=by
   unfold gM;rw[wy];refine⟨?_,by simpa using k⟩;cases m:Op.bytesLess a b with
   |false=>rfl
   |true=>exact absurd (d.2 m) c
  have:=f.2 (Qx l);omega
theorem eS{α:Type}{c:α->α->Int}:∀{a b:List α},(∀x∈a,∀y∈b,c x y<0↔0<c y x)->(∀x∈a,∀y∈b,c x y=0↔c y x=0)->(w7 c a b<0↔0<w7 c b a)/\(w7 c a b=0↔w7 c b a=0)
 |[],[],_,_=>by simp[w7]
 |[],_::_,_,_=>by simp[w7]
 |_::_,[],_,_=>by simp[w7]
 |x::a,y::b,h,i=>by
  have j:=eS (a:=a) (b:=b) (fun u d v f=>h u (by simp[d]) v (by simp[f])) (fun u d v f=>i u (by simp[d]) v (by simp[f]));have k:=h x (by simp) y (by simp);have g:=i x (by simp) y (by simp);simp only[w7];by_cases e:c x y=0
  ·rw[zf e,zf (g.1 e)];exact j
  ·rw[zc e,zc fun l=>e (g.2 l)];exact⟨k,g⟩
theorem eT{α:Type}{c:α->α->Int}{x y:α}(a:c x y<0↔0<c y x)(b:c y x<0↔0<c x y):c x y=0↔c y x=0:=by omega
theorem fU:∀(n:Nat) (a b:zZ),a.vb+b.vb<=n->(qQ a b<0↔0<qQ b a)
 | 0,a,b,h=>by have:=WN a;omega
 |n+1,a,b,h=>by
  have i:=fU n;have q:=xD a;have r:=xD b;rw[JT a b,JT b a];by_cases g:a.kind=b.kind
  case neg=>rw[zc g,zc fun e=>g e.symm];exact su _ _
  rw[zf g,zf g.symm,<-g];split
  ·exact su _ _
  split
  ·exact eR _ _
  split
  ·have f:∀x∈a.items,∀y∈b.items,(qQ x y<0↔0<qQ y x)/\(qQ y x<0↔0<qQ x y):=fun x c y d=>by have:=js c;have:=js d;exact⟨i x y (by omega),i y x (by omega)⟩
   exact(eS (fun x c y d=>(f x c y d).1) fun x c y d=>eT (f x c y d).1 (f x c y d).2).1
  split
  ·have f:∀x∈a.fields,∀y∈b.fields,(jN x y<0↔0<jN y x)/\(jN y x<0↔0<jN x y):=fun x c y d=>by
    have:=vx c;have:=vx d;have m:=i x.2 y.2 (by omega);have o:=i y.2 x.2 (by omega);have j:=eR x.1 y.1;have k:=eR y.1 x.1;have l:=eT j k;rw[eQ,eQ];by_cases e:yB x.1 y.1=0
    ·rw[zf e,zf (l.1 e)];exact⟨m,o⟩
    ·rw[zc e,zc fun p=>e (l.2 p)];exact⟨j,k⟩
   exact(eS (fun x c y d=>(f x c y d).1) fun x c y d=>eT (f x c y d).1 (f x c y d).2).1
  ·simp
theorem CX(a b:zZ):qQ b a<=0↔0<=qQ a b:=by have:=fU _ a b (ze _);omega
def nA(c:zG):Bool:=!((!(c.kind==4)&&(!c.attr.isEmpty||c.op != 0))||(c.kind != 5&&!c.name.isEmpty))&&!((!((c.kind==4)&&Jf c.op)&&decide (0<c.qZ.length))||(!((c.kind==4)&&WW c.op)&&!c.pat.isEmpty)) &&
 (if c.kind=3 then(c.args.length:Int)==1 else if c.kind=4\/c.kind=5 then((c.args.length:Int)==0&&(!jU c.op||(c.qZ.length:Int)==1))else true)
theorem LC(c:zG)(h:xb c.kind 1 5=true):nA c=!Zq c:=by
 have j:c.kind=1\/c.kind=2\/c.kind=3\/c.kind=4\/c.kind=5:=by simp[xb]at h;omega
 have s:(decide (0<c.args.length))=!((c.args.length:Int)==0):=by
  cases c.args with
  |nil=>rfl
  |cons x l=>simp;omega
 have b:((c.qZ.length:Int) != 1)=!((c.qZ.length:Int)==1):=rfl;have d:((c.args.length:Int) != 1)=!((c.args.length:Int)==1):=rfl;have f:(c.op != 0)=!(c.op==0):=rfl;have t:c.op=0->jU c.op=false:=fun e=>by rw[e];rfl
 unfold nA Zq w1F w2F w3F w4F w5F w6F w7F;rw[s,b,d,f];generalize c.attr.isEmpty=m;generalize c.name.isEmpty=n;generalize decide (0<c.qZ.length)=o;generalize c.pat.isEmpty=p;generalize Jf c.op=q;generalize WW c.op=r;generalize ((c.qZ.length:Int)==1)=u;generalize ((c.args.length:Int)==0)=a;generalize ((c.args.length:Int)==1)=v;by_cases g:c.op=0
 ·rw[t g,g];rcases j with k|k|k|k|k<;>rw[k]<;>cases m<;>cases n<;>cases o<;>cases p<;>cases a<;>simp[xb]<;>cases q<;>cases r<;>rfl
 ·have i:=yq g;rw[i];generalize jU c.op=w;rcases j with k|k|k|k|k<;>rw[k]<;>cases m<;>cases n<;>cases o<;>cases p<;>cases a<;>simp[xb]<;>cases q<;>cases r<;>cases w<;>cases u<;>rfl
theorem nB{f g:za->zG}(c:zG):(∀n∈c.names,f n=g n)->c.Qe f=c.Qe g:=by
 induction c using zG.ind with
 |h k a o v p n l e=>
  intro h;rw[yU]at h;rw[KO,KO];by_cases b:k=5
  ·rw[zf b,zf b];exact h n (by simp[zG.kind,zG.name,b])
  ·rw[zc b,zc b];congr 1;exact Vt fun x d=>e x d fun m i=>h m (zF.2 (.inr (jQ.2 ⟨x,d,i⟩)))
theorem eU{l:List qd}(h:Qa l):∀(n a i:Nat),Co l i<n->Co l i<a->i<l.length->Y4 l n i=Y4 l a i
 | 0,_,_,c,_,_=>by omega
 |_+1,0,_,_,d,_=>by omega
 |n+1,a+1,i,c,d,hi=>by
  have hs:l[i]?=some l[i]:=zj hi;unfold Y4;rw[hs];simp only;congr 1;refine nB _ fun m b=>?_
  have e:wS l m∈wb l i:=by unfold wb;rw[hs];exact wo b
  have f:=Jz h i _ e;exact eU h n a _ (by omega) (by omega) (ZU (h.known l[i] (zk hi) m b))
noncomputable def exM (l:List qd) (i:Nat):zG:=Y4 l 101 i
theorem zcc{l:List qd}(h:Qa l){i:Nat}(hi:i<l.length):exM l i=jA l[i] (yZ l l[i].cond):=by
 have hs:l[i]?=some l[i]:=zj hi;have b:∀n,Y4 l (n+1) i=jA l[i] (l[i].cond.Qe fun m=>Y4 l n (wS l m)):=fun n=>by
  conv=>lhs;unfold Y4
  rw[hs]
 have c:=KL h i;unfold exM;rw[eU h 101 (100+1) i (by omega) (by omega) hi,b 100];refine zu (jA l[i]) ?_;show _=l[i].cond.Qe fun m=>Y4 l 101 (wS l m)
 refine nB _ fun m a=>?_
 have d:wS l m∈wb l i:=by unfold wb;rw[hs];exact wo a
 have e:=Jz h i _ d;have f:=KL h i;exact eU h 100 101 _ (by omega) (by omega) (ZU (h.known l[i] (zk hi) m a))
theorem iL(l:List qd)(c:zG):yZ l c=if c.kind=5 then exM l (wS l c.name)else .mk c.kind c.attr c.op c.qZ c.pat c.name (c.args.map (yZ l)):=by
 cases c with
 |mk k a o v p n l'=>exact KO _ _ _ _ _ _ _ _
theorem kb(k:Int)(a:za)(o:Int)(v:List zZ)(p n:za)(l:List zG):(zG.mk k a o v p n l).parts=1+wI l:=rfl
theorem XY(k:Int)(a:za)(o:Int)(v:List zZ)(p n:za)(l:List zG):(zG.mk k a o v p n l).levels=yp l+1:=rfl
theorem Xc:∀{l:List zG} {x:zG},x∈l->x.levels<=yp l
 |y::l,x,h=>by
  simp only[yp];rcases zv.1 h with rfl|h
  ·omega
  ·have:=Xc h;omega
theorem bM(s:qd)(c:zG):c.parts<=(jA s c).parts/\(jA s c).parts<=c.parts+5/\c.levels<=(jA s c).levels:=by
 have a:∀b,(vm b).parts=1:=fun _=>rfl
 have d:c.parts<=(Hs s c).parts/\(Hs s c).parts<=c.parts+2/\c.levels<=(Hs s c).levels:=by
  unfold Hs;split
  ·rw[kb,XY];simp only[wI,yp,a];omega
  ·omega
 unfold jA;split
 ·rw[kb,XY];simp only[wI,yp,kb,a];omega
 ·omega
theorem KP:∀{rs:List zG},(∀r∈rs,r.parts<=200)->wI rs<=200*rs.length
 |[],_=>by simp[wI]
 |r::rs,h=>by
  have b:=h r (by simp);have c:=KP (rs:=rs) fun x a=>h x (by simp[a])
  simp only[wI,z7];omega
theorem O3{l:List qd}{c x:zG}(b:c.kind≠5)(a:x∈c.args):(yZ l x).parts<(yZ l c).parts/\(yZ l x).levels<=(yZ l c).levels:=by rw[iL l c,zc b,kb,XY];have d:=YE (wo (f:=yZ l) a);have e:=Xc (wo (f:=yZ l) a);omega
inductive YX (B:Nat):zG->Prop
 |mk {k:Int} {a:List UInt8} {o:Int} {v:List zZ} {p n:List UInt8} {l:List zG}:1+a.length+JI v+p.length+n.length<=B->(∀x∈l,YX B x)->YX B (.mk k a o v p n l)
theorem Hu{B:Nat}:∀{l:List zG},(∀x∈l,x.cb<=B*x.parts)->ay l<=B*wI l
 |[],_=>by simp[ay]
 |x::l,h=>by
  have b:=h x (by simp);have c:=Hu (l:=l) fun y a=>h y (by simp[a])
  simp only[ay,wI,Nat.mul_add];omega
theorem YX.cb{B:Nat}{c:zG}(h:YX B c):c.cb<=B*c.parts:=by
 induction h with
 |mk b _ a=>have d:=Hu a;rw[xG,kb,Nat.mul_add];simp only[zG.attr,zG.qZ,zG.pat,zG.name,zG.args];omega
theorem nC{B:Nat}(c:zG):c.cb<=B->YX B c:=by
 induction c using zG.ind with
 |h k a o v p n l d=>intro h;rw[xG]at h;simp only[zG.attr,zG.qZ,zG.pat,zG.name,zG.args]at h;exact .mk (by omega) fun x b=>d x b (by have:=kg b;omega)
theorem CY:∀a:List za,JI (a.map ki)=Qh a
 |[]=>rfl
 |k::a=>by have:=CY a;simp only[wg,JI,this,Qh,zhr];rw[xD];simp[ki,zZ.s,zZ.items,zZ.fields,JI,dI,Qh]
theorem CZ{B:Nat}(a:List za)(h:Qh a+4<=B):YX B (vm a):=by
 refine .mk ?_ fun x b=>by cases b
 rw[CY];simp[V9];omega
theorem Xd{B:Nat}(k:Int)(l:List zG)(a:1<=B)(h:∀x∈l,YX B x):YX B (.mk k [] 0 [] [] [] l):=.mk (by simpa[JI]using a) h
theorem LD{B:Nat}{s:qd}{c:zG}(hs:s.cb+4<=B)(h:YX B c):YX B (jA s c):=by
 have e:s.cb=1+s.name.length+Qh s.ins+Qh s.outs+s.cond.cb:=rfl;have b:YX B (Hs s c):=by
  unfold Hs;split
  ·refine Xd _ _ (by omega) fun x a=>?_
   rcases zv.1 a with rfl|a
   ·exact CZ _ (by omega)
   ·rw[qB.1 a];exact h
  ·exact h
 unfold jA;split
 ·refine Xd _ _ (by omega) fun x a=>?_
  rcases zv.1 a with rfl|a
  ·exact Xd _ _ (by omega) fun y d=>by rw[qB.1 d];exact CZ _ (by omega)
  ·rw[qB.1 a];exact b
 ·exact b
theorem C2{B:Nat}{f:za->zG}(a:∀n,YX B (f n)){c:zG}(h:YX B c):YX B (c.Qe f):=by
 induction h with
 |mk b _ d=>
  rw[KO];split
  ·exact a _
  ·exact .mk b fun x e=>by obtain⟨y,g,rfl⟩:=qp.1 e;exact d y g
theorem C3{B:Nat}{l:List qd}(b:Qb l+4<=B):∀(n i:Nat),YX B (Y4 l n i)
 | 0,_=>Xd _ _ (by omega) fun x a=>by cases a
 |n+1,i=>by
  unfold Y4;split
  ·rename_i s hs;have c:=xI (zz hs);have d:s.cb=1+s.name.length+Qh s.ins+Qh s.outs+s.cond.cb:=rfl;exact LD (by omega) (C2 (fun e=>C3 b n _) (nC _ (by omega)))
  ·exact Xd _ _ (by omega) fun x a=>by cases a
theorem TJ(l:List qd)(c:zG):(yZ l c).cb<=(Qb l+c.cb+4)*(yZ l c).parts:=
 (C2 (fun _=>C3 (by omega) 101 _) (nC c (by omega))).cb
def ah(c:zG):Bool:=Yg (c.rp 1)
mutual
def zG.xU(sg:za->zG×Bool):zG->zG×Bool
 | .mk k a o v p n l=>if k=5 then((sg n).1,(sg n).2&&!ah (sg n).1)else match WG sg l with
  |some l'=>(.mk k a o v p n l',!ah (.mk k a o v p n l'))
  |none=>(.mk k a o v p n l,false)
def WG(sg:za->zG×Bool):List zG->Option (List zG)
 |[]=>some []
 |c::l=>if(c.xU sg).2=true then(match WG sg l with
  |some l'=>some ((c.xU sg).1::l')
  |none=>none)else none
end
theorem uB(sg:za->zG×Bool)(c:zG):c.xU sg=if c.kind=5 then((sg c.name).1,(sg c.name).2&&!ah (sg c.name).1)else match WG sg c.args with
  |some l'=>(.mk c.kind c.attr c.op c.qZ c.pat c.name l',!ah (.mk c.kind c.attr c.op c.qZ c.pat c.name l'))
  |none=>(c,false):=by
 cases c with
 |mk k a o v p n l=>rw[zG.xU];rfl
noncomputable def vW (l:List qd):Nat->Nat->zG×Bool
 | 0,_=>(.mk 0 [] 0 [] [] [] [],false)
 |n+1,i=>match l[i]? with
  |some s=>(jA s (s.cond.xU fun m=>vW l n (wS l m)).1,(s.cond.xU fun m=>vW l n (wS l m)).2)
  |none=>(.mk 0 [] 0 [] [] [] [],false)
def bN(q:zG×Bool)(e:zG):Prop:=(q.2=true->q.1=e)/\(q.2=false->(200<e.parts\/20<e.levels))
theorem uC(c:zG):ah c=true↔200<c.parts\/20<c.levels:=by unfold ah;rw[ss];simp;omega
theorem TK(c:zG):ah c=false↔¬(200<c.parts\/20<c.levels):=by rw[<-uC];simp
theorem fV{sg:za->zG×Bool}{f:za->zG}:∀{l:List zG},(∀x∈l,bN (x.xU sg) (x.Qe f))->(∀l',WG sg l=some l'->l'=l.map (zG.Qe f))/\(WG sg l=none->∃x∈l,200<(x.Qe f).parts\/20<(x.Qe f).levels)
 |[],_=>⟨fun l' h=>by simp[WG]at h;simp[h],fun h=>by simp[WG]at h⟩
 |x::l,h=>by
  obtain⟨d,g⟩:=h x (by simp);obtain⟨i,j⟩:=fV (l:=l) fun y a=>h y (by simp[a])
  rw[WG];split
  ·rename_i b;rw[d b];cases c:WG sg l with
   |some k=>exact⟨fun l' e=>by simp only[zN]at e;rw[<-e,i k c];rfl,fun e=>(nomatch e)⟩
   |none=>obtain⟨y,a,m⟩:=j c;exact⟨fun l' e=>(nomatch e),fun _=>⟨y,by simp[a],m⟩⟩
  ·rename_i b;exact⟨fun l' e=>(nomatch e),fun _=>⟨x,by simp,g (by simpa using b)⟩⟩
theorem nD{sg:za->zG×Bool}{f:za->zG}(c:zG):(∀n∈c.names,bN (sg n) (f n))->bN (c.xU sg) (c.Qe f):=by
 induction c using zG.ind with
 |h k a o v p n l q=>
  intro h;rw[yU]at h;rw[zG.xU,KO];by_cases b:k=5
  ·rw[zf b,zf b];obtain⟨g,i⟩:=h n (by simp[zG.kind,zG.name,b]);refine⟨fun e=>?_,fun e=>?_⟩
   ·simp only[zC]at e;exact g e.1
   ·simp only[Bool.and_eq_false_iff,Bool.not_eq_false']at e;rcases e with e|e
    ·exact i e
    ·cases hs:(sg n).2
     ·exact i hs
     ·rw[<-g hs];exact(uC _).1 e
  ·rw[zc b,zc b];obtain⟨r,s⟩:=fV (sg:=sg) (f:=f) (l:=l) fun x d=>q x d fun m t=>h m (zF.2 (.inr (jQ.2 ⟨x,d,t⟩)))
   cases j:WG sg l with
   |some l'=>rw[r l' j];exact⟨fun _=>rfl,fun e=>by simp only[Bool.not_eq_false']at e;exact(uC _).1 e⟩
   |none=>refine⟨fun e=>by simp at e,fun _=>?_⟩;obtain⟨x,d,u⟩:=s j;rw[kb,XY];have w:=YE (wo (f:=zG.Qe f) d);have y:=Xc (wo (f:=zG.Qe f) d);omega
theorem fW{l:List qd}(h:Qa l):∀(n i:Nat),Co l i<n->i<l.length->bN (vW l n i) (Y4 l n i)
 | 0,i,c,_=>by omega
 |n+1,i,c,hi=>by
  have hs:l[i]?=some l[i]:=zj hi;have d:vW l (n+1) i=(jA l[i] (l[i].cond.xU fun m=>vW l n (wS l m)).1,(l[i].cond.xU fun m=>vW l n (wS l m)).2):=by
   conv=>lhs;unfold vW
   rw[hs]
  have f:Y4 l (n+1) i=jA l[i] (l[i].cond.Qe fun m=>Y4 l n (wS l m)):=by
   conv=>lhs;unfold Y4
   rw[hs]
  rw[d,f];have b:bN (l[i].cond.xU fun m=>vW l n (wS l m)) (l[i].cond.Qe fun m=>Y4 l n (wS l m)):=nD _ fun m a=>by
   have g:wS l m∈wb l i:=by unfold wb;rw[hs];exact wo a
   have j:=Jz h i _ g;exact fW h n _ (by omega) (ZU (h.known l[i] (zk hi) m a))
  have a:=bM l[i] (l[i].cond.Qe fun m=>Y4 l n (wS l m));exact⟨fun e=>zu (jA l[i]) (b.1 e),fun e=>by have:=b.2 e;omega⟩
noncomputable def Hv (l:List qd) (n:Nat) (c:zG):zG×Bool:=c.xU fun m=>vW l n (wS l m)
theorem C4{l:List qd}(h:Qa l)(c:zG)(a:∀n∈c.names,yx l n=true):bN (Hv l 101 c) (yZ l c):=
 nD c fun m b=>fW h 101 _ (by have:=KL h (wS l m);omega) (ZU (a m b))
structure XC (v:zG) (o3 o4:O) (Y:Hp) (Z:Nat):Prop where
 b0:Y 0=some ⟨26,7,false,[[int v.kind,str v.attr,int v.op,o3,str v.pat,str v.name,o4]]⟩
 b1:Y 1=some ⟨26,7,false,[[int 0,.v (.string ⟨#[]⟩),int 0,.nil,.v (.string ⟨#[]⟩),.v (.string ⟨#[]⟩),.nil]]⟩
 s3:qU Y Z 52 5 o3 (v.qZ.map zZ.V)
 s4:qU Y Z 26 7 o4 (v.args.map zG.V)
 d3:∀id m,id<2->o3≠.own id 0 m
 d4:∀id m,id<2->o4≠.own id 0 m
 d:∀id m m',o3=.own id 0 m->o4≠.own id 0 m'
 iS:2<=Z
theorem XC.more{v:zG}{a c:O}{Y:Hp}{Z:Nat}(h:XC v a c Y Z)(b:Option kn):XC v a c (qt Y Z b) (Z+1):=by have:=h.iS;exact⟨by rw[zm _ _ _ _ (by omega)];exact h.b0,by rw[zm _ _ _ _ (by omega)];exact h.b1,h.s3.more b,h.s4.more b,h.d3,h.d4,h.d,by omega⟩
noncomputable abbrev Cxcc (n:Nat):Ctx:=ZO prog [(12,zi false [] (FC (fun v=>.agg v.V) n)),(30,zi false [] (FV (fun v=>.agg v.V) zx)),(28,yh [] (kf 52 5)),(29,yh [] (kf 26 7))] 1 [1,7,10] [28,29]
abbrev qxcc:List Nat:=[12,30]
theorem TL(n:Nat):QU (Cxcc n) (fun g=>qxcc.contains g) 12 f12:=qE func12
theorem C5(n:Nat)(v:zG)(h:v.cb<=zx/\v.cb<=n+1)(N Q:O)(J:Xz 5 (v.qZ.map zZ.V) N)(K:Xz 7 (v.args.map zG.V) Q) :
  ∃r0,zt (Cxcc n) f12 [.agg [int v.kind,str v.attr,int v.op,N,str v.pat,str v.name,Q]]=some r0/\qg r0 (.agg v.V):=by
 have hvb:=xG v;have hl1:=yE v.qZ;have hl2:=ju v.args;obtain⟨ha,hb⟩:=h;have G:=fun Y Z=>QV (e:=52) J (by simp;omega) Y Z
 have H:=fun Y Z=>QV (e:=26) K (by simp;omega) Y Z
 unfold zx at ha;refine wW rfl ?_;simp[J.cell,K.cell];rw[jb (Z7 (id:=0) (i:=0) (j:=0) (by simp) (by simp) (by simp;rfl) rfl (XT (by simp;rfl) (XT (by simp;rfl) (x4 _))))];obtain⟨g,f3,l,S⟩:∃o f m,kC 52 5 (v.qZ.map zZ.V) N 2=(o,f,m):=⟨_,_,_,rfl⟩;have U8:2<=l:=by have:=cH 52 5 (v.qZ.map zZ.V) N 2;rw[S]at this;exact this
 obtain⟨q,f4,n4,T⟩:∃o f m,kC 26 7 (v.args.map zG.V) Q l=(o,f,m):=⟨_,_,_,rfl⟩;have hn4:l<=n4:=by have:=cH 26 7 (v.args.map zG.V) Q l;rw[T]at this;exact this
 have q3:g=.nil\/g=.own 2 0 (v.qZ.map zZ.V).length:=by have:=XO 52 5 (v.qZ.map zZ.V) N 2;rw[S]at this;exact this
 have q4:q=.nil\/q=.own l 0 (v.args.map zG.V).length:=by have:=XO 26 7 (v.args.map zG.V) Q l;rw[T]at this;exact this
 have L:∀Y id,id<2->f3 Y id=Y id:=fun Y id hid=>by have:=Wq (e:=52) (s:=5) (es:=v.qZ.map zZ.V) (y:=N) (Z:=2) Y hid;rw[S]at this;exact this
 have E:∀Y id,id<l->f4 Y id=Y id:=fun Y id hid=>by have:=Wq (e:=26) (s:=7) (es:=v.args.map zG.V) (y:=Q) (Z:=l) Y hid;rw[T]at this;exact this
 have r:∀Y,qU (f3 Y) l 52 5 g (v.qZ.map zZ.V)/\∀m,g≠.own 0 0 m/\g≠.own 1 0 m:=fun Y=>by have:=YB (e:=52) J Y 2;rw[S]at this;exact⟨this,fun m=>by rcases q3 with rfl|rfl<;>simp⟩
 have w:∀Y,qU (f4 Y) n4 26 7 q (v.args.map zG.V)/\∀m id,id<l->q≠.own id 0 m:=fun Y=>by have:=YB (e:=26) K Y l;rw[T]at this;exact⟨this,fun m id hid=>by rcases q4 with rfl|rfl<;>simp<;>omega⟩
 have W:=fun Y=>L Y 0 (by omega)
 have X:=fun Y=>E Y 0 (by omega)
 have c3:g.wH=true:=by rcases q3 with rfl|rfl<;>rfl
 have c4:q.wH=true:=by rcases q4 with rfl|rfl<;>rfl
 have hcs3:g.cells=[g]:=by rcases q3 with rfl|rfl<;>rfl
 have hcs4:q.cells=[q]:=by rcases q4 with rfl|rfl<;>rfl
 have MB:Yt prog 23 g=some (int v.qZ.length):=by have:=(r fun _=>none).1.len (P:=prog) IA;simpa using this
 have h31:=fun Y=>L Y 1 (by omega)
 have h41:=fun Y=>E Y 1 (by omega)
 have z:∀id m,g=.own id 0 m->id<l:=fun id m hid=>by
  rcases(r fun _=>none).1 with⟨h,_⟩|⟨id',B,F,_⟩
  ·rw[h]at hid;cases hid
  ·rw[F]at hid;injection hid with hid _ _;omega
 have a:∀C:Hp,C 1=some ⟨26,7,false,[[int 0,.v (.string ⟨#[]⟩),int 0,.nil,.v (.string ⟨#[]⟩),.v (.string ⟨#[]⟩),.nil]]⟩->XC v g q (qt (f4 (f3 C)) 0 (some ⟨26,7,false,[[int v.kind,str v.attr,int v.op,g,str v.pat,str v.name,q]]⟩)) n4:=by
  intro C B;refine⟨by simp,by rw[zm _ _ _ _ (by omega),h41,h31,B],?_,?_,fun id m hid R=>?_,fun id m hid=>(w C).2 m id (by omega),fun id m m' R=>(w C).2 m' id (z id m R),by omega⟩
  ·refine(r C).1.same hn4 fun id m hid=>?_
   have M:¬id=0:=by rintro rfl;exact((r C).2 m).1 hid
   rw[zm _ _ _ _ M,E _ _ (z id m hid)]
  ·refine(w (f3 C)).1.same (ze _) fun id m hid=>?_
   have M:¬id=0:=by rintro rfl;exact(w C).2 m 0 (by omega) hid
   rw[zm _ _ _ _ M]
  ·have:=(r C).2 m
   match id,hid with
   | 0,_=>exact this.1 R
   | 1,_=>exact this.2 R
 simp[G,S,W,H,T,X,hcs3,hcs4,c3,c4,MB];refine zT (fun k U Y Z=>U 1=.ref 0 0 0/\U 2=.ref 1 0 0/\U 16=g/\U 17=int v.qZ.length/\U 18=int k/\XC v g q Y Z) v.qZ.length
  ⟨by simp,by simp,by simp,by simp,by simp,by simpa using a _ (by simp)⟩ ?_
 clear a z h31 h41 G H r w L E W X MB;rintro k U Y Z hk ⟨B,F,c,t,u,a⟩;by_cases b:k<v.qZ.length
 ·have hm:=js (zk b);have hw:=qH k;have p:=fun Y Z=>Yc (fun v=>.agg v.V) zx v.qZ[k] Y Z ⟨by unfold zx;omega,by unfold zx;omega⟩
  obtain⟨id,i1,I,i3⟩:=a.s3.at_ (by simp;omega);have n0:¬id=0:=by rintro rfl;exact a.d3 0 _ (by omega) I
  have n1:¬id=1:=by rintro rfl;exact a.d3 1 _ (by omega) I
  have n2:¬id=Z:=by omega
  have l:¬0=Z:=by have:=a.iS;omega
  have A:(v.qZ.map zZ.V).set k v.qZ[k].V=v.qZ.map zZ.V:=by
   apply QF;intro j;rw[dD];split
   ·rename_i e;subst e;simp[b]
   ·rfl
  have hf:∀Y,qa Y (.agg v.qZ[k].V)=some (.agg v.qZ[k].V,Y):=fun Y=>ZR Y _
  have D:=a.b0;rw[I]at c D;simp[B,F,c,t,u,b,i3,hw,n0,n2,l,D,p,A];refine⟨b,by rw[I];simp,?_⟩;have h5:=a.more (some ⟨52,5,false,[v.qZ[k].V]⟩);rw[c8 _ id _ (by rw[zm _ _ _ _ n2];exact i3)];exact h5
 ·obtain rfl:k=v.qZ.length:=by omega
  have D:=a.b0;have MC:Yt prog 24 q=some (int v.args.length):=by have:=a.s4.len (P:=prog) el24;simpa using this
  simp[B,F,c,t,u,D,MC];refine zT (fun k U Y Z=>U 1=.ref 0 0 0/\U 2=.ref 1 0 0/\U 31=q/\U 32=int v.args.length/\U 33=int k/\XC v g q Y Z) v.args.length
   ⟨by simp[B],by simp[F],by simp,by simp,by simp,by simpa using a⟩ ?_
  clear B F c t u a D MC b hk U Y Z;rintro k U Y Z hk ⟨B,F,c,t,u,a⟩;by_cases b:k<v.args.length
  ·have hm:=kg (zk b);have hw:=qH k;have p:=fun Y Z=>Wa (fun v=>.agg v.V) n v.args[k] Y Z ⟨by unfold zx;omega,by omega⟩
   obtain⟨id,i1,I,i3⟩:=a.s4.at_ (by simp;omega);have n0:¬id=0:=by rintro rfl;exact a.d4 0 _ (by omega) I
   have n2:¬id=Z:=by omega
   have l:¬0=Z:=by have:=a.iS;omega
   have A:(v.args.map zG.V).set k v.args[k].V=v.args.map zG.V:=by
    apply QF;intro j;rw[dD];split
    ·rename_i e;subst e;simp[b]
    ·rfl
   have hf:∀Y,qa Y (.agg v.args[k].V)=some (.agg v.args[k].V,Y):=fun Y=>x0 Y _
   have D:=a.b0;rw[I]at c D;simp[B,F,c,t,u,b,i3,hw,n0,n2,l,D,p,A];refine⟨b,by rw[I];simp,?_⟩;have h5:=a.more (some ⟨26,7,false,[v.args[k].V]⟩);rw[c8 _ id _ (by rw[zm _ _ _ _ n2];exact i3)];exact h5
  ·obtain rfl:k=v.args.length:=by omega
   have D:=a.b0;have b1:=a.b1;simp[B,F,c,t,u,D,b1,f12,c3,c4];have s3:=a.s3.same (Y':=qt Y 1 (some ⟨26,7,false,[[int v.kind,str v.attr,int v.op,g,str v.pat,str v.name,q]]⟩)) (ze Z) fun id m hid=>zm _ _ _ _ (by rintro rfl;exact a.d3 1 m (by omega) hid)
   obtain⟨z3,hpA,g1,g2,g3⟩:=s3.gone;have s4:=a.s4.same (Y':=hpA) (ze Z) fun id m hid=>by rw[g3 id (fun m' R=>a.d id m' m R hid),zm _ _ _ _ (by rintro rfl;exact a.d4 1 m (by omega) hid)]
   obtain⟨z4,hpB,k1,k2,_⟩:=s4.gone;refine⟨.agg [int v.kind,str v.attr,int v.op,z3,str v.pat,str v.name,z4],?_,?_⟩
   ·simp only[AM.freeze,qa,qY];have f1:∀(Y:Hp) (x:Value),wu Y (.v x)=some (.v x,Y):=fun _ _=>rfl
    simp only[f1,g1,k1];rfl
   ·rw[zI];exact qP.agg (.cons (.refl _) (.cons (.refl _) (.cons (.refl _) (.cons (.YV g2) (.cons (.refl _) (.cons (.refl _) (.cons (.YV k2) .nil)))))))
theorem C6(args:zb)(r:Option kn)(h:kf 26 7 args=some r):args.length<=f29.ntmps/\∃x Y Z,je C0 f29 args (fun _=>none) 0=some (x,Y,Z)/\WK r x Y Z:=by
 unfold kf at h;split at h
 ·injection h with h;subst h;exact⟨by simp[f29],qz rfl (by simp[xV,ZL,f29,WK])⟩
 ·injection h with h;subst h;exact⟨by simp[f29],qz rfl (by simp[xV,ZL,f29,WK,zp,yI,AM.view,maxLen,zy,zo])⟩
 ·rename_i es;split at h
  ·rename_i d;obtain⟨rfl,a,b⟩:=d;injection h with h;subst h
   cases es with
   |nil=>exact absurd rfl a
   |cons c es=>
    unfold zx at b;simp at b;have e:es.length+1<=maxLen:=by unfold maxLen;omega
    have f:(es.length+1)*112<=140737488355328:=by omega
    refine⟨by simp[f29],qz rfl ?_⟩;simp[xV,ZL,f29,WK,zp,yI,AM.view,zy,zo,e,f]
  ·cases h
 ·cases h
theorem uD:zg prog 29 (yh [] (kf 26 7)):=
 xa (fn:=f29) (code:=_) jY ⟨func29,by kernel_rfl,rfl,by kernel_rfl⟩ [] _ C6
theorem uE:∀n,zg prog 12 (zi false [] (FC (fun v=>.agg v.V) n)):=by
 intro n
 induction n with
 |zero=>exact iD ⟨_,func12,by kernel_rfl,by kernel_rfl⟩
 |succ n k=>
  have l:AM.Good (Cxcc n) (fun g=>qxcc.contains g):=JO mixed ⟨k,fun _=>zr _ _,Cg zx,fun _=>zr _ _,Ky,by simp,uD,by simp,trivial⟩ ⟨by simp,by simp,fun _=>Ks _ _,fun _=>Ks _ _,trivial⟩;exact xl (fn:=f12) l (TL n) false [] _ fun args r h w S vs m=>by
   obtain⟨v,rfl,o,rfl⟩:=YD h;obtain⟨u,p,q⟩:=ZI m;subst p;obtain⟨c,d,e⟩:=Z3 q (j:=3) (s:=5) (es:=v.qZ.map zZ.V) (by simp);obtain⟨f,i,a⟩:=Z3 e (j:=6) (s:=7) (es:=v.args.map zG.V) (by rw[yn (by omega)];simp);have b:(v.V.set 3 c).set 6 f=[int v.kind,str v.attr,int v.op,c,str v.pat,str v.name,f]:=by rw[zI];rfl
   rw[b]at a;obtain⟨t,x,y⟩:=C5 n v o c f d i;exact⟨_,t,.cons a .nil,zE (ze 1) (by decide),x,y⟩
end Go.Q
namespace Go.AM
theorem qg.rows{s:Nat}{xs ys:List zb}(m:xs.length=ys.length)(h:∀(i:Nat) (c d:zb),xs[i]?=some c->ys[i]?=some d->qP c d):qg (.sl s xs) (.sl s ys):=by
 intro w S u g;have get:∀{i:Nat} {d:zb},ys[i]?=some d->∃c,xs[i]?=some c/\qP c d:=fun{i d} hd=>by
  have hi:i<xs.length:=by have:=(zd.1 hd).1;omega
  exact⟨xs[i],zj hi,h i _ d (zj hi) hd⟩
 generalize k:O.sl s xs=x at g;cases g with
 |sl us n l o p q r=>
  rename_i es A cap z;injection k with t v
  subst t;subst v;rw[m]at l⊢;refine .sl us n l o (fun d hd=>?_) (fun i j d y hd f=>?_) (fun i j d y hd f=>?_)
  ·obtain⟨i,hi⟩:=Kd hd;obtain⟨c,e,a⟩:=get hi;rw[<-a.length];exact p c (zz e)
  ·obtain⟨c,e,a⟩:=get hd;have b:j<c.length:=by rw[a.length];exact(zd.1 f).1
   exact q i j c c[j] e (zj b)
  ·obtain⟨c,e,a⟩:=get hd;have b:j<c.length:=by rw[a.length];exact(zd.1 f).1
   exact a.get (zj b) f _ _ _ (r i j c c[j] e (zj b))
 |_=>cases k
theorem qg.zfL{s:Nat}{a e:zb}(h:qP a e):qg (.sl s [a]) (.sl s [e]):=.rows rfl fun i c d b hd=>by
 match i,b,hd with
 | 0,b,hd=>simp at b hd;subst b;subst hd;exact h
 |i+1,b,hd=>simp at b
theorem qg.zfM{s:Nat}{a b f g:zb}(h:qP a f)(j:qP b g):qg (.sl s [a,b]) (.sl s [f,g]):=.rows rfl fun i c d e hd=>by
 match i,e,hd with
 | 0,e,hd=>simp at e hd;subst e;subst hd;exact h
 | 1,e,hd=>simp at e hd;subst e;subst hd;exact j
 |i+2,e,hd=>simp at e
theorem qP.refl:∀l:zb,qP l l
 |[]=>.nil
 |x::l=>.cons (.refl x) (qP.refl l)
theorem qg.oH(s:Nat):qg .nil (.sl s []):=.YV (.inl ⟨rfl,rfl⟩)
end Go.AM
namespace Go.Q
def J6(s:za):zb:=[int 3,int 0,str s,.nil,.nil]
theorem fX(b:List za):qg (.sl 5 (b.map J6)) (.sl 5 ((b.map ki).map zZ.V)):=by
 refine .rows (by simp) fun i c d a hd=>?_
 rw[qf]at a;rw[UO,qf]at hd;cases f:b[i]? with
 |none=>rw[f]at a;cases a
 |some s=>
  rw[f]at a hd;simp only[zA,zN]at a hd;subst a;subst hd;have e:(ki s).V=[int 3,int 0,str s,.sl 5 [],.sl 6 []]:=by rw[vJ];rfl
  show qP (J6 s) (ki s).V;rw[e];exact .cons (.refl _) (.cons (.refl _) (.cons (.refl _) (.cons (.oH _) (.cons (.oH _) .nil))))
theorem fY{a:List za}{z:O}(b:qg z (.sl 5 ((a.map ki).map zZ.V))):qg (.agg [int 4,str V9,int 2,z,.v (.string ⟨#[]⟩),.v (.string ⟨#[]⟩),.nil]) (.agg (vm a).V):=by rw[zI];exact qP.agg (.cons (.refl _) (.cons (.refl _) (.cons (.refl _) (.cons b (.cons (.refl _) (.cons (.refl _) (.cons (.oH _) .nil)))))))
noncomputable def FKt:zb->Option O:=qu (α:=List za) (fun l=>[.sl 1 (zH l)]) (fun l=>l.length<=zx) fun l=>.agg (vm l).V
theorem uF(a:List za)(h:a.length<=zx):∃q,zt C0 f57 [.sl 1 (zH a)]=some q/\qg q (.agg (vm a).V):=by
 unfold zx at h;refine wW rfl ?_;simp[zS,qn];refine zT (fun k U Y Z=>U 2=.ref 0 0 0/\U 3=.ref 1 0 0/\U 7=.sl 1 (zH a)/\U 8=int a.length/\U 9=int k/\2<=Z/\Y 0=some ⟨26,7,false,[[int 0,.v (.string ⟨#[]⟩),int 0,.nil,.v (.string ⟨#[]⟩),.v (.string ⟨#[]⟩),.nil]]⟩/\∃o,Y 1=some ⟨26,7,false,[[int 4,str V9,int 2,o,.v (.string ⟨#[]⟩),.v (.string ⟨#[]⟩),.nil]]⟩/\qU Y Z 52 5 o ((a.take k).map J6)/\∀m,o≠.own 0 0 m/\o≠.own 1 0 m) a.length
  ⟨by simp,by simp,by simp,by simp,by simp,by simp,by simp,.nil,by simp[V9],.inl ⟨rfl,by simp⟩,by simp⟩ ?_
 rintro k U Y Z T ⟨r,z,A,B,C,E,g,o,i,b,j⟩;by_cases d:k<a.length
 ·have F:=qH k;obtain⟨s,hs⟩:=jj (a[k]);have D:(a.take (k+1)).map J6=(a.take k).map J6++[J6 s]:=by rw[ql d,hs];simp
  obtain⟨xs,e⟩:=jj ((a.take k).map J6);have G:xs.length<=268435456:=by rw[<-e];simp;omega
  rw[e]at b D;have f:=qU.yS (P:=prog) (t:=23) (c:=J6 s) b IA SF by52 SG rfl (by omega) (by unfold maxLen;omega) (by omega);have l:=yi b (qt Y Z (some ⟨52,5,true,[J6 s]⟩)) 1 (fun m=>(j m).2);have n:=yi b (qt Y Z (some ⟨52,5,true,[J6 s]⟩)) 0 (fun m=>(j m).1);rw[zm _ _ _ _ (by omega),i]at l;rw[zm _ _ _ _ (by omega),g]at n;have n1:¬1=Z+1:=by omega
  have H:¬1=Z:=by omega
  have I:¬0=Z+1:=by omega
  simp only[J6]at f l n;have J:¬Z=0:=by omega
  have K:¬0=Z:=by omega
  simp[r,z,A,B,C,d,hs,F,g,i,zS,qn,f,n,l,n1,H,I,J,K,zp,zy,zo];refine⟨by omega,?_⟩;rw[<-List.map_take,D];exact qU.after.same (ze _) fun id m hid=>zm _ _ _ _ (by injection hid with hid _ _;omega)
 ·obtain rfl:k=a.length:=by omega
  rw[wJ]at b;have p:o.wH=true:=by rcases b with⟨rfl,_⟩|⟨_,_,rfl,_⟩<;>rfl
  simp[r,z,A,B,C,g,i,p,f57];have hs:=b.same (Y':=qt Y 0 (some ⟨26,7,false,[[int 4,str V9,int 2,o,.v (.string ⟨#[]⟩),.v (.string ⟨#[]⟩),.nil]]⟩)) (ze Z) fun id m hid=>zm _ _ _ _ (by rintro rfl;exact(j m).1 hid)
  obtain⟨y,L,M,N,_⟩:=hs.gone;refine⟨.agg [int 4,str V9,int 2,y,.v (.string ⟨#[]⟩),.v (.string ⟨#[]⟩),.nil],?_,fY fun w S u Q=>fX a w S u (qg.YV N w S u Q)⟩;simp only[AM.freeze,qa,qY];have R:∀(Y:Hp) (x:Value),wu Y (.v x)=some (.v x,Y):=fun _ _=>rfl
  simp only[R,M];rfl
theorem dk(c:List za)(Y:Hp)(Z:Nat)(h:c.length<=zx):zi false [] FKt [.sl 1 (zH c)] Y Z=some (.agg (vm c).V,Y,Z):=
 Js c _ _ (by simp) (fun a b e=>by
  simp only[zl,zM]at e;injection e with _ e
  exact jI e) h (.inr rfl)
theorem pt:zg prog 57 (zi false [] FKt):=
 xl (fn:=f57) (qx (q:=[]) mixed trivial:AM.Good C0 _) (qE func57) false [] _ fun args r h w S vs a=>by obtain⟨b,rfl,c,rfl⟩:=zK h;obtain⟨d,e,f⟩:=uF b c;exact⟨_,d,a,by simp[f57],e,f⟩
noncomputable def FMn:zb->Option O:=qu (α:=qd×zG) (fun a=>[.agg a.1.V,.agg a.2.V]) (fun a=>a.1.cb<=zx) fun a=>.agg (jA a.1 a.2).V
theorem O4(s:qd)(c:zG)(Y:Hp)(Z:Nat)(h:s.cb<=zx):zi false [] FMn [.agg s.V,.agg c.V] Y Z=some (.agg (jA s c).V,Y,Z):=
 Js (s,c) _ _ (by simp[wE,zI]) (fun a b e=>by obtain⟨d,f⟩:=a;obtain⟨g,i⟩:=b;simp only[zl,zM,O.agg.injEq]at e;rw[KK e.1,ka e.2]) h (.inr (by simp[wE,zI,O.noOwn]))
theorem fZ{k:Int}{l:List zG}{a:List zb}(b:qg (.sl 7 a) (.sl 7 (l.map zG.V))):qP [int k,.v (.string ⟨#[]⟩),int 0,.nil,.v (.string ⟨#[]⟩),.v (.string ⟨#[]⟩),.sl 7 a] (zG.mk k [] 0 [] [] [] l).V:=by rw[zI];exact .cons (.refl _) (.cons (.refl _) (.cons (.refl _) (.cons (.oH _) (.cons (.refl _) (.cons (.refl _) (.cons b .nil))))))
theorem Hw{k:Int}{x:zG}{a:zb}(h:qP a x.V):qP [int k,.v (.string ⟨#[]⟩),int 0,.nil,.v (.string ⟨#[]⟩),.v (.string ⟨#[]⟩),.sl 7 [a]] (zG.mk k [] 0 [] [] [] [x]).V:=fZ (.zfL h)
theorem ga{k:Int}{x y:zG}{a b:zb}(h:qP a x.V)(c:qP b y.V):qP [int k,.v (.string ⟨#[]⟩),int 0,.nil,.v (.string ⟨#[]⟩),.v (.string ⟨#[]⟩),.sl 7 [a,b]] (zG.mk k [] 0 [] [] [] [x,y]).V:=fZ (.zfM h c)
noncomputable abbrev Cmn:Ctx:=ZO prog [(57,zi false [] FKt)] 4 [3] []
theorem uG(s:qd)(c:zG)(h:s.cb<=zx):∃g,zt Cmn f25 [.agg s.V,.agg c.V]=some g/\qg g (.agg (jA s c).V):=by
 have k:s.cb=1+s.name.length+Qh s.ins+Qh s.outs+s.cond.cb:=rfl;have l:=Qy s.ins;have m:=Qy s.outs;have e:=fun Y Z=>dk s.ins Y Z (by omega)
 have a:=fun Y Z=>dk s.outs Y Z (by omega)
 refine wW rfl ?_;unfold jA Hs;have f:qP [int c.kind,str c.attr,int c.op,.sl 5 (c.qZ.map zZ.V),str c.pat,str c.name,.sl 7 (c.args.map zG.V)] c.V:=by rw[<-zI];exact .refl _
 by_cases b:0<s.ins.length<;>by_cases d:0<s.outs.length
 ·rw[zf d,zf b];simp[wE,zI c,b,d,e,a,zS,qn,zp,zy,zo];rw[jb (Z7 (id:=1) (i:=0) (j:=0) (by simp) (by simp) (by simp;rfl) rfl (x4 _))];simp[a,zS,qn,zp,zy,zo,f25];exact⟨.agg _,by simp,qP.agg (ga (Hw (.refl _)) (ga (.refl _) f))⟩
 ·rw[zc d,zf b];simp[wE,zI c,b,d,e,a,zS,qn,zp,zy,zo,f25];exact⟨.agg _,by simp,qP.agg (ga (.refl _) f)⟩
 ·rw[zf d,zc b];simp[wE,zI c,b,d,e,a,zS,qn,zp,zy,zo];rw[jb (Z7 (id:=1) (i:=0) (j:=0) (by simp) (by simp) (by simp;rfl) rfl (x4 _))];simp[a,zS,qn,zp,zy,zo,f25];exact⟨.agg _,by simp,qP.agg (ga (Hw (.refl _)) f)⟩
 ·rw[zc d,zc b];simp[wE,zI c,b,d,f25];exact⟨.agg _,by simp,.refl _⟩
theorem pw:zg prog 25 (zi false [] FMn):=
 xl (fn:=f25) (C:=Cmn) (JO (q:=[57]) mixed ⟨pt,fun _=>zr _ _,trivial⟩ (by simp[bh])) (qE func25) false [] _ fun args r h w S vs a=>by obtain⟨⟨s,c⟩,rfl,b,rfl⟩:=zK h;obtain⟨d,e,f⟩:=uG s c b;exact⟨_,d,a,by simp[f25],e,f⟩
abbrev yG:zb:=[int 0,.v (.string ⟨#[]⟩),int 0,.nil,.v (.string ⟨#[]⟩),.v (.string ⟨#[]⟩),.nil]
theorem kJ:qg (.agg yG) (.agg (zG.mk 0 [] 0 [] [] [] []).V):=by rw[zI];exact qP.agg (.cons (.refl _) (.cons (.refl _) (.cons (.refl _) (.cons (.oH _) (.cons (.refl _) (.cons (.refl _) (.cons (.oH _) .nil)))))))
end Go.Q
namespace Go.AM
variable{dr:Prop}
section
variable{C:Ctx}{pf:FuncId->Bool}{N:Nat}
def Wp(dr:Prop)(C:Ctx)(N:Nat)(c:Code)(st:St)(K:Exit->St->Prop):Prop:=
 ∀(d:World) (g L:Nat->Prop) (Z0:Nat) (h:Nat->GI) (f:Nat) (a:Act) (w:World) (Q:Exit->Act->World->Prop),f<=d.heap.size->iu dr C.P d g L N Z0 h f st a w ->
  (∀e b i w',K e b->iu dr C.P d g L N Z0 h f b i w'->Q e i w')->c.wpIn Fence.wide 0 C.P Q a w
theorem Wp.of(b:vR dr C pf){c:Code}{st:St}{K:Exit->St->Prop}(f:vF pf C.dyn C.ML C.bk N c=true)(h:Zw C c st K):Wp dr C N c st K:=by obtain⟨e,d,i,j⟩:=h;intro k l L Z0 m n a w Q o hs p;exact lG b.spec b.quiet b.box b.iter b.mixed c f Fence.wide 0 (.inl rfl) (.inl rfl) k l L Z0 m n st d e a w Q o i hs fun q w' g=>p e d q w' j g
theorem Wp.mono{c:Code}{st:St}{K f:Exit->St->Prop}(h:Wp dr C N c st K)(g:∀e b,K e b->f e b):Wp dr C N c st f:=
 fun i j L Z0 k l a w Q m hs n=>h i j L Z0 k l a w Q m hs fun e b o w' d=>n e b o w' (g e b d)
def Hy(dr:Prop)(C:Ctx)(N:Nat)(y:Code)(K:Exit->St->Prop)(e:Exit)(st:St):Prop:=match e with
 | .normal=>Wp dr C N y st K
 |e=>K e st
theorem Wp.seq{x y:Code}{st:St}{K:Exit->St->Prop}(h:Wp dr C N x st (Hy dr C N y K)):Wp dr C N (.seq x y) st K:=by
 intro c d L Z0 f g a w Q i hs j;refine wpIn_seq (h c d L Z0 f g a w _ i hs fun e l m w' k b=>?_);cases e<;>first
  |exact k c d L Z0 f g m w' Q i b j
  |exact j _ _ _ _ k b
theorem Wp.block{id:Nat}{b:Code}{st:St}{K:Exit->St->Prop}(h:Wp dr C N b st (WJ id K)):Wp dr C N (.block id b) st K:=by
 intro j k L Z0 l m a w Q n hs f;refine wpIn_block (h j k L Z0 l m a w _ n hs fun e o p w' d c=>?_);cases e with
 |exit i=>
  unfold WJ at d;unfold Exit.inBlock;simp only at d⊢;split at d
  ·rename_i g;rw[zf g];exact f _ _ _ _ d c
  ·rename_i g;rw[zc g];exact f _ _ _ _ d c
 |_=>exact f _ _ _ _ d c
theorem Wp.cond{c:Operand}{x y:Code}{st:St}{K:Exit->St->Prop}{b:Bool}(e:get st.U c=some (.v (.bool b)))(h:Wp dr C N (if b=true then x else y) st K):Wp dr C N (.cond c x y) st K:=by intro f g L Z0 i j a w Q k hs l;obtain⟨S,G,d⟩:=hs;obtain⟨m,_⟩:=(vv d.jx e).wY;exact wpIn_cond m (h f g L Z0 i j a w Q k ⟨S,G,d⟩ l)
def uH(I:Nat->St->Prop)(n:Nat)(K:Exit->St->Prop)(e:Exit)(st:St):Prop:=match e with
 | .normal=>∃m,m<n/\I m st
 |e=>K e st
theorem Wp.loop{b:Code}{st:St}{K:Exit->St->Prop}(I:Nat->St->Prop)(n:Nat)(p:I n st)(h:∀n st,I n st->Wp dr C N b st (uH I n K)):Wp dr C N (.loop b) st K:=by
 intro i j L Z0 l o a w Q q hs r;refine wpIn_loop_rounds (n+1) ?_;have f:∀(k n:Nat) (st:St) (a:Act) (w:World),n<k->I n st->iu dr C.P i j L N Z0 l o st a w->Code.roundsIn Fence.wide 0 C.P b Q k a w:=by
  intro k
  induction k with
  |zero=>intro n st a w s;omega
  |succ k t=>
   intro n st a w s hi hs;rw[roundsIn_succ];refine h n st hi i j L Z0 l o a w _ q hs fun e g u w' c d=>?_
   cases e with
   |normal=>obtain⟨m,x,v⟩:=c;exact t m g u w' (by omega) v d
   |_=>exact r _ _ _ _ c d
 exact f _ n st a w (by omega) p hs
def vp(dr:Prop)(C:Ctx)(N:Nat)(c:Array Oper)(l:List Nat)(st:St)(K:St->Prop):Prop:=
 ∀(d:World) (e L:Nat->Prop) (Z0:Nat) (f:Nat->GI) (g:Nat) (a:Act) (w:World) (Q:Exit->Act->World->Prop),iu dr C.P d e L N Z0 f g st a w ->
  (∀b h w',K b->iu dr C.P d e L N Z0 f g b h w'->Q .normal h w')->wpOpsIn Fence.wide 0 C.P c Q l a w
theorem Wp.region{id:Nat}{b:Array Oper}{st:St}{K:Exit->St->Prop}(h:vp dr C N b (List.range b.size) st (Z1 K)):Wp dr C N (.region id b false) st K:=
 fun e f L Z0 g i a w Q _ hs j=>wpIn_region (h e f L Z0 g i a w Q hs fun c k w' l d=>j .normal c k w' l d)
theorem vp.nil{b:Array Oper}{st:St}{K:St->Prop}(h:K st):vp dr C N b [] st K:=fun d e L Z0 f g a w Q hs c=>c st a w h hs
theorem vp.cons(J:vR dr C pf){k:Array Oper}{i:Nat}{o:Oper}{l:List Nat}{st st1:St}{K:St->Prop}(M:k[i]?=some o)(hd:∀d,o.dst=some d->d<N)(j:yJ C k o st=some st1)(h:vp dr C N k l st1 K):vp dr C N k (i::l) st K:=by
 intro q r L Z0 s t a w Q hs u;simp only[wpOpsIn,M];obtain⟨S,G,m⟩:=hs;unfold yJ at j;rw[Qn m.jx];split at j
 ·rename_i z;rw[zf z];split at j
  ·rename_i x Y Z n;injection j with j
   subst j;have A:∀c,o.op≠.defer c:=by intro c B;rw[B]at n;simp[zX]at n
   refine⟨fun f _=>trivial,?_⟩;rw[Kg _ _ _ A];have D:=cn J.spec m.inv (a:=a.eval) (fun y T P=>vv m.jx P) (o:=o) n;rcases D with⟨v,w',E,F,p,H,I⟩|⟨g,vs,p,B⟩
   ·have b:=h q r L Z0 s t _ w' Q ⟨E,F,m.step H I hd⟩ u;rcases p with p|⟨p,rfl⟩
    ·rw[p];exact b
    ·rw[p];exact b
   ·rw[p];refine⟨fun h=>by simp[Fence.wide]at h,aw.2 (B.mono fun e w' R=>?_)⟩;obtain⟨v,E,F,rfl,H,I⟩:=R;exact h q r L Z0 s t _ w' Q ⟨E,F,m.step H I hd⟩ u
  ·cases j
 ·rename_i z;rw[zc z];injection j with j
  subst j;exact⟨fun f _=>trivial,h q r L Z0 s t _ w Q ⟨S,G,m.step (.refl m.inv) jM hd⟩ u⟩
end
section
variable{P:Program}{w:World}{S:Nat->Prop}{G:Nat->GI}{Y:Hp}{Z:Nat}
theorem C7(hi:Inv P w S G Y Z){t ty e:TypeId}{n by_ id off k:Nat}{b:kn}{ys:List zb}{z:zb}{u v:Value}
  (ht:ym P t=some e) (h1:qC P e=some n) (h2:jB P e=some by_) (h3:yT P e=some z) (hn:0<n) (hzl:z.length=n) (hb:Y id=some b) (hba:b.arr=true) (hbe:b.e=e) (hk:off+k=b.es.length)
  (hl1:k+ys.length<=maxLen) (hl2:(k+ys.length)*by_<=140737488355328) (hs:qb w S G Z (.own id off k) u) {x:O} (hv:AM.view Y n x=some ys) (hx:qb w S G Z x v) :
  ∃r w' es' L G',(Builtin.append_ #[t,t] ty #[u,v]).run P w=.ok r w'/\(es'=b.es++ys/\L=off\/es'=b.es.drop off++ys/\L=0) /\
   kd dr P Y Z S G w (qt (qt Y id none) Z (some ⟨e,n,true,es'⟩)) (Z+1) S G' w'/\qb w' S G' (Z+1) (.own Z L (k+ys.length)) r:=by
 obtain⟨i,vz,i1,i2,i3⟩:=Qk h3;have X:i.size=n:=by simpa[qC,i1]using h1
 have hby:i.bytes=by_:=by simpa[jB,i1]using h2
 have hzl':=(jf (w:=w) (S:=S) i3).1;have hzc:vz.cells.size=n:=by rw[<-hzl,hzl'];simp
 have hu:=kH ht;have Eh:=hs.xg;obtain⟨cap,g1,g2,g3,g4,rfl⟩:=hs.vE;have hbr:=hi.live id b hb;obtain⟨o,q1,q2,q3⟩:=hbr.row Eh;have hsb:(G id).s=n:=by
  have h5:=hbr.size Eh;rw[hbe]at h5;have h6:(P.info? e).map (·.size)=some n:=by simpa[qC]using h1
  rw[h6]at h5;injection h5 with h5
  exact h5.symm
 rw[hsb]at g4 q3⊢;rw[hbe]at q1;obtain⟨A,c,f,rfl,f1,f2⟩:=Kl hi hv hx;have hff:=XG hn f1 f2;have hl:((List.range (ys.length*n)).map f).length=ys.length*n:=by simp
 obtain⟨a,q⟩:=jj ((List.range (ys.length*n)).map f);have hone:∀u∈a,u.oneCell'=true:=fun u hu=>by rw[<-q]at hu;obtain⟨k,hk,rfl⟩:=qp.1 hu;exact(hff k (yg.1 hk)).choose_spec.2.2
 have M:∀j u,a[j]?=some u->∃ad,A=some ad/\w.cell? (ad.add j)=some u:=fun j u p=>by
  have hjl:j<ys.length*n:=by rw[<-hl,q];exact(zd.1 p).1
  obtain⟨ad',e1,e2,_⟩:=hff j hjl;rw[<-q,qf,jX hjl]at p;simp at p;exact⟨ad',e1,by rw[e2,p]⟩
 have My:∀(i' j:Nat) (m:zb) (K:O),ys[i']?=some m->m[j]?=some K->∃W,a[i'*n+j]?=some W/\ji w S G Z true K W:=fun i' j m K d p=>by
  obtain⟨ad',a1,a2,a3⟩:=f2 i' j m K d p;have F:j<n:=by rw[<-f1 m (zz d)];exact(zd.1 p).1
  have J:=kL (n:=ys.length) (zd.1 d).1 F;exact⟨f (i'*n+j),by rw[<-q,qf,jX J];rfl,a3⟩
 rw[q]at hl;have N:Src P i.size t (.slice A ys.length c) ys.length a w:=by
  cases A with
  |some ad=>exact Src.ofSlice w hu ad _ c a (by rw[X];exact hl) (fun j u p=>by obtain⟨ad',e1,e2⟩:=M j u p;injection e1 with e1;subst e1;exact e2) hone
  |none=>
   have hnil:a=[]:=by
    cases a with
    |nil=>rfl
    |cons u r=>obtain⟨_,e1,_⟩:=M 0 u rfl;cases e1
   have hm0:ys.length=0:=by
    rw[hnil]at hl;rcases Nat.eq_zero_or_pos ys.length with h|h
    ·exact h
    ·have:=Nat.mul_pos h hn;simp at hl;omega
   rw[hnil,hm0];exact Src.ofNil w hu c
 have hoz:o.size=off*n+cap*n:=by rw[q2,<-g4,qK]
 have hkz:k*n<=cap*n:=zP _ g2;have RH:b.es.length*n=off*n+k*n:=by rw[<-hk,qK]
 have hsub:∀id' C,qt Y id none id'=some C->Y id'=some C:=fun id' C h=>xk h
 have US:∀id' C,qt Y id none id'=some C->(G id').g≠(G id).g:=fun id' C h he=>by
  have hne:id'≠id:=by rintro rfl;simp at h
  exact hne (hi.inj id' id C b (xk h) hb he)
 have B:∀m∈b.es,m.length=n:=fun m Q=>by rw[<-hsb];exact hbr.len Eh m Q
 by_cases H:k+ys.length<=cap
 ·have hmz:k*n+ys.length*n<=cap*n:=by rw[<-qK];exact zP _ H
  obtain⟨y,I⟩:=jj ((o.toList.take (off*n+k*n)++a++o.toList.drop (off*n+k*n+a.length)).toArray);have sS:=run_storeCells_at P (G id).g (off*n+k*n) e a 0 o w q1 (by rw[hl];omega) hone;simp only[QE]at sS;rw[I]at sS;have hcl:y.size=o.size:=by rw[<-I];simp[hl];omega
  have D:(Builtin.append_ #[t,t] ty #[.slice (some ⟨(G id).g,off*n,none⟩) k cap,.slice A ys.length c]).run P w=.ok (.slice (some ⟨(G id).g,off*n,none⟩) (k+ys.length) cap) (w.setRow (G id).g y):=by have B:=N.len;have l:=N.cells;rw[X]at l;simp[Builtin.append_,zD hu,sizeOf,typeInfo,i1,B,H,X,l,j8,sS]
  have zfN:(b.es++ys).length*n<=(G id).z:=by rw[qD,qK,RH,<-q2,hoz];omega
  have k2:=kd.sT (dr:=dr) (w':=w.setRow (G id).g y) (Y1:=qt Y id none) hi hsub ⟨(G id).g,(G id).z,n⟩ e true (b.es++ys) y rfl rfl rfl (by simp[World.setRow]) (ze _)
   (fun C=>C=(G id).g) (fun C R=>by subst R;exact⟨⟨id,b,hb,rfl⟩,hi.apart id b hb,US⟩)
   (fun C _ hne _=>setRow_other w _ _ _ hne) US (hi.apart id b hb) (.inl ⟨id,b,hb,rfl⟩) hn (by simpa[qC]using h1)
   (fun m Q=>by
    rcases zF.1 Q with h|h
    ·exact B m h
    ·exact f1 m h)
   zfN (setRow_heap w _ o _ _ _ q1) (hcl.trans q2) (fun i' j m K d p=>by
    show∃u,y[i'*n+j]?=some u/\ji w S G Z true K u;have T:m.length=n:=by
     rcases zF.1 (zz d)with h|h
     ·exact B m h
     ·exact f1 m h
    have F:j<n:=by rw[<-T];exact(zd.1 p).1
    have ht0:(o.toList.take (off*n+k*n)).length=off*n+k*n:=by simp;omega
    have hto:∀x:Nat,y[x]?=(o.toList.take (off*n+k*n)++(a++o.toList.drop (off*n+k*n+a.length)))[x]?:=fun x=>by rw[<-I,qT];simp
    by_cases hik:i'<b.es.length
    ·have J:=kL (n:=b.es.length) hik F;rw[zY hik]at d;obtain⟨W,u1,u2⟩:=q3 i' j m K d p;rw[hba]at u2;exact⟨W,by rw[hto,zY (by omega),qy,zf (by omega)];simpa using u1,u2⟩
    ·rw[zQ (by omega)]at d;have hge:b.es.length*n<=i'*n:=zP _ (by omega);have R3:=(zd.1 d).1;have J:=kL (n:=ys.length) R3 F;obtain⟨W,u1,u2⟩:=My _ j m K d p;refine⟨W,?_,u2⟩;have hkk:i'*n+j-(off*n+k*n)=(i'-b.es.length)*n+j:=by rw[Nat.sub_mul];omega
     rw[hto,zQ (by omega),ht0,hkk,zY (by omega)];exact u1)
  refine⟨_,_,b.es++ys,off,_,D,.inl ⟨rfl,rfl⟩,k2,?_⟩;have:=qb.own (w:=w.setRow (G id).g y) (S:=S) (G:=qt G Z ⟨(G id).g,(G id).z,n⟩) (Z:=Z+1) (id:=Z) (off:=off) (n:=k+ys.length) (cap:=cap) (by omega) H g3 (by simpa using g4) (by simpa using hn);simpa using this
 ·obtain⟨olds,hol⟩:=jj ((o.toList.drop (off*n)).take (k*n));have E:olds.length=k*n:=by rw[<-hol];simp;omega
  have hget:∀j,j<k*n->olds[j]?=o[off*n+j]?:=fun j p=>by rw[<-hol,qy,zf p,qM];simp
  have D:=run_append_grow_src (P:=P) w t t ty e i vz hu i1 i2 (some ⟨(G id).g,off*n,none⟩) k cap olds
   (by
    rw[X];refine run_firstCells_some w.drew n k ⟨(G id).g,off*n,none⟩ k cap olds E fun j u p=>?_
    have hjl:j<k*n:=by rw[<-E];exact(zd.1 p).1
    rw[hget j hjl]at p;rw[j8];exact(za2 w _ _ o _ _ q1).trans p)
   (.slice A ys.length c) ys.length a N (by omega) (by unfold maxLen at hl1;omega) (growslice_fits (by omega) (by rw[hby];exact hl2))
  obtain⟨gc,hgc⟩:=jj (grownCap w (k+ys.length) cap e);rw[hgc]at D;have hge:k+ys.length<=gc:=by rw[<-hgc];exact grownCap_ge w _ _ e
  have R6:gc<=maxLen:=by rw[<-hgc];exact grownCap_le_maxLen w _ _ e hl1
  obtain⟨cells,l⟩:=jj ((olds++a).toArray++Builtin.zeroCells vz.cells (gc-(k+ys.length)));rw[l]at D;have hcs:cells.size=gc*n:=by rw[<-l,QG,Rm,hzc];simp only[jv,qD,E,hl];rw[<-qK,<-qK];congr 1;omega
  have hcg:∀j,j<(k+ys.length)*n->cells[j]?=(olds++a)[j]?:=fun j p=>by rw[<-l,kV (by simp[E,hl];rw[<-qK];exact p)];simp
  have k2:=kd.sT (dr:=dr) (w':=w.drew.alloc (.cells cells e)) (Y1:=qt Y id none) hi hsub ⟨w.heap.size,cells.size,n⟩ e true (b.es.drop off++ys) cells rfl rfl rfl (by simp) (Zr _)
   (fun C=>C=(G id).g) (fun C R=>by subst R;exact⟨⟨id,b,hb,rfl⟩,hi.apart id b hb,US⟩)
   (fun C R hne _=>Below.heap_alloc w.drew _ C R) (fun id' C h=>Nat.ne_of_lt (hi.live id' C (xk h)).lt) (fun hS=>by have:=hi.st _ hS;simp at this) (.inr (ze _)) hn (by simpa[qC]using h1)
   (fun m Q=>by
    rcases zF.1 Q with h|h
    ·exact B m (WB _ _ h)
    ·exact f1 m h)
   (by rw[qD,iq,hcs];exact zP _ (by omega)) (Rk w.drew _) rfl (fun i' j m K d p=>by
    show∃u,cells[i'*n+j]?=some u/\ji w S G Z true K u;have T:m.length=n:=by
     rcases zF.1 (zz d)with h|h
     ·exact B m (WB _ _ h)
     ·exact f1 m h
    have F:j<n:=by rw[<-T];exact(zd.1 p).1
    have R3:=(zd.1 d).1;rw[qD,iq]at R3;have J:i'*n+j<(k+ys.length)*n:=kL (by omega) F;by_cases hik:i'<k
    ·have UT:=kL (n:=k) hik F;rw[zY (by rw[iq];omega),qM]at d;obtain⟨W,u1,u2⟩:=q3 (off+i') j m K d p;rw[hba]at u2;refine⟨W,?_,u2⟩;rw[hcg _ J,zY (by omega),hget _ UT,<-u1,qK,iR]
    ·rw[zQ (by rw[iq];omega),iq]at d;have hge':k*n<=i'*n:=zP _ (by omega);obtain⟨W,u1,u2⟩:=My _ j m K d p;refine⟨W,?_,u2⟩;have hkk:i'*n+j-k*n=(i'-(b.es.length-off))*n+j:=by rw[show b.es.length-off=k from by omega,Nat.sub_mul];omega
     rw[hcg _ J,zQ (by omega),E,hkk];exact u1)
  refine⟨_,_,b.es.drop off++ys,0,_,D,.inr ⟨rfl,rfl⟩,k2,?_⟩;have:=qb.own (w:=w.drew.alloc (.cells cells e)) (S:=S) (G:=qt G Z ⟨w.heap.size,cells.size,n⟩) (Z:=Z+1) (id:=Z) (off:=0) (n:=k+ys.length) (cap:=gc) (by omega) hge R6 (by simp[hcs]) (by simpa using hn);simpa using this
end
section
variable{C:Ctx}{pf:Nat->Bool}{f:FuncId}{fn:Func}{code:Code}
theorem C8{st:St}{a:Act}{w:World}{S:Nat->Prop}{G:Nat->GI}(hi:Inv C.P w S G st.Y st.Z)(f:∀t,qb w S G st.Z (st.U t) (a.tmps.getD t undef)){r:O}(h:xX C.P fn st=some r):∃v,(results fn a.tmps).run C.P w=.ok v w/\qb w S G st.Z r v:=by
 unfold xX at h;have k:∀xs,wU (fn.results.toList.map (W7 C.P st))=some xs->r=(match xs with|[x]=>x|xs=>.wq xs)->∃v,(results fn a.tmps).run C.P w=.ok v w/\qb w S G st.Z r v:=by
  intro xs g b;obtain⟨us,m,c⟩:=Jr hi f g;have e:(results fn a.tmps).run C.P w=.ok (if h:us.toArray.size=1 then us.toArray[0]else .tuple us.toArray) w:=by unfold results;rw[Array.mapM_eq_mapM_toList];simp only[vM,Sem.run_map];erw [m];rfl
  refine⟨_,e,?_⟩
  match xs,c,b with
  |[],c,b=>rw[c.WE];subst b;exact .wq rfl (by simp)
  |[y],c,b=>obtain⟨u,rfl,i⟩:=ZI c;subst b;simpa using i
  |y::z::ys,c,b=>have l:=c.1;subst b;rw[dif_neg (by simp at l⊢;omega)];exact .wq (by simpa using l) (fun j n u o i=>c.2 j n u o (by simpa using i))
 split at h
 ·rename_i y p;injection h with h
  exact k [y] p h.symm
 ·rename_i xs d g;injection h with h
  refine k xs g ?_;rw[<-h]
  match xs,d with
  |[],_=>rfl
  |[y],d=>exact(d y rfl).elim
  |y::z::ys,_=>rfl
 ·cases h
theorem Xe(u:Xy C pf f fn code){args:zb}{Y:Hp}{Z:Nat}{R:O->Hp->Nat->Prop}(X:Wp dr C fn.ntmps code ⟨jL args,Y,Z⟩ (Yx C.P fn R))
  {w:World} {S:Nat->Prop} {G:Nat->GI} {vs:List Value} (hi:Inv C.P w S G Y Z) (y:Zip (qb w S G Z) args vs) (hn:args.length<=fn.ntmps) :
  Calls C.P f vs.toArray w fun e w'=>∃x Y' l v d g,R x Y' l/\e=.returned v/\kd dr C.P Y Z S G w Y' l d g w'/\qb w' d g l x v:=by
 refine aw.1 (callsIn_of_wp_marks (n:=0) u.func u.body trivial ?_);have p:iu dr C.P w S (jD Y G) fn.ntmps Z G w.heap.size ⟨jL args,Y,Z⟩ {tmps:=vs.toArray++Array.replicate (fn.ntmps-vs.toArray.size) undef,defers:=[]} w:=by
  refine⟨S,G,hi,fun t=>?_,?_,.nil (ze _),fun _ h=>h,fun _ h=>.inl h,fun id b i=>.inl ⟨id,b,i,rfl⟩,Fr.refl _ _,ze _,fun _ _=>rfl⟩
  ·have z:vs.length=args.length:=y.1.symm;unfold jL;by_cases ht:t<args.length
   ·have o:args[t]?=some args[t]:=zj ht;have Q:vs[t]?=some (vs[t]'(by omega)):=zj (by omega);have h3:=y.2 t _ _ o Q;have A:(vs.toArray++Array.replicate (fn.ntmps-vs.toArray.size) undef)[t]?=vs[t]?:=by rw[kV (by simpa using(by omega:t<vs.length))];simp
    simp only[o,il];rw[wV,A,Q];exact h3
   ·have o:args[t]?=none:=yO (by omega);have A:(vs.toArray++Array.replicate (fn.ntmps-vs.toArray.size) undef).getD t undef=undef:=by rw[wV,Array.getElem?_append_right (by simpa using(by omega:vs.length<=t)),QK];split<;>rfl
    simp only[o,Option.getD_none];rw[A];exact jM
  ·have z:vs.length=args.length:=y.1.symm;simp;omega
 refine X w S (jD Y G) Z G w.heap.size _ w _ (ze _) p fun e st B T c E=>?_
 obtain⟨d,g,a⟩:=E;obtain⟨hd0,W,F,H,j⟩:=a.defers;have I:(e=.normal\/e=.ret)/\∃r,xX C.P fn st=some r/\R r st.Y st.Z:=by
  cases e<;>first
   |exact⟨.inl rfl,c⟩
   |exact⟨.inr rfl,c⟩
   |exact c.elim
 obtain⟨I,r,J,hR⟩:=I;have q:LeavesInM Fence.wide 0 C.P fn B.tmps (fun e w'=>∃x Y' l v d g,R x Y' l/\e=.returned v/\kd dr C.P Y Z S G w Y' l d g w'/\qb w' d g l x v) B.defers .returning T:=by
  rw[F];refine Ko (dr:=dr) W T H (fun D hD=>(j D hD).2.1) fun w' m=>?_
  have s:∀b,b∈W->Vv d g st.Y b:=fun b i=>⟨(j b i).2.2.1,(j b i).2.2.2⟩
  have k:=a.inv.frame m s;have K:∀t,qb w' d g st.Z (st.U t) (B.tmps.getD t undef):=fun t=>(a.jx t).mono (fun b i=>⟨i,m.block b (a.inv.st b i) fun L=>(s b L).1 i⟩) (ze _) (fun _ _=>rfl)
  have u:kd dr C.P Y Z S G w st.Y st.Z d g w':=⟨k,a.up,a.loc,a.s0,a.s1,a.own,a.fr.trans m fun b i o=>by have:=(j b o).1;omega⟩;obtain⟨v,M,N⟩:=C8 k K J;exact⟨v,M,r,_,_,v,d,g,hR,rfl,u,N⟩
 rcases I with rfl|rfl
 ·exact q
 ·exact q
theorem KQ(p:Xy C pf f fn code)(i:Bool)(ns:List Nat)(F:zb->Option O)(hF:∀args r,F args=some r->args.length<=fn.ntmps/\Wp dr C fn.ntmps code ⟨jL args,fun _=>none,0⟩ (Yx C.P fn (Ja r))):jr dr C.P f (zi i ns F):=by
 refine⟨⟨fn,p.func,p.name,by rw[p.body];rfl⟩,?_⟩;intro args Y Z r Y' Z' h w S G vs hi Q;unfold zi at h;split at h
 ·rename_i R Y1 s;split at h
  ·rename_i T t;obtain⟨W,X⟩:=hF _ T t;obtain⟨S1,q,u,y⟩:=yP (dr:=dr) hi s Q;refine(Xe p X (XK (fun _=>⟨0,0,0⟩) q.inv.st q.inv.gD) (Qo u).closed W).mono fun e w' hh=>?_
   obtain⟨x,hpe,nxe,v,S',G',⟨r1,j,z⟩,L,k,hx⟩:=hh;have M:Fr dr w (fun _=>False) w':=⟨k.fr.os,k.fr.tape,k.fr.output,k.fr.size,k.fr.drawn,fun b d _=>k.fr.block b d vZ⟩;obtain⟨⟨r2,hpf⟩,A,l⟩:=zV j;simp only at l;subst l;obtain⟨S2,N,B⟩:=Zi (dr:=dr) k.inv A hx;have D:=tm B z;have m:∀b,S2 b->S1 b\/(w.heap.size<=b/\b<w'.heap.size):=by
    intro b d;have n:=N.inv.st b d;rcases N.from_ b d with h1|⟨id,blk,h1,rfl⟩|h1
    ·rcases k.from_ b h1 with a|a|a
     ·exact .inl a
     ·exact(vZ a).elim
     ·exact .inr ⟨a,n⟩
    ·rcases k.own id blk h1 with a|a
     ·exact(vZ a).elim
     ·exact .inr ⟨a,n⟩
    ·exact absurd h1 (by omega)
   split at h
   ·rename_i g;injection h with h
    injection h with E h;injection h with H I;subst E;subst H;subst I;refine⟨v,_,G,L,kd.outer hi M,.c ?_⟩;rcases g with J|K
    ·exact cu D J
    ·have o:=y K;exact D.mono fun b d=>⟨by rw[<-o];exact m b d,rfl⟩
   ·split at h
    ·injection h with h;injection h with E h;injection h with H I;subst E;subst H;subst I;exact⟨v,_,G,L,q.trans (kd.outer q.inv M),.c (D.mono fun b d=>⟨m b d,rfl⟩)⟩
    ·cases h
  ·cases h
 ·cases h
end
variable{dr:Prop}
section
variable{C:Ctx}{pf:FuncId->Bool}{N:Nat}
@[simp]theorem Ji(y:Code)(K:Exit->St->Prop)(st:St):Hy dr C N y K .normal st=Wp dr C N y st K:=rfl
@[simp]theorem zgx(y:Code)(K:Exit->St->Prop)(st:St):Hy dr C N y K .ret st=K .ret st:=rfl
@[simp]theorem zgy(y:Code)(K:Exit->St->Prop)(i:Nat)(st:St):Hy dr C N y K (.exit i) st=K (.exit i) st:=rfl
@[simp]theorem zfd(I:Nat->St->Prop)(n:Nat)(K:Exit->St->Prop)(st:St):uH I n K .normal st=∃m,m<n/\I m st:=rfl
@[simp]theorem zfe(I:Nat->St->Prop)(n:Nat)(K:Exit->St->Prop)(st:St):uH I n K .ret st=K .ret st:=rfl
@[simp]theorem zff(I:Nat->St->Prop)(n i:Nat)(K:Exit->St->Prop)(st:St):uH I n K (.exit i) st=K (.exit i) st:=rfl
theorem Wp.cut(f:vR dr C pf){a b:Code}{st:St}{K:Exit->St->Prop}(Q:(Nat->O)->Hp->Nat->Prop)(c:vF pf C.dyn C.ML C.bk N a=true)(g:Zw C a st (La (fun st=>Q st.U st.Y st.Z) K))(h:∀U Y Z,Q U Y Z->Wp dr C N b ⟨U,Y,Z⟩ K):Wp dr C N (.seq a b) st K:=
 Wp.seq ((Wp.of f c g).mono fun e i d=>by
  cases e<;>first
   |exact h _ _ _ d
   |exact d)
theorem Wp.any{c:Code}{st:St}{K:Exit->St->Prop}(Q:(Nat->O)->Hp->Nat->Prop)(a:Q st.U st.Y st.Z)(h:∀U Y Z,Q U Y Z->Wp dr C N c ⟨U,Y,Z⟩ K):Wp dr C N c st K:=h _ _ _ a
theorem eV{a:Array Oper}{K:St->Prop}(f:vR dr C pf):∀{l:List Nat} {b:List Oper} {l2:List Nat} {st st1:St},l.map (fun i=>a[i]?)=b.map some->(∀o∈b,∀d,o.dst=some d->d<N)->xj C a b st=some st1->vp dr C N a l2 st1 K->vp dr C N a (l++l2) st K
 |[],[],l2,st,st1,_,_,h,c=>by simp only[xj]at h;injection h with h;subst h;exact c
 |[],_::_,_,_,_,h,_,_,_=>by simp at h
 |_::_,[],_,_,_,h,_,_,_=>by simp at h
 |i::l,o::b,l2,st,st1,e,hd,h,c=>by
  simp only[wg,zl]at e;simp only[xj]at h;split at h
  ·rename_i s hs;exact vp.cons f e.1 (hd o (by simp)) hs (eV f e.2 (fun o g=>hd o (by simp[g])) h c)
  ·cases h
theorem vp.pre(e:vR dr C pf){a:Array Oper}{l l2:List Nat}{b:List Oper}{st:St}{K:St->Prop}(f:l.map (fun i=>a[i]?)=b.map some)(hd:b.all (fun o=>match o.dst with|some d=>decide (d<N)|none=>true)=true)(h:iy C a b st fun st1=>vp dr C N a l2 st1 K):vp dr C N a (l++l2) st K:=by
 obtain⟨st1,g,j⟩:=h;exact eV e f (fun o k d c=>by have:=zL.1 hd o k;rw[c]at this;simpa using this) g j
theorem vp.Wj(f:vR dr C pf){c:Array Oper}{l2:List Nat}{st:St}{K:St->Prop}(a b:Nat)(j:a+b<=c.size)(hd:c.toList.all (fun o=>match o.dst with|some d=>decide (d<N)|none=>true)=true)(h:iy C c ((c.toList.drop a).take b) st fun st1=>vp dr C N c l2 st1 K):vp dr C N c (List.range' a b++l2) st K:=by
 refine vp.pre f ?_ ?_ h
 ·apply QF;intro i;rw[qf,qf,qy];by_cases hi:i<b
  ·have e:(List.range' a b)[i]?=some (a+i):=by rw[List.getElem?_range' hi];simp
   rw[e,zf hi,qM];have:a+i<c.size:=by omega
   simp[this]
  ·rw[zc hi,yO (by simp;omega)];rfl
 ·exact zL.2 fun o g=>zL.1 hd o (WB _ _ (K0 _ _ g))
theorem vp.append{m:Array Oper}{i:Nat}{d:Tmp}{x y:Operand}{t ty:TypeId}{p:String}{J:Array Edge}{l:List Nat}{st:St}{K:St->Prop}{e:TypeId}{n by_ id off k:Nat}{b:kn}{v:O}{ys:List zb}{z:zb}
  (M:m[i]?=some ⟨some d,.call ⟨.builtin .append,#[x,y],#[t,t]⟩,ty,p,J,none⟩) (hd:d<N) (R:get st.U x=some (.own id off k)) (T:get st.U y=some v) (W:AM.view st.Y n v=some ys)
  (X:ym C.P t=some e) (h1:qC C.P e=some n) (h2:jB C.P e=some by_) (h3:yT C.P e=some z) (hn:0<n) (u:z.length=n) (hb:st.Y id=some b) (A:b.arr=true) (B:b.e=e) (hk:off+k=b.es.length)
  (D:k+ys.length<=maxLen) (E:(k+ys.length)*by_<=140737488355328)
  (h:∀j g,(j=b.es++ys/\g=off\/j=b.es.drop off++ys/\g=0)->vp dr C N m l ⟨qt st.U d (.own st.Z g (k+ys.length)),qt (qt st.Y id none) st.Z (some ⟨e,n,true,j⟩),st.Z+1⟩ K):vp dr C N m (i::l) st K:=by
 intro w0 S0 L Z0 G0 n0 a w Q hs hQ;simp only[wpOpsIn,M];obtain⟨S,G,o⟩:=hs;rw[Qn o.jx,zf (vT _ _ _ _ _ _)];have F:∀c,(Op.call ⟨.builtin .append,#[x,y],#[t,t]⟩:Op)≠.defer c:=fun c hc=>by cases hc
 refine⟨fun f _=>trivial,?_⟩;rw[Kg _ _ _ F];obtain⟨r,w',j,g,G',hr,he,H,I⟩:=C7 (dr:=dr) (ty:=ty) o.inv X h1 h2 h3 hn u hb A B hk D E (vv o.jx R) W (vv o.jx T);have q:=h j g he w0 S0 L Z0 G0 n0 (a.put (some d) r) w' Q ⟨S,G',o.step (dst:=some d) H I (fun _ e=>by cases e;exact hd)⟩ hQ;have s:(execOp a.eval ⟨some d,.call ⟨.builtin .append,#[x,y],#[t,t]⟩,ty,p,J,none⟩).run C.P w=.ok (.value r) w':=by simp[execOp,resolve,invoke,builtin,hr,-bind_pure_comp]
 rw[s];exact q
@[simp]theorem zg5(P:Program)(t:TypeId)(ad:Addr):Yt P t (.v (.slice (some ad) 0 0))=(ym P t).map fun _=>.v (.int .i64 0):=rfl
theorem F0{P:Program}{w:World}{S:Nat->Prop}{G:Nat->GI}{Y:Hp}{Z:Nat}(hi:Inv P w S G Y Z){t e:TypeId}{n id off k:Nat}{b:kn}{u:Value}(m:P.underlying t=some (.slice e))(hs:qC P e=some n)(x:Y id=some b)(d:b.s=n)(B:0<k)(o:qb w S G Z (.own id off k) u) :
  ∃r v,(Instr.sliceAt t u (some (.int .i64 1)) none none).run P w=.ok v w/\qb w S G Z r v/\(r=.own id (off+1) (k-1)\/k=1/\∃ad,r=.v (.slice (some ad) 0 0)):=by
 have f:=o.xg;obtain⟨cap,y,z,C,A,rfl⟩:=o.vE;have a:=Yu (P:=P) (w:=w) (S:=S) (G:=G) (Z:=Z) (isS:=true) (len:=k) (cap:=cap) (l:=1) (h:=k) (lo:=some (some (.v (.int .i64 1)))) (hi:=none) (vl:=some (.int .i64 1)) (vh:=none) rfl rfl (by omega) z (by simp) (fun p Y=>⟨_,rfl,by simp only[zN]at Y;subst Y;exact .c (.v rfl)⟩) (by simp) (fun _=>rfl) (by simp) (by simp);have i:(G id).s=n:=by rw[<-(hi.live id b x).bs,d]
 by_cases q:cap=1
 ·subst q;have j:k=1:=by omega
  subst j;exact⟨_,_,by simp[Instr.sliceAt,zD m,Instr.slice,a,yd hs];rfl,.c (.v rfl),.inr ⟨rfl,_,rfl⟩⟩
 ·refine⟨.own id (off+1) (k-1),.slice (some ⟨(G id).g,(off+1)*(G id).s,none⟩) (k-1) (cap-1),?_,.own y (by omega) (by omega) ?_ f,.inl rfl⟩
  ·simp[Instr.sliceAt,zD m,Instr.slice,a,yd hs,q,j8,i,qK]
  ·rw[show off+1+(cap-1)=off+cap from by omega];exact A
theorem vp.slice{g:Array Oper}{i:Nat}{d:Tmp}{x:Operand}{t ty:TypeId}{p:String}{A:Array Edge}{l:List Nat}{st:St}{K:St->Prop}{e:TypeId}{n id off k:Nat}{b:kn}
  (D:g[i]?=some ⟨some d,.slice t x (some (.const (.int .i64 1))) none none,ty,p,A,none⟩) (hd:d<N) (E:get st.U x=some (.own id off k)) (F:C.P.underlying t=some (.slice e)) (hs:qC C.P e=some n) (H:st.Y id=some b) (q:b.s=n) (I:0<k)
  (h:∀r,(r=.own id (off+1) (k-1)\/k=1/\∃ad,r=.v (.slice (some ad) 0 0))->vp dr C N g l ⟨qt st.U d r,st.Y,st.Z⟩ K):vp dr C N g (i::l) st K:=by
 intro J M L Z0 R T a w Q u W;simp only[wpOpsIn,D];obtain⟨S,G,j⟩:=u;rw[Qn j.jx,zf (vT _ _ _ _ _ _)];have y:∀c,(Op.slice t x (some (.const (.int .i64 1))) none none:Op)≠.defer c:=fun c X=>by cases X
 refine⟨fun f _=>trivial,?_⟩;rw[Kg _ _ _ y];obtain⟨r,v,B,z,he⟩:=F0 j.inv F hs H q I (vv j.jx E);have m:=h r he J M L Z0 R T (a.put (some d) v) w Q ⟨S,G,j.step (dst:=some d) (.refl j.inv) z (fun _ e=>by cases e;exact hd)⟩ W;have o:(execOp a.eval ⟨some d,.slice t x (some (.const (.int .i64 1))) none none,ty,p,A,none⟩).run C.P w=.ok (.value v) w:=by simp[execOp,Act.eval,-bind_pure_comp]at B⊢;simp[B]
 rw[o];exact m
theorem LF{P:Program}{w:World}{S:Nat->Prop}{G:Nat->GI}{Y:Hp}{Z:Nat}(hi:Inv P w S G Y Z){t ty e:TypeId}{n by_:Nat}{ad:Addr}{ys:List zb}{z:zb}{v:Value}{x:O}
  (ht:ym P t=some e) (h1:qC P e=some n) (h2:jB P e=some by_) (h3:yT P e=some z) (J:0<n) (N:z.length=n) (B:ys.length<=maxLen) (Q:ys.length*by_<=140737488355328) (hv:AM.view Y n x=some ys) (hx:qb w S G Z x v) :
  ∃r y w' Y' K G',(Builtin.append_ #[t,t] ty #[.slice (some ad) 0 0,v]).run P w=.ok r w'/\(ys=[]/\y=.v (.slice (some ad) 0 0)/\Y'=Y/\K=Z\/y=.own Z 0 ys.length/\Y'=qt Y Z (some ⟨e,n,true,ys⟩)/\K=Z+1)/\kd dr P Y Z S G w Y' K S G' w'/\qb w' S G' K y r:=by
 obtain⟨i,R,L,i2,i3⟩:=Qk h3;have T:i.size=n:=by simpa[qC,L]using h1
 have W:i.bytes=by_:=by simpa[jB,L]using h2
 have C:=(jf (w:=w) (S:=S) i3).1;have X:R.cells.size=n:=by rw[<-N,C];simp
 have s:=kH ht;obtain⟨A,c,f,rfl,f1,f2⟩:=Kl hi hv hx;have l:=XG J f1 f2;by_cases hm:ys=[]
 ·subst hm;refine⟨_,_,w,Y,Z,G,?_,.inl ⟨rfl,rfl,rfl,rfl⟩,.refl hi,.c (.v rfl)⟩;cases A<;>simp[Builtin.append_,zD s,sizeOf,typeInfo,L,Builtin.lenOf,Builtin.firstCells,loadCells,loadCellsFrom,storeCells]
 have hm0:0<ys.length:=kZ.2 hm;obtain⟨d,a⟩:=jj ((List.range (ys.length*n)).map f);have M:d.length=ys.length*n:=by rw[<-a];simp
 obtain⟨m,rfl,_,_⟩:=l 0 (Nat.mul_pos hm0 J);have D:Src P i.size t (.slice (some m) ys.length c) ys.length d w:=by
  refine Src.ofSlice w s m _ c d (by rw[T];exact M) (fun j u o=>?_) (fun u s=>?_)
  ·have E:j<ys.length*n:=by rw[<-M];exact(zd.1 o).1
   obtain⟨ad2,e1,e2,_⟩:=l j E;injection e1 with e1;subst e1;rw[<-a,qf,jX E]at o;simp at o;rw[e2,o]
  ·rw[<-a]at s;obtain⟨k,hk,rfl⟩:=qp.1 s;exact(l k (yg.1 hk)).choose_spec.2.2
 have g:=run_append_grow_src (P:=P) w t t ty e i R s L i2 (some ad) 0 0 [] (by simp[Builtin.firstCells,loadCells,loadCellsFrom]) (.slice (some m) ys.length c) ys.length d D (by omega) (by unfold maxLen at B;omega) (growslice_fits (by omega) (by rw[W,yl];exact Q));simp only[yl,kj]at g;obtain⟨gc,p⟩:=jj (grownCap w ys.length 0 e);rw[p]at g;have F:ys.length<=gc:=by rw[<-p];exact grownCap_ge w _ _ e
 have R6:gc<=maxLen:=by rw[<-p];exact grownCap_le_maxLen w _ _ e B
 obtain⟨cells,b⟩:=jj (d.toArray++Builtin.zeroCells R.cells (gc-ys.length));rw[b]at g;have H:cells.size=gc*n:=by rw[<-b,QG,Rm,X];simp only[jv,M];rw[<-qK];congr 1;omega
 have k2:=kd.sT (dr:=dr) (w':=w.drew.alloc (.cells cells e)) (Y1:=Y) hi (fun _ _ h=>h) ⟨w.heap.size,cells.size,n⟩ e true ys cells rfl rfl rfl (by simp) (Zr _)
  (fun _=>False) (fun _ h=>h.elim) (fun b' hb' hne _=>Below.heap_alloc w.drew _ b' hb') (fun id' b' h=>Nat.ne_of_lt (hi.live id' b' h).lt) (fun hS=>by have:=hi.st _ hS;simp at this) (.inr (ze _)) J (by simpa[qC]using h1) f1
  (by rw[H];exact zP _ F) (Rk w.drew _) rfl (fun i' j c' pv q o=>by
   show∃u,cells[i'*n+j]?=some u/\ji w S G Z true pv u;obtain⟨ad2,a1,a2,a3⟩:=f2 i' j c' pv q o;have hjn:j<n:=by rw[<-f1 c' (zz q)];exact(zd.1 o).1
   have I:i'*n+j<ys.length*n:=kL (zd.1 q).1 hjn;refine⟨f (i'*n+j),?_,a3⟩;rw[<-b,kV (by simp[M];exact I)];simp[<-a,I])
 refine⟨_,_,_,_,_,_,g,.inr ⟨rfl,rfl,rfl⟩,k2,?_⟩;have:=qb.own (w:=w.drew.alloc (.cells cells e)) (S:=S) (G:=qt G Z ⟨w.heap.size,cells.size,n⟩) (Z:=Z+1) (id:=Z) (off:=0) (n:=ys.length) (cap:=gc) (by omega) F R6 (by simp[H]) (by simpa using J);simpa using this
theorem vp.zaa{b:Array Oper}{i:Nat}{d:Tmp}{x y:Operand}{t ty:TypeId}{p:String}{E:Array Edge}{l:List Nat}{st:St}{K:St->Prop}{e:TypeId}{n by_:Nat}{ad:Addr}{v:O}{ys:List zb}{z:zb}
  (F:b[i]?=some ⟨some d,.call ⟨.builtin .append,#[x,y],#[t,t]⟩,ty,p,E,none⟩) (hd:d<N) (H:get st.U x=some (.v (.slice (some ad) 0 0))) (I:get st.U y=some v) (J:AM.view st.Y n v=some ys)
  (M:ym C.P t=some e) (R:qC C.P e=some n) (T:jB C.P e=some by_) (W:yT C.P e=some z) (X:0<n) (o:z.length=n) (q:ys.length<=maxLen) (s:ys.length*by_<=140737488355328)
  (h:∀w Y' g,(ys=[]/\w=.v (.slice (some ad) 0 0)/\Y'=st.Y/\g=st.Z\/w=.own st.Z 0 ys.length/\Y'=qt st.Y st.Z (some ⟨e,n,true,ys⟩)/\g=st.Z+1)->vp dr C N b l ⟨qt st.U d w,Y',g⟩ K):vp dr C N b (i::l) st K:=by
 intro w0 S0 L Z0 G0 n0 a w Q hs hQ;simp only[wpOpsIn,F];obtain⟨S,G,j⟩:=hs;rw[Qn j.jx,zf (vT _ _ _ _ _ _)];have u:∀c,(Op.call ⟨.builtin .append,#[x,y],#[t,t]⟩:Op)≠.defer c:=fun c hc=>by cases hc
 refine⟨fun f _=>trivial,?_⟩;rw[Kg _ _ _ u];obtain⟨A,_⟩:=(vv j.jx H).wY;obtain⟨r,y',w',Y',g,G',hr,he,B,D⟩:=LF (dr:=dr) (ty:=ty) (ad:=ad) j.inv M R T W X o q s J (vv j.jx I);have k:=h y' Y' g he w0 S0 L Z0 G0 n0 (a.put (some d) r) w' Q ⟨S,G',j.step (dst:=some d) B D (fun _ e=>by cases e;exact hd)⟩ hQ;have m:(execOp a.eval ⟨some d,.call ⟨.builtin .append,#[x,y],#[t,t]⟩,ty,p,E,none⟩).run C.P w=.ok (.value r) w':=by simp[execOp,resolve,invoke,builtin,A,hr,-bind_pure_comp]
 rw[m];exact k
end
end Go.AM
