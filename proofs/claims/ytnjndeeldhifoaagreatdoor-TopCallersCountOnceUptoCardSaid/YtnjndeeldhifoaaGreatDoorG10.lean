/- Lemmas. -/
import Derived.Shelf.Bits.Mul64
import Derived.Shelf.SlSortCmp.WholeK
import Derived.Shelf.SlSortCmp.NoneTotal
import Derived.Test.YtnjndeeldhifoaaGreatDoorProg
import Derived.Test.YtnjndeeldhifoaaGreatDoorG9
set_option maxRecDepth 100000
set_option maxHeartbeats 4000000
open Go Proofs Proofs.YtnjndeeldhifoaaGreatDoor Proofs.Tryz RowKit AM SpanLaw Q Zz
open Go.IntKind renaming i64→i6
namespace Go.Q
inductive Qu:qT->Prop
 |mk {k o:Int} {a p n:List UInt8} {v:List qp} {l:List qT}:1<=k->k<=5->(k=3->l.length=1)->(k=4->ZG o=true->0<v.length)->(∀x∈l,Qu x)->Qu (.mk k a o v p n l)
theorem Qu.kind{c:qT}(h:Qu c):1<=c.kind/\c.kind<=5:=by cases h;exact⟨by assumption,by assumption⟩
theorem Qu.one{c:qT}(h:Qu c)(a:c.kind=3):c.args.length=1:=by cases h with|mk _ _ b _ _=>exact b a
theorem Qu.ord{c:qT}(h:Qu c)(a:c.kind=4)(b:ZG c.op=true):0<c.kc.length:=by cases h with|mk _ _ _ d _=>exact d a b
theorem Qu.args{c:qT}(h:Qu c):∀x∈c.args,Qu x:=by cases h with|mk _ _ _ _ a=>exact a
theorem eF:∀{l:List qT},xf l=0->∀x∈l,x.fault=0
 |[],_,x,a=>by cases a
 |c::l,h,x,a=>by
  rw[xf]at h;split at h
  ·rename_i b;rcases zC.1 a with rfl|a
   ·exact b
   ·exact eF h x a
  ·rename_i b;exact absurd h b
theorem uy(c:qT):c.fault=0->Qu c:=by
 induction c using qT.ind with
 |h k a o v p n l m=>
  intro e;rw[gU]at e;split at e
  case isFalse d=>exact absurd e d
  rename_i d;have b:=eF e;unfold ZH at d;split at d
  ·omega
  rename_i g;split at d
  ·omega
  rename_i i;simp only[AP,opC,qT.kind,qT.op,qR,not_or,kU,Bool.not_eq_false]at g;simp only[Qg,w6F,w7F,qT.kind,qT.op,qT.kc,qT.args,qR,not_or]at i;obtain⟨⟨⟨_,_⟩,q⟩,r⟩:=i;have f:=g.1;simp only[vG,zx,qG]at f;refine .mk f.1 f.2 (fun s=>?_) (fun t u=>?_) fun x j=>m x j (b x j)
  ·refine Decidable.byContradiction fun w=>q ?_
   rw[s];simp only[beq_self_eq_true,Ej,zdg,ne_eq];omega
  ·refine Decidable.byContradiction fun w=>r ?_
   rw[t,u];simp only[beq_self_eq_true,Ej,zdg,ne_eq];omega
theorem eG{c:qT}(h:c.check=0):Qu c:=by
 unfold qT.check at h;split at h
 ·omega
 ·exact uy c h
def fX(M:List (Nat×Bool)):List zb:=M.map fun p=>[int p.1,qO p.2]
def fY(M:List (Nat×Bool)):jV:=⟨128,0,false,fX M⟩
def mg(f:Nat->Bool)(M:List (Nat×Bool)):Prop:=∀p∈M,p.2=f p.1
theorem XZ(i:Nat):∀(M:List (Nat×Bool)) (k:Nat),(jt (.int .i64 i) (fX M) k=some none)\/∃j b,jt (.int .i64 i) (fX M) k=some (some (k+j,qO b))/\M[j]?=some (i,b)
 |[],k=>.inl rfl
 |(a,b)::M,k=>by
  by_cases h:i=a
  ·subst h;exact .inr ⟨0,b,by simp[fX,jt,jz],rfl⟩
  ·have d:jz (.int .i64 (i:Int)) (.int .i64 (a:Int))=some false:=by simp only[jz,qI,wb,yC,ne_eq];omega
   have e:jt (.int .i64 i) (fX ((a,b)::M)) k=jt (.int .i64 i) (fX M) (k+1):=by simp only[fX,z6,jt,d]
   rw[e];rcases XZ i M (k+1)with c|⟨j,f,c,g⟩
   ·exact .inl c
   ·exact .inr ⟨j+1,f,by rw[c];simp;omega,by simpa using g⟩
@[simp]theorem RS:Wd prog 128=some (some .i64,4):=by kernel_rfl
theorem DB{Y:Hp}{m:Nat}{f:Nat->Bool}{M:List (Nat×Bool)}(c:mg f M)(i:Nat)(h:Y m=some (fY M)):jA prog Y 128 (.mp m) (int i) true=some (.q8 [qO (f i),qO true])\/jA prog Y 128 (.mp m) (int i) true=some (.q8 [qO false,qO false]):=by
 rcases XZ i M 0 with a|⟨j,b,a,d⟩
 ·exact .inr (by simp[jA,J3,h,fY,xG,a])
 ·have:=c _ (zD d);simp only at this;exact .inl (by simp[jA,J3,h,fY,xG,a,this])
theorem eH{Y:Hp}{m:Nat}{f:Nat->Bool}{M:List (Nat×Bool)}(c:mg f M)(i:Nat)(h:Y m=some (fY M)):∃d,kd prog Y 128 (.mp m) (int i) (qO (f i))=some (ql Y m (some (fY d)))/\mg f d:=by
 rcases XZ i M 0 with a|⟨j,b,a,e⟩
 ·refine⟨M++[(i,f i)],by simp[kd,h,fY,xG,a];simp[fX],fun p Y=>?_⟩;rcases qh.1 Y with Y|Y
  ·exact c p Y
  ·simp at Y;rw[Y]
 ·refine⟨M.set j (i,f i),by simp[kd,h,fY,xG,a];simp[fX,List.map_set],fun p Y=>?_⟩;rcases kf Y with Y|rfl
  ·exact c p Y
  ·rfl
def uz(l:List qN)(x:qf)(m:Nat):jV:=⟨130,4,false,[[.sl 10 (l.map qN.V),str x.key,.sl 6 (x.attrs.map wS),.mp m]]⟩
noncomputable abbrev MS:AM.Spec:=qq C0 f32
theorem DC:zf prog 32 MS:=w8 y7 func32
theorem MT(l:List qN)(x:qf)(Y:Hp)(Z:Nat):MS [.sl 10 (l.map qN.V),.agg x.V] Y Z=some (.ref (Z+2) 0 0,ql (ql (ql Y Z (some ⟨37,2,false,[x.V]⟩)) (Z+1) (some (fY []))) (Z+2) (some (uz l x (Z+1))),Z+3):=by unfold MS qq;rw[ze (by simp[f32])];refine wx rfl ?_;simp[qf.V,qg,qF,uz,fY,fX,f32]
noncomputable def MU (sp:AM.Spec):AM.Spec:=qq (zG prog [(36,sp)]) f61
noncomputable abbrev TAh (sp:AM.Spec):kW:=[(61,MU sp),(36,sp)]
noncomputable abbrev Chd (mem sp:AM.Spec):Ctx:=Qa prog [(60,pk (TAh sp)),(36,sp),(62,zg false [] gZ),(63,mem),(64,zg false [] (FXS (fun x s=>KP (x.find s)) fun _ _=>True)),(65,zg false [] FPs)] 11 [1000004] []
noncomputable def WB (mem:AM.Spec):Nat->AM.Spec
 | 0=>fun _ _ _=>none
 |k+1=>qq (Chd mem (WB mem k)) f36
noncomputable abbrev Cmb (sp:AM.Spec):Ctx:=zG prog [(78,zg false [] (Rv T8)),(36,sp)]
noncomputable def mh:Nat->AM.Spec
 | 0=>fun _ _ _=>none
 |n+1=>qq (Cmb (WB (mh n) zw)) f63
theorem DD{sp:AM.Spec}(h:zf prog 36 sp):zf prog 61 (MU sp):=
 w8 (qc (q:=[]) (l:=[(36,sp)]) mixed ⟨h,by simp,trivial⟩) func61
theorem eI{mem:AM.Spec}(h:zf prog 63 mem)(k:Nat):zf prog 36 (WB mem k):=by
 induction k with
 |zero=>exact Qi ⟨_,func36,by kernel_rfl,by kernel_rfl⟩
 |succ k a=>exact w8 (C:=Chd mem (WB mem k)) (nR (q:=[62,64]) mixed ⟨ej ⟨DD a,by simp,a,by simp,trivial⟩,by simp,a,by simp,KK,fun _=>zr _ _,h,by simp,l8,fun _=>zr _ _,lZ,by simp,trivial⟩ (by simp[cR])) func36
theorem DE(n:Nat):zf prog 63 (mh n):=by
 induction n with
 |zero=>exact Qi ⟨_,func63,by kernel_rfl,by kernel_rfl⟩
 |succ n a=>exact w8 (C:=Cmb (WB (mh n) zw)) (qc (q:=[78]) mixed ⟨VK,fun _=>zr _ _,eI a zw,by simp,trivial⟩) func63
noncomputable def Hr (x:qf) (c:qT):Bool:=(x.find c.attr).2&&QL c (x.find c.attr).1
noncomputable def hF (l:List qN) (x:qf) (c:qT):Bool:=zaW l x.key (Hr x) c
noncomputable def mF (l:List qN) (x:qf) (i:Nat):Bool:=GD l x.key (Hr x) i
theorem za4(l:List qN)(x:qf)(c:qT):hF l x c=if c.kind=1 then c.args.all (hF l x)else if c.kind=2 then c.args.any (hF l x)else if c.kind=3 then !(T6 (hF l x) c.args)else if c.kind=5 then mF l x (ZD l c.name)else Hr x c:=dW _ _ c
def WJ(l:List qN)(x:qf)(a m:Nat)(_:Unit)(Y:Hp):Prop:=Y a=some (uz l x m)/\∃M,Y m=some (fY M)/\mg (mF l x) M
theorem WJ.ql{l:List qN}{x:qf}{a m:Nat}{u:Unit}{Y:Hp}(h:WJ l x a m u Y){j:Nat}(b:Option jV)(c:a≠j)(d:m≠j):WJ l x a m u (ql Y j b):=by obtain⟨e,M,f,g⟩:=h;exact⟨by rw[zk _ _ _ _ c];exact e,M,by rw[zk _ _ _ _ d];exact f,g⟩
def Yq(a:Nat):jV:=⟨98,1,false,[[.ref a 0 0]]⟩
theorem MV(x:qf)(s:za)(d:x.cb+2<=zw):(x.find s).1.vb<=zw:=by
 have b:=XO x;unfold qf.find;split
 ·rw[Kf];simp[l7,qp.s,qp.items,qp.fields,Ju,V8];omega
 ·split
  ·rename_i a c;have:=W6 (zD c);split
   ·simp only;omega
   ·rw[Kf];simp[pw,qp.s,qp.items,qp.fields,Ju,V8,zw]
  ·rw[Kf];simp[pw,qp.s,qp.items,qp.fields,Ju,V8,zw]
theorem Jp{mem:AM.Spec}{l:List qN}{x:qf}{b m Z0:Nat}{I:Nat->Prop}(L:b≠m)(hid:b<Z0)(hm:m<Z0)(hl:l.length<=zw)(hx:x.cb+2<=zw)
  (q:∀i Y Z,I i->Z0<=Z->WJ l x b m () Y->∃r v Z',mem [.ref b 0 0,int i] Y Z=some (r,v,Z')/\wO (·=m) (WJ l x b m) (qO (mF l x i)) () Y Z r v Z') :
  ∀(k:Nat) (c:qT) (Y:Hp) (Z:Nat),c.cb<=k->c.cb<=zw->Qu c->(∀n∈c.names,I (ZD l n))->Z0<=Z->WJ l x b m () Y ->
   ∃r v Z',WB mem k [.ref b 0 0,.agg c.V] Y Z=some (r,v,Z')/\wO (·=m) (WJ l x b m) (qO (hF l x c)) () Y Z r v Z'
 | 0,c,_,_,h,_,_,_,_,_=>absurd h (by have:=Xx c;omega)
 |k+1,c,N,a,hk,hcl,hg,hI,Le,hR=>by
  have SL:=Kj c;have hal:=xV c.args;have P:=VJ c;have d:=za4 l x c;have IV:zw=2097152:=rfl;have am:∀y∈c.args,y.cb<=k/\y.cb<=zw/\Qu y/\∀n∈y.names,I (ZD l n):=fun y A=>by have:=W8 A;exact⟨by omega,by omega,hg.args y A,fun n hn=>hI n (by rw[P];exact qh.2 (.inr (Yz.2 ⟨y,A,hn⟩)))⟩
  have w:WJ l x b m () (ql (ql N a (some (Yq b))) (a+1) (some (ZV c))):=(hR.ql _ (by omega) (by omega)).ql _ (by omega) (by omega);have E:∀{v:Hp},(∀j,j<a+2->¬j=m->v j=ql (ql N a (some (Yq b))) (a+1) (some (ZV c)) j)->∀j,j<a->¬j=m->v j=N j:=fun f j hj B=>by rw[f j (by omega) B,zk _ _ _ _ (by omega),zk _ _ _ _ (by omega)]
  unfold WB qq;rw[ze (by simp[f36])];refine zY rfl ?_;refine vf (fun U Y Z=>U 2=.ref a 0 0/\U 3=.ref (a+1) 0 0/\U 4=qO false/\U 1000004=.q8 []/\Y=ql (ql N a (some (Yq b))) (a+1) (some (ZV c))/\Z=a+2) (by simp[Yq,ZV]) ?_;rintro U Y Z ⟨F,G,h4,Q,rfl,rfl⟩;have ma:¬a=a+1:=by omega
  by_cases k1:c.kind=1
  ·rw[ze k1]at d;obtain⟨r,v,Z',p,rfl,⟨H,_⟩,n2,C⟩:=ek (U:=Unit) (T:=(·=m)) (Rep:=fun u Y=>WJ l x b m u Y/\Y a=some (Yq b)) (step:=fun _ y=>(!hF l x y,())) (Ta:=TAh (WB mem k)) (g:=61) (sp:=MU (WB mem k)) (fi:=[]) (cap:=[.ref a 0 0]) (Z0:=a+2) (by simp) c.args (by omega)
    (fun _ y Y Z A hn ⟨D,R⟩=>by
     obtain⟨S,W,X,a4⟩:=am y A;obtain⟨r,v,Z',p,rfl,H,n2,C⟩:=Jp L hid hm hl hx q k y (ql Y Z (some (ZV y))) (Z+1) S W X a4 (by omega) (D.ql _ (by omega) (by omega));refine⟨_,v,Z',?_,rfl,⟨H,by rw[C a (by omega) (by omega),zk _ _ _ _ (by omega)];exact R⟩,by omega,fun j hj B=>by rw[C j (by omega) B,zk _ _ _ _ (by omega)]⟩;unfold MU qq;rw[ze (by simp[f61])];refine wx rfl ?_;have n1:¬a=Z:=by omega
     simp only[Yq]at R;simp only[ZV]at p;simp[R,n1,p,f61]) () _ (a+2) (zi _) ⟨w,by rw[zk _ _ _ _ ma];simp⟩
   rw[XQ]at p;have M:=E C;simp only[Yq,ZV]at p;simp[F,G,Yq,ZV,k1,p,d,wO,f36];exact⟨H,by omega,M⟩
  have k1':=jr k1;rw[zj k1]at d;by_cases k2:c.kind=2
  ·rw[ze k2]at d;obtain⟨r,v,Z',p,rfl,H,n2,C⟩:=ek (U:=Unit) (T:=(·=m)) (Rep:=WJ l x b m) (step:=fun _ y=>(hF l x y,())) (Ta:=TAh (WB mem k)) (g:=36) (sp:=WB mem k) (fi:=[.ref b 0 0]) (cap:=[]) (Z0:=Z0) (by simp) c.args (by omega)
    (fun _ y Y Z A hn D=>by obtain⟨S,W,X,a4⟩:=am y A;exact Jp L hid hm hl hx q k y Y Z S W X a4 hn D) () _ (a+2) (by omega) w
   rw[Wv]at p;have M:=E C;simp only[Yq,ZV]at p;simp[F,G,Yq,ZV,k2,p,d,wO,f36];exact⟨H,by omega,M⟩
  have k2':=jr k2;rw[zj k2]at d;by_cases k3:c.kind=3
  ·rw[ze k3]at d;obtain⟨y,A⟩:∃y,c.args=[y]:=by
    have:=hg.one k3
    match h:c.args,this with
    |[y],_=>exact⟨y,rfl⟩
   obtain⟨S,W,X,a4⟩:=am y (by rw[A];simp);obtain⟨r,v,Z',p,rfl,H,n2,C⟩:=Jp L hid hm hl hx q k y _ (a+2) S W X a4 (by omega) w;have M:=E C;rw[A]at d;simp only[T6]at d;simp only[Yq,ZV]at p;simp[F,G,Yq,ZV,k3,A,p,d,wO,f36];exact⟨H,by omega,M⟩
  have k3':=jr k3;rw[zj k3]at d;by_cases k5:c.kind=5
  ·rw[ze k5]at d;have hIn:=hI c.name (by rw[P,ze k5];simp);obtain⟨r,v,Z',p,rfl,H,n2,C⟩:=q (ZD l c.name) _ (a+2) hIn (by omega) w;have M:=E C;have D:=fun Y Z=>KJ l c.name Y Z hl
   have z:=hR.1;have J:¬b=a:=by omega
   have K:¬b=a+1:=by omega
   simp only[uz]at z;simp only[Yq,ZV,ZD]at p;simp[F,G,Yq,ZV,k5,z,J,K,D,p,d,wO,ZD,f36];exact⟨H,by omega,M⟩
  have k5':=jr k5;rw[zj k5]at d;have hkk:=hg.kind;have k4:c.kind=4:=by omega
  have D:∀Y Z,zg false [] (FXS (fun x s=>KP (x.find s)) fun _ _=>True) [.agg [str x.key,.sl 6 (x.attrs.map wS)],str c.attr] Y Z=some (.q8 [.agg (x.find c.attr).1.V,qO (x.find c.attr).2],Y,Z):=fun Y Z=>Ha (fun x s=>KP (x.find s)) (fun _ _=>True) x c.attr Y Z ⟨by omega,by omega,trivial⟩
  have R:=fun Y Z=>GZ c (x.find c.attr).1 Y Z hcl (MV x c.attr hx) (hg.ord k4)
  have z:=hR.1;have J:¬b=a:=by omega
  have K:¬b=a+1:=by omega
  simp only[uz]at z;rw[d];unfold Hr;refine vf (fun U Y Z=>U 2=.ref a 0 0/\U 3=.ref (a+1) 0 0/\U 4=qO false/\U 1000004=.q8 []/\Y=ql (ql N a (some (Yq b))) (a+1) (some (ZV c))/\Z=a+2) (by simp[F,G,h4,Q,Yq,ZV,k1',k2',k3',k5']) ?_;clear F G h4 Q U;rintro U Y Z ⟨F,G,h4,Q,rfl,rfl⟩;have hrf:xp [1000004] ⟨U,ql (ql N a (some (Yq b))) (a+1) (some (ZV c)),a+2⟩:=fun t ht=>by
   have:t=1000004:=by simpa using ht
   subst this;refine⟨⟨fun id o n e=>?_,fun id i j e=>?_⟩,fun _=>?_⟩
   ·have e:U 1000004=.own id o n:=e;rw[Q]at e;cases e
   ·have e:U 1000004=.ref id i j:=e;rw[Q]at e;cases e
   ·show(U 4).Qr=true;rw[h4];rfl
  rw[iW,aT hrf];cases hf:(x.find c.attr).2
  ·rw[hf]at D;simp[F,G,Yq,ZV,z,J,K,D,wO,f36];exact⟨w.ql _ (by omega) (by omega),by omega,fun j hj B=>by rw[zk _ _ _ _ (by omega),zk _ _ _ _ (by omega),zk _ _ _ _ (by omega)]⟩
  ·rw[hf]at D;simp[F,G,Yq,ZV,z,J,K,D,R,wO,f36];exact⟨w.ql _ (by omega) (by omega),by omega,fun j hj B=>by rw[zk _ _ _ _ (by omega),zk _ _ _ _ (by omega),zk _ _ _ _ (by omega)]⟩
theorem MW{s:qN}(h:ZU s=0):oQ s.ins/\oQ s.outs/\s.cond.check=0:=by
 unfold ZU at h;split at h
 case isFalse a=>exact absurd h a
 rename_i b;split at h
 case isFalse a=>exact absurd h a
 rename_i c;split at h
 ·omega
 ·exact⟨dU b,dU c,h⟩
theorem A7{l:List qN}{x:qf}{c m Z0:Nat}(f:c≠m)(hid:c<Z0)(X:m<Z0)(g:V9 l)(hl:bm l<=zw)(hx:x.cb+2<=zw) :
  ∀(n i:Nat) (Y:Hp) (Z:Nat),i<l.length->Rt l i<n->Z0<=Z->WJ l x c m () Y->∃r N Z',mh n [.ref c 0 0,int i] Y Z=some (r,N,Z')/\wO (·=m) (WJ l x c m) (qO (mF l x i)) () Y Z r N Z'
 | 0,_,_,_,_,h,_,_=>absurd h (by omega)
 |n+1,i,P,d,k,hrk,Le,K=>by
  have hle:=JM l;obtain⟨s,hs⟩:=kC (l[i]);have u:s∈l:=by rw[<-hs];exact zm k
  have hm2:=VI u;have hmc:s.cb=1+s.name.length+VH s.ins+VH s.outs+s.cond.cb:=rfl;have SJ:=XO x;obtain⟨u1,u2,Q⟩:=MW (g.right s u).2;have C:l[i]?=some s:=by rw[zn k,hs]
  have v:mF l x i=(s.ins.contains x.key||(!s.outs.contains x.key&&hF l x s.cond)):=by show GD l x.key (Hr x) i=_;rw[Mq g,Mp,C];rfl
  have hH:=Jp (mem:=mh n) (I:=fun j=>j<l.length/\Rt l j<n) f hid X (by omega) hx (fun j Y Z D hn hr=>A7 f hid X g hl hx n j Y Z D.1 D.2 hn hr) zw s.cond
   (ql P d (some (VM s))) (d+1) (by omega) (by omega) (eG Q) (fun y hy=>⟨lT (g.known s u y hy),by
    have R:ZD l y∈yB l i:=by unfold yB;rw[C];exact YM hy
    have:=GB g i _ R;omega⟩) (by omega) (K.ql _ (by omega) (by omega))
  obtain⟨r,N,Z',e1,rfl,S,n2,f2⟩:=hH;have w:=fun Y Z=>lU s.ins x.key Y Z (by omega) (by omega)
  have E:=fun Y Z=>lU s.outs x.key Y Z (by omega) (by omega)
  rw[bS u1]at w;rw[bS u2]at E;have z:=K.1;obtain⟨M,T,A⟩:=K.2;have o:¬c=d:=by omega
  have F:¬m=d:=by omega
  unfold mh qq;rw[ze (by simp[f63])];refine zY rfl ?_;have p:=z;simp only[uz]at p;rcases DB A i T with q|q
  ·simp[p,q,wO,f63];exact K
  simp only[VM]at e1;cases B:s.ins.contains x.key
  ·cases L:s.outs.contains x.key
   ·have t:mF l x i=hF l x s.cond:=by rw[v,B,L];rfl
    obtain⟨M2,W,G⟩:=S.2;obtain⟨H,a,b⟩:=eH G i W;have J:=S.1;simp only[uz]at J;rw[t]at a;rw[B]at w;rw[L]at E;simp[p,q,k,hs,o,w,E,e1,J,a,t,wO,f63];exact⟨⟨by rw[zk _ _ _ _ f];exact S.1,H,by simp,b⟩,by omega,fun j D e=>by rw[zk _ _ _ _ e,f2 j (by omega) e,zk _ _ _ _ (by omega)]⟩
   ·have t:mF l x i=false:=by rw[v,B,L];rfl
    obtain⟨H,a,b⟩:=eH (Y:=ql P d (some (VM s))) A i (by rw[zk _ _ _ _ F];exact T);simp only[VM]at a;rw[t]at a;rw[B]at w;rw[L]at E;simp[p,q,k,hs,o,w,E,a,t,wO,f63];exact⟨⟨by rw[zk _ _ _ _ f,zk _ _ _ _ o];exact z,H,by simp,b⟩,fun j D e=>by rw[zk _ _ _ _ e,zk _ _ _ _ (by omega)]⟩
  ·have t:mF l x i=true:=by rw[v,B];rfl
   obtain⟨H,a,b⟩:=eH (Y:=ql P d (some (VM s))) A i (by rw[zk _ _ _ _ F];exact T);simp only[VM]at a;rw[t]at a;rw[B]at w;simp[p,q,k,hs,o,w,a,t,wO,f63];exact⟨⟨by rw[zk _ _ _ _ f,zk _ _ _ _ o];exact z,H,by simp,b⟩,fun j D e=>by rw[zk _ _ _ _ e,zk _ _ _ _ (by omega)]⟩
noncomputable def pR (Ta:kW):AM.Spec:=qq (zG prog Ta) f97
noncomputable def A8 (Ta:kW):AM.Spec:=qq (zG prog [(97,pR Ta)]) f58
theorem uA{Ta:kW}(h:YK True prog [] Ta):zf prog 97 (pR Ta):=w8 (qc (q:=[]) mixed h) func97
theorem uB{Ta:kW}(h:YK True prog [] Ta):zf prog 58 (A8 Ta):=w8 (qc (q:=[]) (l:=[(97,pR Ta)]) mixed ⟨uA h,by simp,trivial⟩) func58
theorem Hs{U:Type}{T:Nat->Prop}{Rep:U->Hp->Prop}{step:U->SpanLaw.Sp->Bool×U}{Ta:kW}{g:Nat}{sp:AM.Spec}{fi cap:zb}{Z0:Nat}(y:lookup Ta g=some sp)(xs:List SpanLaw.Sp)(C:xs.length<=zw)
  (D:∀s x Y Z,x∈xs->Z0<=Z->Rep s Y->∃r b Z',sp (fi++.agg (wc x)::cap) Y Z=some (r,b,Z')/\wO T Rep (qO (step s x).1) (step s x).2 Y Z r b Z')
  (f:U) (h:Hp) (a:Nat) (N:Z0<=a) (E:Rep f h) :
  ∃r b Z',A8 Ta [.sl 2 (xs.map wc),.fn (.func g) fi cap] h a=some (r,b,Z')/\wO T Rep (qO (qw step f xs).1) (qw step f xs).2 h a r b Z':=by
 have p:∃r b Z',pR Ta [.sl 2 (xs.map wc),.fn (.func g) fi cap] h a=some (r,b,Z')/\∃z:Int,r=int z/\decide (0<=z)=(qw step f xs).1/\wO T Rep (int z) (qw step f xs).2 h a r b Z':=by
  unfold pR qq;rw[ze (by simp[f97])];refine zY rfl ?_;unfold zw at C;simp;refine zP (fun k U Y Z=>U 0=.sl 2 (xs.map wc)/\U 1=.fn (.func g) fi cap/\U 7=int xs.length/\U 8=int k/\a<=Z/\(∀j,j<a->¬T j->Y j=h j)/\∃s,Rep s Y/\qw step f xs=qw step s (xs.drop k)) xs.length ⟨by simp,by simp,by simp,by simp,zi _,fun _ _ _=>rfl,f,E,by simp⟩ ?_;rintro k U Y Z P ⟨q,t,u,v,w,l,s,m,e⟩;by_cases c:k<xs.length
  ·have F:=qz k;obtain⟨x,o⟩:=kC (xs[k]);obtain⟨r,Y2,G,i,rfl,A,Q,H⟩:=D s x Y Z (by rw[<-o];exact zm c) (by omega) m;rw[zd c,o]at e;have n:∀j,j<a->¬T j->Y2 j=h j:=fun j I B=>by rw[H j (by omega) B];exact l j I B
   cases d:(step s x).1
   ·rw[vg d]at e;rw[d]at i;simp[q,t,u,v,c,o,y,i,F];exact⟨by omega,by omega,n,_,A,e⟩
   ·rw[v8 d]at e;rw[d]at i;simp[q,t,u,v,c,o,y,i,e,wO,f97];exact⟨A,by omega,n⟩
  ·obtain rfl:k=xs.length:=by omega
   rw[zp]at e;simp only[qw]at e;simp[q,t,u,v,e,wO,f97];exact⟨m,w,l⟩
 obtain⟨r,b,Z',i,z,rfl,J,_,K,L,M⟩:=p;unfold A8 qq;rw[ze (by simp[f58])];refine zY rfl ?_;simp[i,J,wO,f58];exact⟨K,L,M⟩
end Go.Q
namespace Go.Proofs
open Go.Shelf
def Tryz.si:Go.Shelf.Ren:=⟨fun|264=>96|n=>n,fun|46=>152|53=>134|n=>n,fun|n=>n⟩
theorem Tryz.N8:Go.Proofs.Lays.n264 prog Tryz.si:={
 mixed:=by kernel_rfl
 f264:=func96.trans (zo some (by kernel_rfl))
 t46:=underlying152
 a46:=isAgg152
 z46:=sizeOf152
 v46:=zeroValue152
 t53:=underlying134
 a53:=isAgg134
 z53:=sizeOf134
 v53:=zeroValue134}
end Go.Proofs
namespace Go.Q
abbrev u64(n:Int):O:=.v (.int .u64 n)
def DF(x y:Nat):Nat:=x*y/18446744073709551616
def RT(x y:Nat):Nat:=x*y % 18446744073709551616
noncomputable def FMu:zb->Option O:=zS (α:=Nat×Nat) (fun a=>[u64 a.1,u64 a.2]) (fun a=>a.1<18446744073709551616/\a.2<18446744073709551616) (fun a=>.q8 [u64 (DF a.1 a.2),u64 (RT a.1 a.2)])
theorem A9{a b:Nat}(h:u64 (a:Int)=u64 b):a=b:=by injection h with h;injection h with _ h;omega
theorem RU:∀a b:Nat×Nat,[u64 (a.1:Int),u64 (a.2:Int)]=[u64 b.1,u64 b.2]->a=b:=by rintro⟨c,d⟩ ⟨f,g⟩ e;simp only[zc,zs]at e;rw[A9 e.1,A9 e.2]
theorem pS:zf prog 96 (zg false [] FMu):=
 kK ⟨_,func96,by kernel_rfl,by kernel_rfl⟩ fun args r h=>by
  obtain⟨⟨a,b⟩,rfl,⟨f,g⟩,rfl⟩:=qd h;refine⟨[.int .u64 a,.int .u64 b],rfl,by simp[lit],rfl,.tuple #[.int .u64 (DF a b),.int .u64 (RT a b)],fun w S=>.q8 rfl fun j k u c d=>?_,fun w S _=>?_⟩
  ·match j with
   | 0=>simp at c d;subst c;subst d;exact .v rfl
   | 1=>simp at c d;subst c;subst d;exact .v rfl
   |j+2=>simp at c
  ·refine(Any.bits_Mul64 Tryz.N8 a b f g w).mono fun e l i=>?_
   obtain⟨rfl,rfl⟩:=i;exact⟨rfl,Fr.refl _ _⟩
theorem MX(a b:Nat)(Y:Hp)(Z:Nat)(c:a<18446744073709551616)(d:b<18446744073709551616):zg false [] FMu [u64 a,u64 b] Y Z=some (.q8 [u64 (DF a b),u64 (RT a b)],Y,Z):=
 Zc (a,b) _ _ rfl RU ⟨c,d⟩ (.inl rfl)
def pT(a b:Int):Int:=IntKind.u64.wrap (((a % 2 ^ IntKind.u64.bits).toNat ^^^ (b % 2 ^ IntKind.u64.bits).toNat:Nat):Int)
def pU(a:Int):Int:=a.fdiv (2 ^ min 33 IntKind.u64.bits)
def mi(z k:Int):Int:=IntKind.u64.wrap (pT z (pU z)*k)
def aG(z:Int):Int:=pT (mi (mi z 18397679294719823053) 14181476777654086739) (pU (mi (mi z 18397679294719823053) 14181476777654086739))
def ZX(z:Int):Nat:=DF (aG z).toNat 100000
theorem uC(a:Int):0<=IntKind.u64.wrap a/\IntKind.u64.wrap a<18446744073709551616:=by rw[Qp];omega
theorem eJ(z:Int):0<=aG z/\aG z<18446744073709551616:=uC _
theorem iq(z:Int):ZX z<100000:=by have:=eJ z;unfold ZX DF;omega
noncomputable abbrev Cspr:Ctx:=zG prog [(96,zg false [] FMu)]
noncomputable def FSr:zb->Option O:=zS (α:=Int) (fun a=>[u64 a]) (fun _=>True) (fun a=>int (ZX a))
theorem Ht(a:Int)(Y:Hp)(Z:Nat):zg false [] FSr [u64 a] Y Z=some (int (ZX a),Y,Z):=
 Zc a _ _ rfl (fun a b e=>by simp only[zc,zs]at e;injection e with e;injection e with _ e) trivial (.inl rfl)
theorem pV(z:Int):zt Cspr f57 [u64 z]=some (int (ZX z)):=by
 refine zl rfl ?_;have j:=eJ z;have hs:=iq z;have c:=fun Y Z=>MX (aG z).toNat 100000 Y Z (by omega) (by omega)
 have d:(((aG z).toNat:Nat):Int)=aG z:=by omega
 rw[d]at c;have e:∀a b:Int,IntKind.u64.wrap (((a % 2 ^ IntKind.u64.bits).toNat ^^^ (b % 2 ^ IntKind.u64.bits).toNat:Nat):Int)=pT a b:=fun _ _=>rfl
 have f:∀a:Int,a.fdiv (2 ^ min 33 IntKind.u64.bits)=pU a:=fun _=>rfl
 have g:∀a k:Int,IntKind.u64.wrap (pT a (pU a)*k)=mi a k:=fun _ _=>rfl
 have h:pT (mi (mi z 18397679294719823053) 14181476777654086739) (pU (mi (mi z 18397679294719823053) 14181476777654086739))=aG z:=rfl;have i:i6.wrap (DF (aG z).toNat 100000:Nat)=(ZX z:Int):=qE (by unfold ZX at hs;omega) (by unfold ZX at hs;omega);simp only[rW]at c;simp[e,f,g,h,c,i,f57]
theorem mj:zf prog 57 (zg false [] FSr):=
 kL (zM mixed ⟨pS,trivial⟩:AM.Good Cspr _) func57 false [] fun a _=>⟨by simp[f57],_,pV a,qa _⟩
def Hu(h:Int)(c:UInt8):Int:=IntKind.u64.wrap (pT h (IntKind.u64.wrap c.toNat)*1099511628211)
def Qk(h:Int)(s:za):Int:=s.foldl Hu h
def Ql(a b:za):Nat:=ZX (Qk (Qk (Qk 14695981039346656037 a) [47]) b)
theorem MY(a b:za):Ql a b<100000:=iq _
def Ug(a b:za):O:=int (Ql a b)
noncomputable abbrev Cbuk:Ctx:=zG prog [(57,zg false [] FSr)]
theorem pW(a b:za)(B:a.length<=zw)(C:b.length<=zw):zt Cbuk f34 [str a,str b]=some (Ug a b):=by
 unfold zw at B C;have N:=wo 1;have G:∀a b:Int,IntKind.u64.wrap (((a % 2 ^ IntKind.u64.bits).toNat ^^^ (b % 2 ^ IntKind.u64.bits).toNat:Nat):Int)=pT a b:=fun _ _=>rfl
 have I:∀(h:Int) (c:UInt8),IntKind.u64.wrap (pT h (IntKind.u64.wrap c.toNat)*1099511628211)=Hu h c:=fun _ _=>rfl
 obtain⟨L,r⟩:∃L:List za,L=[a,[47],b]:=⟨_,rfl⟩;obtain⟨E,t⟩:∃E:List zb,E=[[str a],[str [47]],[str b]]:=⟨_,rfl⟩;have J:E.length=3:=by rw[t];rfl
 have u:∀s∈L,s.length<=2097152:=fun s hs=>by
  rw[r]at hs;simp at hs;rcases hs with rfl|rfl|rfl
  ·exact B
  ·simp
  ·exact C
 refine zl rfl ?_;simp[zu,zX,zv];refine zP (fun k U Y Z=>U 11=.own 0 0 3/\U 12=int 3/\U 13=int k/\Y 0=some ⟨9,1,true,E⟩/\U 5=u64 ((L.take k).foldl Qk 14695981039346656037)) 3 ⟨by simp,by simp,by simp,by simp[t],by simp⟩ ?_;rintro k U Y Z P ⟨d,e,f,g,j⟩;by_cases l:k<3
 ·have m:(k:Int)<3:=by omega
  have K:=qz k;have n:k<L.length:=by rw[r];exact l
  obtain⟨s,hs⟩:=kC (L[k]);have M:=u s (by rw[<-hs];exact zm n);have v:k<E.length:=by omega
  have w:E[k]=[str s]:=by
   have x:k=0\/k=1\/k=2:=by omega
   subst r;subst t;rcases x with rfl|rfl|rfl<;>(simp at hs;simp[hs])
  obtain⟨H,D⟩:=kC ((L.take k).foldl Qk 14695981039346656037);have y:(L.take (k+1)).foldl Qk 14695981039346656037=Qk H s:=by rw[qo n,Bx,D,hs];rfl
  rw[D]at j;simp[d,e,f,j,g,l,m,v,w];refine zP (fun i U Y Z=>U 11=.own 0 0 3/\U 12=int 3/\U 13=int k/\Y 0=some ⟨9,1,true,E⟩/\U 7=str s/\U 18=int s.length/\U 19=int i/\U 5=u64 (Qk H (s.take i))) s.length ⟨by simp[d],by simp[e],by simp[f],by simp[g],by simp,by simp,by simp,by simp[j,Qk]⟩ ?_;clear d e f g j U Y Z;rintro i U Y Z Q ⟨d,e,f,g,F,o,p,j⟩;by_cases q:i<s.length
  ·have z:=qz i;have A:Qk H (s.take (i+1))=Hu (Qk H (s.take i)) s[i]:=by unfold Qk;rw[qo q,Bx];rfl
   simp[d,e,f,g,F,o,p,j,q,z,G,I];exact⟨by omega,by rw[A]⟩
  ·obtain rfl:i=s.length:=by omega
   rw[ja]at j;simp[d,e,f,g,F,o,p,j,K];exact⟨by omega,by rw[y]⟩
 ·obtain rfl:k=3:=by omega
  have x:=fun Y Z=>Ht (Qk (Qk (Qk 14695981039346656037 a) [47]) b) Y Z
  subst r;simp at j;simp[d,e,f,j,x,Ug,Ql,f34]
theorem VT:zf prog 34 (zg false [] (xR Ug fun _ _=>True)):=
 yt (fn:=f34) (zM mixed ⟨mj,trivial⟩:AM.Good Cbuk _) (qW func34) false [] _ fun args r h=>by obtain⟨a,b,rfl,c,d,_,rfl⟩:=jB h;exact⟨by simp[f34],_,pW a b c d,qa _⟩
theorem mm(a b:za)(Y:Hp)(Z:Nat)(h:a.length<=zw)(c:b.length<=zw):zg false [] (xR Ug fun _ _=>True) [str a,str b] Y Z=some (int (Ql a b),Y,Z):=jL _ _ a b Y Z h c trivial rfl
def leP(p:Option za)(s:za):Bool:=match p with
 |none=>false
 |some q=>fC s q
noncomputable def KU (L:List yq):Option za->List za->Int
 |_,[]=>0
 |p,s::l=>if(kD (L.map yq.name) s).2=true then(if leP p s=true then 8 else KU L (some s) l)else 9
noncomputable def aH (L:List yq) (x:Z5):Int:=if vG x.buckets 1 100000=true then(if x.zq.length=0 then 9 else KU L none x.zq)else 1
noncomputable def vi (L:List yq):za->List za->List Z5->Int×List za
 |_,l,[]=>(0,l)
 |before,l,x::xs=>if jx x.name before=0 then(if vA l x.w5=0 then(if aH L x=0 then vi L x.name (j9 l x.w5) xs else(aH L x,j9 l x.w5))else(vA l x.w5,j9 l x.w5))else(jx x.name before,l)
def aI(l:List za)(k:Nat):Option za:=if k=0 then none else l[k-1]?
noncomputable abbrev Hv:Ctx:=zG prog [(83,zg false [] (Dr fun a b=>int (jx a b))),(84,qq ux f84),(25,zg false [] (F3 vG)),(85,zg false [] Dv)]
theorem MZ:Gd Hv:=zM mixed ⟨vQ,Yp,vK,JP,trivial⟩
theorem aJ:zf prog 49 (qq Hv f49):=w8 MZ func49
theorem ir(b:Bk)(l:List za)(hb:b.cb<=zw)(I:Bool)(Q:Hp)(Z0 id m g:Nat)(hid:id<Z0)(hmd:m<Z0)(X:id≠m)(L:Q id=some (xa b m g I))(hm0:Q m=some (jE l)) :
  ∃x Y' Z',qq Hv f49 [.ref id 0 0] Q Z0=some (x,Y',Z')/\jD (int (vi b.zq [] l b.holds).1) (vi b.zq [] l b.holds).2 m Q Z0 x Y' Z':=by
 unfold qq;rw[ze (by simp[f49])];refine zY rfl ?_;have hlen:=w9 bW b.holds;have SS:=w9 Yn b.zq;have SU:b.cb=yV yq.cb b.zq+yV Z5.cb b.holds+yV Xp.cb b.qA:=rfl;unfold zw at hb;have hc:=L;rw[jn]at hc;simp[hc];refine zP (fun k U Y Z=>U 0=.ref id 0 0/\U 16=.sl 4 (b.holds.map Z5.V)/\U 17=int b.holds.length/\U 18=int k/\Z0<=Z/\(∀j,j<Z0->j≠m->Y j=Q j)/\∃(d:za) (l':List za),U 3=str d/\Y m=some (jE l')/\vi b.zq [] l b.holds=vi b.zq d l' (b.holds.drop k)) b.holds.length
  ⟨by simp,by simp,by simp,by simp,zi _,fun _ _ _=>rfl,[],l,by simp,hm0,by simp⟩ ?_
 rintro k U Y Z hk ⟨y,e,n,o,hnx,c,d,l',R,H,r⟩;by_cases v:k<b.holds.length
 ·obtain⟨x,M⟩:=kC (b.holds[k]);have SV:=jf (f:=Z5.cb) (zm v);rw[M]at SV;have Pc:x.cb=1+x.name.length+x.w5.length+yV (fun s=>1+s.length) x.zq:=rfl;have EA:=w9 (f:=fun s:List UInt8=>1+s.length) (fun _=>by omega) x.zq;rw[zd v,M]at r;simp only[vi]at r;have hw:=qz k;have B:=fun Y Z=>JN (fun a b=>int (jx a b)) x.name d Y Z (by unfold zw;omega) (by simp)
  have nm:¬m=Z:=by omega
  have ni:¬id=Z:=by omega
  have t:ql Y Z (some ⟨132,4,false,[x.V]⟩) id=some (xa b m g I):=by rw[zk _ _ _ _ ni,c id hid X];exact L
  have hmi:ql Y Z (some ⟨132,4,false,[x.V]⟩) m=some (jE l'):=by rw[zk _ _ _ _ nm];exact H
  have C:=VR b l' x.w5 (by unfold zw;omega) I _ (Z+1) id m g t hmi;simp only[Z5.V]at C;have z:¬Z=m:=by omega
  by_cases N:jx x.name d=0
  case neg=>rw[zj N]at r;have SX:=xE N;simp[y,R,e,n,o,v,M,Z5.V,B,SX,f49,jD,r];exact⟨by omega,by rw[zk _ _ _ _ nm];exact H,fun j A p=>by rw[zk _ _ _ _ (by omega)];exact c j A p⟩
  rw[ze N]at r;by_cases S:vA l' x.w5=0
  case neg=>rw[zj S]at r;have c2':=xE S;simp[y,R,e,n,o,v,M,Z5.V,B,N,C,c2',f49,jD,r];exact⟨by omega,fun j A p=>by rw[zk _ _ _ _ p,zk _ _ _ _ (by omega)];exact c j A p⟩
  rw[ze S]at r;cases T:vG x.buckets 1 100000
  ·have hf:aH b.zq x=1:=by unfold aH;rw[T,zj (by simp)]
   rw[hf,zj (by decide)]at r;simp[y,R,e,n,o,v,M,Z5.V,B,N,C,S,T,z,f49,jD,r];exact⟨by omega,fun j A p=>by rw[zk _ _ _ _ p,zk _ _ _ _ (by omega)];exact c j A p⟩
  by_cases c4:x.zq.length=0
  ·have hf:aH b.zq x=9:=by unfold aH;rw[T,ze rfl,ze c4]
   rw[hf,zj (by decide)]at r;have u:(zZ x.zq).length=0:=by simpa[zZ]using c4
   simp[y,R,e,n,o,v,M,Z5.V,u,B,N,C,S,T,z,f49,jD,r];exact⟨by omega,fun j A p=>by rw[zk _ _ _ _ p,zk _ _ _ _ (by omega)];exact c j A p⟩
  have hf:aH b.zq x=KU b.zq none x.zq:=by unfold aH;rw[T,ze rfl,zj c4]
  rw[hf]at r;have c4':((x.zq.length:Int)==0)=false:=by rw[yC];omega
  have u:(zZ x.zq).length=x.zq.length:=by simp[zZ]
  simp[y,R,e,n,o,v,M,Z5.V,u,B,N,C,S,T,c4',z];obtain⟨P,hP⟩:=kC Z;rw[hP];refine zP (fun i U Y Z=>U 0=.ref id 0 0/\U 16=.sl 4 (b.holds.map Z5.V)/\U 17=int b.holds.length/\U 18=int k/\U 5=.ref P 0 0/\U 47=.sl 1 (zZ x.zq)/\U 48=int x.zq.length/\U 49=int i/\Z0<=P/\P<Z/\Y P=some ⟨132,4,false,[x.V]⟩/\(∀j,j<Z0->j≠m->Y j=Q j)/\Y m=some (jE (j9 l' x.w5))/\KU b.zq none x.zq=KU b.zq (aI x.zq i) (x.zq.drop i)) x.zq.length
   ⟨by simp[y],by simp[e],by simp[n],by simp[o],by simp,by simp,by simp,by simp,by omega,(by show P<P+1;omega),by simp[Z5.V,show¬P=m by omega],fun j A p=>by simp only;rw[zk _ _ _ _ p,zk _ _ _ _ (by omega)];exact c j A p,by simp,by simp[aI]⟩ ?_
  clear y R e n o hnx c H C t hmi B nm ni z hP U Y Z;rintro i U Y Z hi ⟨y,e,n,o,h5,E,F,G,hP,Uq,D,c,H,w⟩;have t:Y id=some (xa b m g I):=by rw[c id hid X];exact L
  rw[jn]at t;by_cases q:i<x.zq.length
  ·obtain⟨s,hs⟩:=kC (x.zq[i]);have hms:=jf (f:=fun s:List UInt8=>1+s.length) (zm q);rw[hs]at hms;have hpn:aI x.zq (i+1)=some s:=by simp[aI,q,hs]
   rw[zd q,hs]at w;simp only[KU]at w;have J:∀h:i<(zZ x.zq).length,(zZ x.zq)[i]=[str s]:=fun h=>by simp[zZ,hs]
   have K:=fun Y Z=>JO b.zq s Y Z (by unfold zw;omega)
   have hwi:=qz i;have u:i<(zZ x.zq).length:=by simp[zZ,q]
   cases W:(kD (b.zq.map yq.name) s).2
   ·rw[W,zj (by simp)]at w;rw[w,zj (by decide)]at r;simp[y,h5,e,n,o,E,F,G,q,u,J,t,K,W,r,f49,jD];exact⟨by omega,H,c⟩
   rw[W,ze rfl]at w;by_cases k0:i=0
   ·subst k0;rw[show leP (aI x.zq 0) s=false from rfl,zj (by simp)]at w;simp[y,h5,e,n,o,E,F,G,q,u,J,t,K,W,hwi];exact⟨by omega,hP,Uq,D,c,H,by rw[w,show aI x.zq 1=some s from hpn];simp⟩
   ·obtain⟨j,rfl⟩:∃j,i=j+1:=⟨i-1,by omega⟩;have A:j<x.zq.length:=by omega
    have hej:j<(zZ x.zq).length:=by simp[zZ,A]
    have hkj:∀h:j<(zZ x.zq).length,(zZ x.zq)[j]=[str x.zq[j]]:=fun h=>by simp[zZ]
    have wj:i6.wrap ((j:Int)+1-1)=(j:Int):=by rw[qE (by omega) (by omega)];omega
    have wj':=wo (j:Int);have wk:=wo ((j:Int)+1+1);have j1:((j:Int)+1).toNat=j+1:=by omega
    have j2:0<(j:Int)+1:=by omega
    have j3:0<=(j:Int)+1:=by omega
    have j4:(j:Int)+1<x.zq.length:=by omega
    have hlp:leP (aI x.zq (j+1)) s=fC s x.zq[j]:=by simp[aI,A,leP]
    rw[hlp]at w;have hle:(Op.bytesLess s x.zq[j]||s==x.zq[j])=fC s x.zq[j]:=rfl;rw[Z5.V]at D;cases d2:fC s x.zq[j]
    ·rw[d2,zj (by simp)]at w;simp[y,h5,e,n,o,E,F,G,q,u,J,t,K,W,wj,wj',wk,j1,j2,j3,j4,D,hej,hkj,hle,d2,A];exact⟨by omega,hP,Uq,rfl,c,H,by rw[w,hpn]⟩
    ·rw[d2,ze rfl]at w;rw[w,zj (by decide)]at r;simp[y,h5,e,n,o,E,F,G,q,u,J,t,K,W,wj,wj',wk,j1,j2,j3,j4,D,hej,hkj,hle,d2,A,r,f49,jD];exact⟨by omega,H,c⟩
  ·obtain rfl:i=x.zq.length:=by omega
   rw[zp]at w;simp only[KU]at w;rw[w,ze rfl]at r;have hnP:¬P=m:=by omega
   rw[Z5.V]at D;simp[y,h5,e,n,o,E,F,G,D,hw];exact⟨by omega,by omega,c,_,H,r⟩
 ·obtain rfl:k=b.holds.length:=by omega
  rw[zp]at r;simp only[vi]at r;simp[y,e,n,o,f49,jD,r];exact⟨hnx,H,c⟩
noncomputable abbrev M1:Ctx:=zG prog []
theorem M3:AM.Good M1 (fun g=>[60].contains g):=qc mixed trivial
theorem pX:zf prog 86 (qq M1 f86):=w8 M3 func86
theorem DG(b:Bk)(c:qT)(Y:Hp)(Z id m g:Nat)(hid:id<Z)(a:Y id=some (xa b m g true)) :
  ∃d,qq M1 f86 [.ref id 0 0,.agg c.V] Y Z=some (qO true,d,Z+2)/\∀j,j<Z->d j=Y j:=by
 unfold qq;rw[ze (by simp[f86])];refine⟨ql (ql Y Z (some ⟨88,1,false,[[.ref id 0 0]]⟩)) (Z+1) (some ⟨66,7,false,[c.V]⟩),?_,fun j f=>by rw[zk _ _ _ _ (by omega),zk _ _ _ _ (by omega)]⟩;refine wx rfl ?_;rw[jn]at a;have n1:¬id=Z:=by omega
 have e:¬id=Z+1:=by omega
 simp[wY,a,n1,e,f86]
noncomputable def ZE (L:List yq) (a:za) (l:List za) (x:Xp):Int×List za:=
 if jx x.name a=0 then(if(kD (L.map yq.name) x.yp).2=true then(if qK x.flag=true then(if x.cond.check=0 then(if vA l x.w5=0 then(if yw x.vy 20=0 then(yI x.zJ,j9 l x.w5)else(yw x.vy 20,j9 l x.w5))else(vA l x.w5,j9 l x.w5))else(x.cond.check,l))else(5,l))else(9,l))else(jx x.name a,l)
noncomputable abbrev M4:Ctx:=zG prog [(83,zg false [] (Dr fun a b=>int (jx a b))),(85,zg false [] Dv),(30,zg false [] (FS qK)),(79,GC fun c=>int c.check),(86,qq M1 f86),(84,qq ux f84),(87,zg false [] (Ub (fun l n=>int (yw l n)) fun _ n=>1<=n/\n<=20)),(88,zg false [] (FPh fun l=>int (yI l)))]
theorem M5:AM.Good M4 (fun g=>[85].contains g):=qc mixed ⟨vQ,by simp,JP,fun _=>zr _ _,jK,by simp,Yj,by simp,pX,by simp,Yp,by simp,QN,by simp,VQ,by simp,trivial⟩
theorem X0:zf prog 50 (qq M4 f50):=w8 M5 func50
theorem eK(b:Bk)(l:List za)(d:za)(x:Xp)(hb:b.cb<=zw)(K:x.cb<=zw)(F:Hp)(Z0 id m g:Nat)(hid:id<Z0)(hmd:m<Z0)(hne:id≠m)(B:F id=some (xa b m g true))(p:F m=some (jE l)) :
  ∃T W Z',qq M4 f50 [.ref id 0 0,.agg x.V,str d] F Z0=some (T,W,Z')/\jD (int (ZE b.zq d l x).1) (ZE b.zq d l x).2 m F Z0 T W Z':=by
 unfold qq;rw[ze (by simp[f50])];refine zY rfl ?_;have X:=w9 Yn b.zq;have SU:b.cb=yV yq.cb b.zq+yV Z5.cb b.holds+yV Xp.cb b.qA:=rfl;have Pc:x.cb=x.name.length+x.yp.length+x.flag.length+x.cond.cb+x.w5.length+x.vy.length+yV y0.cb x.zJ:=rfl;unfold zw at hb K;have H:¬m=Z0:=by omega
 have y:¬id=Z0:=by omega
 have f:=fun Y Z=>JN (fun a b=>int (jx a b)) x.name d Y Z (by unfold zw;omega) (by simp)
 have i:=fun Y Z=>JO b.zq x.yp Y Z (by unfold zw;omega)
 have q:x.flag.length<=zw:=by unfold zw;omega
 have r:=fun Y Z=>JI (fun c=>int c.check) x.cond Y Z (by unfold zw;omega)
 have I:=fun Y Z=>ez (fun l n=>int (yw l n)) (fun _ n=>1<=n/\n<=20) x.vy 20 Y Z ⟨by omega,by omega⟩
 have L:=fun Y Z=>pI (fun l=>int (yI l)) x.zJ Y Z (by unfold zw;omega)
 obtain⟨Y1,s,v⟩:=DG b x.cond (ql F Z0 (some ⟨70,13,false,[x.V]⟩)) (Z0+1) id m g (by omega) (by rw[zk _ _ _ _ y];exact B);have M:Y1 id=some (xa b m g true):=by rw[v id (by omega),zk _ _ _ _ y];exact B
 have N:Y1 m=some (jE l):=by rw[v m (by omega),zk _ _ _ _ H];exact p
 have w:Y1 Z0=some ⟨70,13,false,[x.V]⟩:=by rw[v Z0 (by omega)];simp
 have C:∀j,j<Z0->Y1 j=F j:=fun j t=>by rw[v j (by omega),zk _ _ _ _ (by omega)]
 have D:=VR b l x.w5 (by unfold zw;omega) true Y1 (Z0+1+2) id m g M N;have z:¬Z0=m:=by omega
 have E:=B;rw[jn]at E;rw[qL]at s w;rw[wY]at s;simp only[wY]at r;rw[qL];by_cases h:jx x.name d=0
 case neg=>
  have k:ZE b.zq d l x=(jx x.name d,l):=by unfold ZE;rw[zj h]
  have P:=xE h;simp[f,P,k,f50,jD];exact⟨by rw[zk _ _ _ _ H];exact p,fun j t e=>by rw[zk _ _ _ _ (by omega)]⟩
 cases o:(kD (b.zq.map yq.name) x.yp).2
 ·have k:ZE b.zq d l x=(9,l):=by unfold ZE;rw[ze h,o,zj (by simp)]
  simp[f,h,y,E,i,o,k,f50,jD];exact⟨by rw[zk _ _ _ _ H];exact p,fun j t e=>by rw[zk _ _ _ _ (by omega)]⟩
 cases u:qK x.flag
 ·have k:ZE b.zq d l x=(5,l):=by unfold ZE;rw[ze h,o,ze rfl,u,zj (by simp)]
  simp[f,h,y,E,i,o,q,u,k,f50,jD];exact⟨by rw[zk _ _ _ _ H];exact p,fun j t e=>by rw[zk _ _ _ _ (by omega)]⟩
 by_cases A:x.cond.check=0
 case neg=>
  have k:ZE b.zq d l x=(x.cond.check,l):=by unfold ZE;rw[ze h,o,ze rfl,u,ze rfl,zj A]
  have Q:=xE A;simp[f,h,y,E,i,o,q,u,r,Q,k,f50,jD];exact⟨by rw[zk _ _ _ _ H];exact p,fun j t e=>by rw[zk _ _ _ _ (by omega)]⟩
 by_cases G:vA l x.w5=0
 case neg=>
  have k:ZE b.zq d l x=(vA l x.w5,j9 l x.w5):=by unfold ZE;rw[ze h,o,ze rfl,u,ze rfl,ze A,zj G]
  have R:=xE G;simp[f,h,y,E,i,o,q,u,r,A,s,w,D,R,k,f50,jD];exact⟨by omega,fun j t e=>by rw[zk _ _ _ _ e];exact C j t⟩
 by_cases J:yw x.vy 20=0
 case neg=>
  have k:ZE b.zq d l x=(yw x.vy 20,j9 l x.w5):=by unfold ZE;rw[ze h,o,ze rfl,u,ze rfl,ze A,ze G,zj J]
  have S:=xE J;simp[f,h,y,E,i,o,q,u,r,A,s,w,z,D,G,I,S,k,f50,jD];exact⟨by omega,fun j t e=>by rw[zk _ _ _ _ e];exact C j t⟩
 ·have k:ZE b.zq d l x=(yI x.zJ,j9 l x.w5):=by unfold ZE;rw[ze h,o,ze rfl,u,ze rfl,ze A,ze G,ze J]
  simp[f,h,y,E,i,o,q,u,r,A,s,w,z,D,G,I,J,L,k,f50,jD];exact⟨by omega,fun j t e=>by rw[zk _ _ _ _ e];exact C j t⟩
def Zq(x:Xp):jV:=⟨70,13,false,[x.V]⟩
def DH(n:Int):jV:=⟨3,1,false,[[int n]]⟩
def bw(x:Xp)(a:Int)(y:Xp):Bool:=decide (y.yp=x.yp)&&Jo x y a
noncomputable abbrev M6:Ctx:=zG prog [(91,zg false [] uv)]
theorem M7:AM.Good M6 (fun g=>[91].contains g):=qc mixed ⟨pQ,fun _=>zr _ _,trivial⟩
theorem uD:zf prog 90 (qq M6 f90):=w8 M7 func90
theorem Hw(x y:Xp)(rest:Int)(i:x.Ep)(j:y.Ep)(g:0<=rest/\rest<=100000000)(Y:Hp)(Z b c:Nat)(k:b<Z)(l:c<Z)(bx:Y b=some (Zq x))(e:Y c=some (DH rest)) :
  qq M6 f90 [.agg y.V,.ref b 0 0,.ref c 0 0] Y Z=some (qO (bw x rest y),ql Y Z (some (Zq y)),Z+1):=by
 unfold qq;rw[ze (by simp[f90])];refine wx rfl ?_;have n1:¬b=Z:=by omega
 have h:¬c=Z:=by omega
 have a:=fun Y Z=>pN x y rest Y Z ⟨i,j,g.1,g.2⟩
 rw[Zq,qL]at bx;rw[DH]at e;simp only[qL]at a;by_cases d:y.yp=x.yp
 ·have hd:(y.yp==x.yp)=true:=by simpa using d
  have f:bw x rest y=Jo x y rest:=by simp[bw,d]
  simp[qL,Zq,n1,h,bx,e,hd,a,f,f90]
 ·have hd:=jr d;have f:bw x rest y=false:=by simp[bw,d]
  simp[qL,Zq,n1,h,bx,e,hd,f,f90]
def X1(x:Xp)(a:Int):Nat->List Xp->Int
 |_,[]=>-1
 |k,y::l=>if bw x a y=true then k else X1 x a (k+1) l
theorem pY(x:Xp)(a:Int):∀(l:List Xp) (k:Nat),decide (0<=X1 x a k l)=l.any (bw x a)
 |[],k=>by simp[X1]
 |s::l,k=>by
  by_cases h:bw x a s=true
  ·have e:X1 x a k (s::l)=k:=by simp only[X1,ze h]
   rw[e,xF,h];simp
  ·have e:X1 x a k (s::l)=X1 x a (k+1) l:=by simp only[X1,zj h]
   rw[e,pY x a l (k+1),xF,Bool.eq_false_iff.2 h];rfl
noncomputable abbrev M8:Ctx:=zG prog [(90,qq M6 f90)]
theorem M9:Gd M8:=zM mixed ⟨uD,trivial⟩
theorem DI:zf prog 142 (qq M8 f142):=w8 M9 func142
def La(a b:Nat):O:=.fn (.func 90) [] [.ref a 0 0,.ref b 0 0]
def iu(r:O)(Y:Hp)(Z:Nat)(x:O)(a:Hp)(Z':Nat):Prop:=x=r/\Z<=Z'/\∀j,j<Z->a j=Y j
theorem Na(l:List Xp)(x:Xp)(a:Int)(z:l.length<=zw)(hs:∀s∈l,s.Ep)(A:x.Ep)(B:0<=a/\a<=100000000)(h:Hp)(Z0 f g:Nat)(m:f<Z0)(n:g<Z0)(bx:h f=some (Zq x))(C:h g=some (DH a)) :
  ∃v w Z',qq M8 f142 [.sl 13 (l.map Xp.V),La f g] h Z0=some (v,w,Z')/\iu (int (X1 x a 0 l)) h Z0 v w Z':=by
 unfold qq;rw[ze (by simp[f142])];refine zY rfl ?_;unfold zw at z;simp[La];refine zP (fun k U Y Z=>U 0=.sl 13 (l.map Xp.V)/\U 1=La f g/\U 7=int l.length/\U 8=int k/\Z0<=Z/\(∀j,j<Z0->Y j=h j)/\X1 x a 0 l=X1 x a k (l.drop k)) l.length ⟨by simp,by simp[La],by simp,by simp,zi _,fun _ _=>rfl,by simp⟩ ?_;rintro k U Y Z D ⟨o,p,q,r,t,c,e⟩;by_cases d:k<l.length
 ·have y:=qz k;have b:=Hw x l[k] a A (hs _ (zm d)) B Y Z f g (by omega) (by omega) (by rw[c f m];exact bx) (by rw[c g n];exact C);simp only[qL]at b;rw[zd d]at e;simp only[X1]at e;cases i:bw x a l[k]
  ·rw[i,zj (by simp)]at e;rw[i]at b;simp[o,p,q,r,La,d,qL,b,y];exact⟨d,by omega,fun j u=>by rw[zk _ _ _ _ (by omega)];exact c j u,e⟩
  ·rw[i,ze rfl]at e;rw[i]at b;simp[o,p,q,r,La,d,qL,b,y,f142];exact⟨by rw[e],by omega,fun j u=>by rw[zk _ _ _ _ (by omega)];exact c j u⟩
 ·obtain rfl:k=l.length:=by omega
  rw[zp]at e;simp only[X1]at e;simp[o,p,q,r,f142];exact⟨by rw[e],t,c⟩
noncomputable abbrev Nb:Ctx:=zG prog [(142,qq M8 f142)]
theorem Nc:Gd Nb:=zM mixed ⟨DI,trivial⟩
theorem DJ:zf prog 89 (qq Nb f89):=w8 Nc func89
theorem Nd(l:List Xp)(x:Xp)(a:Int)(j:l.length<=zw)(hs:∀s∈l,s.Ep)(k:x.Ep)(m:0<=a/\a<=100000000)(b:Hp)(Z0 c d:Nat)(e:c<Z0)(f:d<Z0)(bx:b c=some (Zq x))(n:b d=some (DH a)) :
  ∃g h Z',qq Nb f89 [.sl 13 (l.map Xp.V),La c d] b Z0=some (g,h,Z')/\iu (qO (l.any (bw x a))) b Z0 g h Z':=by
 unfold qq;rw[ze (by simp[f89])];refine zY rfl ?_;obtain⟨g,h,Z',i,o,p,q⟩:=Na l x a j hs k m b Z0 c d e f bx n;subst o;have r:=pY x a l 0;simp only[La]at i;simp[La,i,r,iu,p,f89];exact q
theorem slX(Y:Hp)(l:List Xp)(k:Nat)(h:k<=l.length):yX prog Y 25 (.sl 13 (l.map Xp.V)) none (some (some (int k)))=some (.sl 13 ((l.take k).map Xp.V)):=by simp[yX,h]
noncomputable def uE (L:List yq) (s:za):Int:=match L[(kD (L.map yq.name) s).1]? with
 |some y=>y.rest
 |none=>0
noncomputable def KV (L:List yq) (a:List Xp):Nat->List Xp->Bool
 |_,[]=>false
 |i,x::l=>(a.take i).any (bw x (uE L x.yp))||KV L a (i+1) l
noncomputable abbrev Hy:Ctx:=zG prog [(85,zg false [] Dv),(89,qq Nb f89)]
theorem Nf:AM.Good Hy (fun g=>[85].contains g):=qc mixed ⟨JP,fun _=>zr _ _,DJ,by simp,trivial⟩
theorem Kp:zf prog 51 (qq Hy f51):=w8 Nf func51
theorem aK(b:Bk)(W:b.cb<=zw)(hs:∀x∈b.qA,x.Ep/\(kD (b.zq.map yq.name) x.yp).2=true)(X:∀y∈b.zq,0<=y.rest/\y.rest<=100000000)(r:Bool)(t:Hp)(Z0 id m g:Nat)(hid:id<Z0)(u:t id=some (xa b m g r)) :
  ∃H C Z',qq Hy f51 [.ref id 0 0] t Z0=some (H,C,Z')/\iu (qO (KV b.zq b.qA 0 b.qA)) t Z0 H C Z':=by
 unfold qq;rw[ze (by simp[f51])];refine zY rfl ?_;have P:=w9 me b.qA;have Q:=w9 Yn b.zq;have SU:b.cb=yV yq.cb b.zq+yV Z5.cb b.holds+yV Xp.cb b.qA:=rfl;unfold zw at W;have R:=u;rw[jn]at R;simp[R];refine zP (fun k U Y Z=>U 0=.ref id 0 0/\U 12=.sl 13 (b.qA.map Xp.V)/\U 13=int b.qA.length/\U 14=int k/\Z0<=Z/\(∀j,j<Z0->Y j=t j)/\KV b.zq b.qA 0 b.qA=KV b.zq b.qA k (b.qA.drop k)) b.qA.length
  ⟨by simp,by simp,by simp,by simp,zi _,fun _ _=>rfl,by simp⟩ ?_
 rintro k U Y Z hk ⟨I,h,i,l,J,n,a⟩;by_cases c:k<b.qA.length
 ·obtain⟨x,D⟩:=kC (b.qA[k]);have v:x∈b.qA:=by rw[<-D];exact zm c
  obtain⟨K,L⟩:=hs x v;have SV:=jf (f:=Xp.cb) v;have Pc:x.cb=x.name.length+x.yp.length+x.flag.length+x.cond.cb+x.w5.length+x.vy.length+yV y0.cb x.zJ:=rfl;rw[zd c,D]at a;simp only[KV]at a;have S:=qz k;have w:=fun Y Z=>JO b.zq x.yp Y Z (by unfold zw;omega)
  obtain⟨q,E⟩:=kC ((kD (b.zq.map yq.name) x.yp).1);have d:q<b.zq.length:=by have:=tP L;rw[E]at this;simpa using this
  obtain⟨y,F⟩:=kC (b.zq[q]);have M:=X y (by rw[<-F];exact zm d);have o:uE b.zq x.yp=y.rest:=by unfold uE;rw[E,zn d,F]
  rw[o]at a;have T:¬id=Z:=by omega
  have z:¬id=Z+1:=by omega
  have p:Y id=some (xa b m g r):=by rw[n id hid];exact u
  rw[jn]at p;obtain⟨H,C,Z',A,h2,h3,h4⟩:=Nd (b.qA.take k) x y.rest (by unfold zw;simp;omega) (fun s N=>(hs s (List.mem_of_mem_take N)).1) K M (ql (ql Y Z (some (Zq x))) (Z+1) (some (DH y.rest))) (Z+1+1) Z (Z+1) (by omega) (by omega) (by rw[zk _ _ _ _ (by omega)];simp) (by simp);subst h2;simp only[La,Zq,DH,qL,List.map_take]at A;have e:∀j,j<Z0->C j=t j:=fun j hj=>by rw[h4 j (by omega),zk _ _ _ _ (by omega),zk _ _ _ _ (by omega)];exact n j hj
  have B:=fun Y=>slX Y b.qA k (by omega)
  cases G:(b.qA.take k).any (bw x y.rest)
  ·rw[G,Bool.false_or]at a;rw[G]at A;simp[I,h,i,l,c,D,qL,T,z,p,w,E,d,F,yq.V,B,A,S];exact⟨by omega,by omega,e,a⟩
  ·rw[G,Bool.true_or]at a;rw[G]at A;simp[I,h,i,l,c,D,qL,T,z,p,w,E,d,F,yq.V,B,A,S,f51,iu,a];exact⟨by omega,e⟩
 ·obtain rfl:k=b.qA.length:=by omega
  rw[zp]at a;simp only[KV]at a;simp[I,h,i,l,f51,iu,a];exact⟨J,n⟩
noncomputable def xI (L:List yq):za->List za->List Xp->Int×List za
 |_,l,[]=>(0,l)
 |before,l,x::xs=>if(ZE L before l x).1=0 then xI L x.name (ZE L before l x).2 xs else ZE L before l x
noncomputable def wK (b:Bk):Int:=
 if(20:Int)<b.zq.length\/(10:Int)<b.holds.length\/(100:Int)<b.qA.length then 2
 else if(ye [] [] b.zq).1=0 then
  (if(vi b.zq [] (ye [] [] b.zq).2 b.holds).1=0 then
   (if(xI b.zq [] (vi b.zq [] (ye [] [] b.zq).2 b.holds).2 b.qA).1=0 then(if KV b.zq b.qA 0 b.qA=true then 13 else 0)
    else(xI b.zq [] (vi b.zq [] (ye [] [] b.zq).2 b.holds).2 b.qA).1)
   else(vi b.zq [] (ye [] [] b.zq).2 b.holds).1)
 else(ye [] [] b.zq).1
theorem mn(n lo hi:Int):vG n lo hi=true↔lo<=n/\n<=hi:=by simp[vG]
theorem JQ:∀{xs:List yq} {a:za} {l:List za},(ye a l xs).1=0->∀y∈xs,0<=y.rest/\y.rest<=100000000
 |[],_,_,_,y,b=>by simp at b
 |x::xs,a,l,h,y,b=>by
  simp only[ye]at h;split at h
  ·split at h
   ·split at h
    ·rename_i d;rcases zC.1 b with rfl|b
     ·exact(mn _ _ _).1 d
     ·exact JQ h y b
    ·exact absurd h (by simp)
   ·rename_i c;exact absurd h c
  ·rename_i c;exact absurd h c
theorem Hz:∀{xs:List y0} {p:Option Int} {b:List Sp},uq p b xs=0->bX xs
 |[],_,_,_,y,a=>by simp at a
 |x::xs,p,b,h,y,a=>by
  simp only[uq]at h;split at h
  ·rename_i d;split at h
   ·exact absurd h (by simp)
   ·split at h
    ·split at h
     ·exact absurd h (by simp)
     ·rcases zC.1 a with rfl|a
      ·exact(mn _ _ _).1 d
      ·exact Hz h y a
    ·rename_i c;exact absurd h c
  ·exact absurd h (by simp)
theorem eL{l:List y0}(h:yI l=0):bX l:=by
 unfold yI at h;split at h
 ·exact absurd h (by simp)
 ·exact Hz h
theorem JR{L:List yq}{a:za}{l:List za}{x:Xp}(h:(ZE L a l x).1=0):yI x.zJ=0/\(kD (L.map yq.name) x.yp).2=true/\yw x.vy 20=0/\x.cond.check=0/\jx x.name a=0:=by
 unfold ZE at h;split at h
 ·rename_i b;split at h
  ·rename_i d;split at h
   ·split at h
    ·rename_i e;split at h
     ·split at h
      ·rename_i f;exact⟨h,d,f,e,b⟩
      ·rename_i c;exact absurd h c
     ·rename_i c;exact absurd h c
    ·rename_i c;exact absurd h c
   ·exact absurd h (by simp)
  ·exact absurd h (by simp)
 ·rename_i c;exact absurd h c
theorem bY{L:List yq}:∀{xs:List Xp} {a:za} {l:List za},(xI L a l xs).1=0->∀y∈xs,yI y.zJ=0/\(kD (L.map yq.name) y.yp).2=true
 |[],_,_,_,y,b=>by simp at b
 |x::xs,a,l,h,y,b=>by
  simp only[xI]at h;split at h
  ·rename_i c;rcases zC.1 b with rfl|b
   ·exact⟨(JR c).1,(JR c).2.1⟩
   ·exact bY h y b
  ·rename_i c;exact absurd h c
noncomputable abbrev Ng:Ctx:=zG prog [(48,qq Hq f48),(49,qq Hv f49),(50,qq M4 f50),(51,qq Hy f51)]
theorem Nh:Gd Ng:=zM mixed ⟨VS,aJ,X0,Kp,trivial⟩
theorem fZ:zf prog 28 (qq Ng f28):=w8 Nh func28
theorem DK(b:Bk)(hb:b.cb<=zw)(P:Hp)(Z0 id m g:Nat)(hid:id<Z0)(W:m<Z0)(d:id≠m)(u:P id=some (xa b m g true))(X:P m=some (jE [])) :
  ∃x1 Y' Z',qq Ng f28 [.ref id 0 0] P Z0=some (x1,Y',Z')/\x1=int (wK b):=by
 unfold qq;rw[ze (by simp[f28])];refine zY rfl ?_;have hlen:=w9 me b.qA;have SS:=w9 Yn b.zq;have hleH:=w9 bW b.holds;have SU:b.cb=yV yq.cb b.zq+yV Z5.cb b.holds+yV Xp.cb b.qA:=rfl;have l:=hb;unfold zw at hb;obtain⟨x1,Y1,Um,H,rfl,l3,l4,l5⟩:=eE b [] l true P Z0 id m g hid W d u X;have v:Y1 id=some (xa b m g true):=by rw[l5 id hid d];exact u
 obtain⟨I,w⟩:∃e,ye [] [] b.zq=e:=⟨_,rfl⟩;rw[w]at H l4;obtain⟨x2,Y2,Lg,Q,rfl,g3,g4,g5⟩:=ir b I.2 l true Y1 Um id m g (by omega) (by omega) d v l4;have y:Y2 id=some (xa b m g true):=by rw[g5 id (by omega) d];exact v
 obtain⟨E,J⟩:∃e,vi b.zq [] I.2 b.holds=e:=⟨_,rfl⟩;rw[J]at Q g4;obtain⟨e3,z⟩:∃e,xI b.zq [] E.2 b.qA=e:=⟨_,rfl⟩;have s:=u;rw[jn]at s;have i:=y;rw[jn]at i;by_cases A:(20:Int)<b.zq.length
 ·have h:wK b=2:=by unfold wK;rw[ze (.inl A)]
  simp[s,A,h,f28]
 by_cases F:(10:Int)<b.holds.length
 ·have h:wK b=2:=by unfold wK;rw[ze (.inr (.inl F))]
  simp[s,A,F,h,f28]
 by_cases K:(100:Int)<b.qA.length
 ·have h:wK b=2:=by unfold wK;rw[ze (.inr (.inr K))]
  simp[s,A,F,K,h,f28]
 have c:wK b=if I.1=0 then(if E.1=0 then(if e3.1=0 then(if KV b.zq b.qA 0 b.qA=true then 13 else 0)else e3.1)else E.1)else I.1:=by unfold wK;rw[zj (by omega),w,J,z]
 by_cases G:I.1=0
 case neg=>rw[zj G]at c;have SX:=xE G;simp[s,A,F,K,H,SX,c,f28]
 rw[ze G]at c;by_cases R:E.1=0
 case neg=>rw[zj R]at c;have c2':=xE R;simp[s,A,F,K,H,G,Q,c2',c,f28]
 rw[ze R]at c;simp[s,A,F,K,H,G,Q,R,i];refine zP (fun k U Y Z=>U 0=.ref id 0 0/\U 48=.sl 13 (b.qA.map Xp.V)/\U 49=int b.qA.length/\U 50=int k/\Z0<=Z/\Y id=some (xa b m g true)/\∃(a:za) (l':List za),U 5=str a/\Y m=some (jE l')/\e3=xI b.zq a l' (b.qA.drop k)) b.qA.length
  ⟨by simp,by simp,by simp,by simp,by simp;omega,y,[],E.2,by simp,g4,by simp[z]⟩ ?_
 clear H l3 l4 l5 v Q g3 g4 g5 y i s;rintro k U Y Z hk ⟨S,n,o,p,hnx,B,a,l',h5,hm,j⟩;by_cases q:k<b.qA.length
 ·obtain⟨x,T⟩:=kC (b.qA[k]);have SV:=jf (f:=Xp.cb) (zm q);rw[T]at SV;have nm:¬m=Z:=by omega
  have ni:¬id=Z:=by omega
  have hw:=qz k;rw[zd q,T]at j;simp only[xI]at j;obtain⟨x3,C,nx3,t,rfl,q3,q4,q5⟩:=eK b l' a x l (by unfold zw;omega) (ql Y Z (some (Zq x))) (Z+1) id m g (by omega) (by omega) d (by rw[zk _ _ _ _ ni];exact B) (by rw[zk _ _ _ _ nm];exact hm);have hc3:C id=some (xa b m g true):=by rw[q5 id (by omega) d,zk _ _ _ _ ni];exact B
  have L:C Z=some (Zq x):=by rw[q5 Z (by omega) (by omega)];simp
  simp only[Zq,qL]at t L;by_cases M:(ZE b.zq a l' x).1=0
  case neg=>
   rw[zj M]at j;have h:wK b=(ZE b.zq a l' x).1:=by rw[c,j,zj M]
   have d1':=xE M;simp[S,h5,n,o,p,q,T,qL,t,d1',h,f28]
  ·rw[ze M]at j;simp[S,h5,n,o,p,q,T,qL,t,M,L,hw];exact⟨by omega,by omega,hc3,_,q4,j⟩
 ·obtain rfl:k=b.qA.length:=by omega
  rw[zp]at j;simp only[xI]at j;have hz:(xI b.zq [] E.2 b.qA).1=0:=by rw[z,j]
  have hyr:=JQ (by rw[w];exact G);have N:=bY hz;obtain⟨x3,C,nx3,t,rfl,q3,q4⟩:=aK b l (fun x D=>⟨⟨eL (N x D).1,by have:=jf (f:=Xp.cb) D;unfold zw;omega⟩,(N x D).2⟩) hyr true Y Z id m g (by omega) B;have h:wK b=if KV b.zq b.qA 0 b.qA=true then 13 else 0:=by rw[c,j,ze rfl]
  cases r:KV b.zq b.qA 0 b.qA
  ·rw[r,zj (by simp)]at h;rw[r]at t;simp[S,n,o,p,t,h,f28]
  ·rw[r,ze rfl]at h;rw[r]at t;simp[S,n,o,p,t,h,f28]
theorem YI:zf prog 27 (qq C0 f27):=w8 y7 func27
theorem ga(b:Bk)(g:Hp)(Z0:Nat):∃f a Z',qq C0 f27 [.nil,.agg b.V] g Z0=some (f,a,Z')/\f=.ref (Z0+1+1+1) 0 0/\Z'=Z0+1+1+1+1/\a (Z0+1)=some (jE [])/\a (Z0+1+1+1)=some (xa b (Z0+1) (Z0+1+1) false):=by
 unfold qq;rw[ze (by simp[f27])];refine zY rfl ?_;simp[Bk.V,qg,qF];refine zP (fun k U Y Z=>U 14=int 0/\U 15=int k/\U 5=.ref (Z0+1+1+1) 0 0/\Z=Z0+1+1+1+1/\Y (Z0+1)=some (jE [])/\Y (Z0+1+1+1)=some (xa b (Z0+1) (Z0+1+1) false)) 0
  ⟨by simp,by simp,by simp,by simp,by simp[jE,bt],by simp[jn]⟩ ?_
 rintro k U Y Z l ⟨c,d,h,e,i,j⟩;obtain rfl:k=0:=by omega
 simp[c,d,h,e,f27];exact⟨i,j⟩
noncomputable def FBk (out:Bk->O):zb->Option O:=zS (α:=Bk) (fun b=>[.agg b.V]) (fun b=>b.cb<=zw) out
theorem HA(out:Bk->O)(b:Bk)(Y:Hp)(Z:Nat)(h:b.cb<=zw):zg false [] (FBk out) [.agg b.V] Y Z=some (out b,Y,Z):=
 Zc b _ _ (by simp[Bk.V]) (fun a b e=>by simp only[zc,zs,O.agg.injEq]at e;exact XX e) h (.inr (by simp[Bk.V]))
noncomputable abbrev Cxcb:Ctx:=zG prog [(27,qq C0 f27),(28,qq Ng f28)]
theorem Ni:Gd Cxcb:=zM mixed ⟨YI,fZ,trivial⟩
theorem HB(b:Bk)(h:b.cb<=zw):zt Cxcb f23 [.agg b.V]=some (int (wK b)):=by refine zl rfl ?_;obtain⟨i,Y1,e,a,rfl,rfl,f,c⟩:=ga b (ql (fun _=>none) 0 (some ⟨27,3,false,[b.V]⟩)) 1;obtain⟨j,Y2,g,d,rfl⟩:=DK b h (ql Y1 4 (some (xa b 2 3 true))) 5 4 2 3 (by omega) (by omega) (by omega) (by simp) (by rw[zk _ _ _ _ (by omega)];exact f);simp only[Bk.V]at a;rw[jn]at c d;simp[Bk.V,a,c,d,qU,f23]
theorem DL:zf prog 23 (zg false [] (FBk fun b=>int (wK b))):=
 kL Ni func23 false [] fun b a=>⟨by simp[f23],_,HB b a,qa _⟩
end Go.Q
namespace Go.AM
end Go.AM
namespace Go.Q
noncomputable def RV (out:Bk->za->Int->O):zb->Option O:=zS (α:=Bk×za×Int) (fun a=>[.agg a.1.V,str a.2.1,int a.2.2]) (fun a=>a.1.cb<=zw) (fun a=>out a.1 a.2.1 a.2.2)
theorem DM(Y:Hp)(b:Bk):qe Y (.agg b.V)=some (.agg b.V,Y):=by simp[Bk.V]
theorem HC(b:Bk):O.noOwn (.agg b.V)=true:=by simp[Bk.V]
theorem DN(out:Bk->za->Int->O)(b:Bk)(s:za)(n:Int)(Y:Hp)(Z:Nat)(h:b.cb<=zw):zg false [] (RV out) [.agg b.V,str s,int n] Y Z=some (out b s n,Y,Z):=
 Zc (b,s,n) _ _ (by simp only[zy,DM];rfl) (fun x y e=>by obtain⟨a,c,d⟩:=x;obtain⟨f,g,i⟩:=y;simp only[zc,zs,O.agg.injEq]at e;rw[XX e.1,qv e.2.1,zT e.2.2]) h (.inr (by simp only[wJ,HC];rfl))
def xb(a:List Sp)(n:Int):List y0->List Sp
 |[]=>a
 |p::l=>xb (if p.at_<=n then p.yk else a) n l
noncomputable def FXI (out:Xp->Int->O) (pre:Xp->Int->Prop):zb->Option O:=zS (α:=Xp×Int) (fun a=>[.agg a.1.V,int a.2]) (fun a=>pre a.1 a.2) (fun a=>out a.1 a.2)
theorem pZ(out:Xp->Int->O)(pre:Xp->Int->Prop)(x:Xp)(n:Int)(Y:Hp)(Z:Nat)(h:pre x n):zg false [] (FXI out pre) [.agg x.V,int n] Y Z=some (out x n,Y,Z):=
 Zc (x,n) _ _ (by simp only[zy,im];rfl) (fun x y e=>by obtain⟨a,b⟩:=x;obtain⟨c,d⟩:=y;simp only[zc,zs,O.agg.injEq]at e;rw[KS e.1,zT e.2]) h (.inr (by simp only[wJ,Ho];rfl))
theorem DO(x:Xp)(n:Int)(h:x.zJ.length<=zw):∃l,zt C0 f13 [.agg x.V,int n]=some l/\wu l (.sl 2 ((xb [] n x.zJ).map wc)):=by
 refine ZQ rfl ?_;unfold zw at h;rw[qL];simp;refine zP (fun k U Y Z=>U 1=int n/\U 9=.sl 2 (x.zJ.map y0.V)/\U 10=int x.zJ.length/\U 11=int k/\∃d,(U 5=.sl 2 (d.map wc)\/(U 5=.nil/\d=[]))/\xb [] n x.zJ=xb d n (x.zJ.drop k)) x.zJ.length
  ⟨by simp,by simp,by simp,by simp,[],.inr ⟨by simp,rfl⟩,by simp⟩ ?_
 rintro k U Y Z o ⟨f,g,a,b,d,hd,c⟩;by_cases e:k<x.zJ.length
 ·obtain⟨p,j⟩:=kC (x.zJ[k]);rw[zd e,j]at c;simp only[xb]at c;have m:=qz k;by_cases i:p.at_<=n
  ·rw[ze i]at c;simp[f,g,a,b,e,j,y0.V,i,m];exact⟨by omega,p.yk,rfl,c⟩
  ·rw[zj i]at c;simp[f,g,a,b,e,j,y0.V,i,m];exact⟨by omega,d,hd,c⟩
 ·obtain rfl:k=x.zJ.length:=by omega
  rw[zp]at c;simp only[xb]at c;rw[c];rcases hd with hd|⟨hd,rfl⟩
  ·simp[f,g,a,b,hd,f13];exact⟨_,by simp,.refl _⟩
  ·simp[f,g,a,b,hd,f13];exact⟨_,by simp,.BB (.inl ⟨rfl,rfl⟩)⟩
theorem eM:zf prog 13 (zg false [] (FXI (fun x n=>.sl 2 ((xb [] n x.zJ).map wc)) fun x _=>x.zJ.length<=zw)):=
 YF (fn:=f13) y7 (qW func13) false [] _ fun args r h w S vs a=>by obtain⟨⟨x,n⟩,rfl,b,rfl⟩:=qd h;obtain⟨c,d,e⟩:=DO x n b;exact⟨_,c,a,by simp[f13],d,e⟩
def JY(v:za):Nat->List za->Int
 |_,[]=>-1
 |k,s::l=>if v=s then k else JY v (k+1) l
theorem ra(v:za):∀(l:List za) (k:Nat),decide (0<=JY v k l)=decide (v∈l)
 |[],k=>by simp[JY]
 |s::l,k=>by
  by_cases h:v=s
  ·have e:JY v k (s::l)=k:=by simp only[JY,ze h]
   rw[e];simp[h]
  ·have e:JY v k (s::l)=JY v (k+1) l:=by simp only[JY,zj h]
   rw[e,ra v l (k+1)];simp[h]
noncomputable def FTS (out:List za->za->O):zb->Option O:=zS (α:=List za×za) (fun a=>[.sl 1 (zZ a.1),str a.2]) (fun a=>a.1.length<=zw) (fun a=>out a.1 a.2)
theorem RW:∀a b:List za×za,[O.sl 1 (zZ a.1),str a.2]=[O.sl 1 (zZ b.1),str b.2]->a=b:=by rintro⟨f,g⟩ ⟨h,i⟩ e;simp only[zc,zs]at e;obtain⟨c,d⟩:=e;injection c with _ c;rw[jd c,qv d]
theorem rb(out:List za->za->O)(l:List za)(v:za)(Y:Hp)(Z:Nat)(h:l.length<=zw):zg false [1] (FTS out) [.sl 1 (zZ l),str v] Y Z=some (out l v,Y,Z):=
 wR rfl (qx (V:=fun a:List za×za=>[O.sl 1 (zZ a.1),str a.2]) (a:=(l,v)) RW h) (.inr rfl)
theorem DP(l:List za)(v:za)(h:l.length<=zw):zt C0 f95 [.sl 1 (zZ l),str v]=some (int (JY v 0 l)):=by
 refine zl rfl ?_;unfold zw at h;have b:(zZ l).length=l.length:=by simp[zZ]
 simp[b];refine zP (fun k U Y Z=>U 0=.sl 1 (zZ l)/\U 1=str v/\U 7=int l.length/\U 8=int k/\JY v 0 l=JY v k (l.drop k)) l.length ⟨by simp,by simp,by simp,by simp,by simp⟩ ?_;rintro k U Y Z p ⟨i,j,m,n,a⟩;by_cases c:k<l.length
 ·obtain⟨s,hs⟩:=kC (l[k]);have o:=qz k;have e:∀h:k<(zZ l).length,(zZ l)[k]=[str s]:=fun h=>by simp[zZ,hs]
  have f:k<(zZ l).length:=by omega
  rw[zd c,hs]at a;simp only[JY]at a;by_cases g:v=s
  ·rw[ze g]at a;have d:(v==s)=true:=by simpa using g
   simp[i,j,m,n,c,b,f,e,d,a,f95]
  ·rw[zj g]at a;have d:=jr g;simp[i,j,m,n,c,b,f,e,d,o];exact⟨by omega,a⟩
 ·obtain rfl:k=l.length:=by omega
  rw[zp]at a;simp only[JY]at a;simp[i,j,m,n,a,f95]
theorem uF:zf prog 95 (zg false [1] (FTS fun l v=>int (JY v 0 l))):=
 kL y7 func95 false [1] fun⟨l,v⟩ a=>⟨by simp[f95],_,DP l v a,qa _⟩
noncomputable abbrev Cctt:Ctx:=zG prog [(95,zg false [1] (FTS fun l v=>int (JY v 0 l)))]
theorem bz:zf prog 56 (zg false [1] (FTS fun l v=>qO (decide (v∈l)))):=
 kL (zM mixed ⟨uF,trivial⟩:AM.Good Cctt _) func56 false [1] fun⟨l,v⟩ a=>by
  have b:=fun Y Z=>rb (fun l v=>int (JY v 0 l)) l v Y Z a
  have c:=ra v l 0;exact⟨by simp[f56],_,zl rfl (by simp[b,c,f56]),qa _⟩
def eN(h:Z5)(a b:za):Bool:=decide (a∈h.zq)&&decide ((Ql h.w5 b:Int)<h.buckets)
def Zr(a b:za):List Z5->za×Bool
 |[]=>([],false)
 |h::l=>if eN h a b=true then(h.name,true)else Zr a b l
def RX(r:za×Bool):O:=.q8 [str r.1,qO r.2]
noncomputable def Nj (out:Bk->za->za->O):zb->Option O:=zS (α:=Bk×za×za) (fun a=>[.agg a.1.V,str a.2.1,str a.2.2]) (fun a=>a.1.cb<=zw/\a.2.1.length<=zw/\a.2.2.length<=zw) (fun a=>out a.1 a.2.1 a.2.2)
theorem DQ(out:Bk->za->za->O)(b:Bk)(s t:za)(Y:Hp)(Z:Nat)(h:b.cb<=zw)(c:s.length<=zw)(d:t.length<=zw):zg false [] (Nj out) [.agg b.V,str s,str t] Y Z=some (out b s t,Y,Z):=
 Zc (b,s,t) _ _ (by simp[Bk.V]) (fun a b e=>by obtain⟨f,g,i⟩:=a;obtain⟨j,k,l⟩:=b;simp only[zc,zs,O.agg.injEq]at e;rw[XX e.1,qv e.2.1,qv e.2.2]) ⟨h,c,d⟩ (.inr (by simp[Bk.V]))
noncomputable abbrev Chel:Ctx:=zG prog [(56,zg false [1] (FTS fun l v=>qO (decide (v∈l)))),(34,zg false [] (xR Ug fun _ _=>True))]
theorem Nk:AM.Good Chel (fun g=>[56,34].contains g):=qc mixed ⟨bz,fun _=>zr _ _,VT,fun _=>zr _ _,trivial⟩
theorem DR(b:Bk)(s t:za)(D:b.cb<=zw)(hs:s.length<=zw)(z:t.length<=zw):zt Chel f33 [.agg b.V,str s,str t]=some (RX (Zr s t b.holds)):=by
 have r:=w9 bW b.holds;have A:b.cb=yV yq.cb b.zq+yV Z5.cb b.holds+yV Xp.cb b.qA:=rfl;have u:zw=2097152:=rfl;refine zl rfl ?_;simp[Bk.V];refine zP (fun k U Y Z=>U 1=str s/\U 2=str t/\U 11=.sl 4 (b.holds.map Z5.V)/\U 12=int b.holds.length/\U 13=int k/\Zr s t b.holds=Zr s t (b.holds.drop k)) b.holds.length ⟨by simp,by simp,by simp,by simp,by simp,by simp⟩ ?_;rintro k U Y Z E ⟨m,n,d,e,g,c⟩;by_cases a:k<b.holds.length
 ·obtain⟨x,h⟩:=kC (b.holds[k]);have p:=jf (f:=Z5.cb) (zm a);rw[h]at p;have B:x.cb=1+x.name.length+x.w5.length+yV (fun s=>1+s.length) x.zq:=rfl;have C:=w9 (f:=fun s:List UInt8=>1+s.length) (fun _=>by omega) x.zq;have w:=qz k;have q:=fun Y Z=>rb (fun l v=>qO (decide (v∈l))) x.zq s Y Z (by omega)
  have y:=fun Y Z=>mm x.w5 t Y Z (by omega) z
  rw[zd a,h,Zr]at c;by_cases i:s∈x.zq
  ·by_cases o:(Ql x.w5 t:Int)<x.buckets
   ·have j:eN x s t=true:=by simp[eN,i,o]
    rw[j,ze rfl]at c;simp[m,n,d,e,g,a,h,Z5.V,q,y,i,o,c,RX,qU,f33]
   ·have j:eN x s t=false:=by simp[eN,o]
    rw[j,zj (by simp)]at c;simp[m,n,d,e,g,a,h,Z5.V,q,y,i,o,w];exact⟨by omega,c⟩
  ·have j:eN x s t=false:=by simp[eN,i]
   rw[j,zj (by simp)]at c;simp[m,n,d,e,g,a,h,Z5.V,q,i,w];exact⟨by omega,c⟩
 ·obtain rfl:k=b.holds.length:=by omega
  rw[zp]at c;simp only[Zr]at c;simp[m,n,d,e,g,c,RX,qU,f33]
theorem uG:zf prog 33 (zg false [] (Nj fun b s t=>RX (Zr s t b.holds))):=
 kL Nk func33 false [] fun⟨b,s,t⟩ ⟨a,c,d⟩=>⟨by simp[f33],_,DR b s t a c d,qa _⟩
def X2(n:Int)(s:Sp):Bool:=decide (s.1<=n)&&decide (n<s.2)
noncomputable abbrev HD:AM.Spec:=qq C0 f59
theorem DS:zf prog 59 HD:=w8 y7 func59
theorem Nl(n:Int)(s:Sp)(Y:Hp)(Z id:Nat)(hid:id<Z)(a:Y id=some ⟨3,1,false,[[int n]]⟩):HD [.agg (wc s),.ref id 0 0] Y Z=some (qO (X2 n s),ql Y Z (some ⟨59,2,false,[wc s]⟩),Z+1):=by
 unfold HD qq;rw[ze (by simp[f59])];refine wx rfl ?_;have b:¬id=Z:=by omega
 by_cases c:s.1<=n
 ·by_cases d:n<s.2<;>simp[a,b,c,d,X2,f59]
 ·simp[a,b,c,X2,f59]
noncomputable abbrev TAhb:kW:=[(59,HD)]
noncomputable def FSI (out:List Sp->Int->O):zb->Option O:=zS (α:=List Sp×Int) (fun a=>[.sl 2 (a.1.map wc),int a.2]) (fun a=>a.1.length<=zw) (fun a=>out a.1 a.2)
theorem HE(out:List Sp->Int->O)(l:List Sp)(n:Int)(Y:Hp)(Z:Nat)(h:l.length<=zw)(c:(out l n).flat=true):zg false [] (FSI out) [.sl 2 (l.map wc),int n] Y Z=some (out l n,Y,Z):=
 Zc (l,n) _ _ rfl (fun a b e=>by obtain⟨d,f⟩:=a;obtain⟨g,i⟩:=b;simp only[zc,zs]at e;rw[xk e.1,zT e.2]) h (.inl c)
noncomputable abbrev Chbk:Ctx:=zG prog [(58,A8 TAhb)]
theorem re(l:List Sp)(n:Int)(h:l.length<=zw):zt Chbk f35 [.sl 2 (l.map wc),int n]=some (qO (l.any (X2 n))):=by
 refine zl rfl ?_;obtain⟨r,c,Z',a,rfl,_,_,_⟩:=Hs (U:=Unit) (T:=fun _=>False) (Rep:=fun _ Y=>Y 0=some ⟨3,1,false,[[int n]]⟩) (step:=fun _ s=>(X2 n s,())) (Ta:=TAhb) (g:=59) (sp:=HD) (fi:=[]) (cap:=[.ref 0 0 0]) (Z0:=1) (by simp) l h
  (fun _ s Y Z hs d b=>⟨_,_,_,Nl n s Y Z 0 (by omega) b,rfl,(zk _ _ _ _ (by omega)).trans b,by omega,fun j e _=>zk _ _ _ _ (by omega)⟩) () (ql (fun _=>none) 0 (some ⟨3,1,false,[[int n]]⟩)) 1 (zi _) (by simp)
 rw[Wv]at a;simp[a,f35]
theorem mo:zf prog 35 (zg false [] (FSI fun l n=>qO (l.any (X2 n)))):=
 kL (zM mixed ⟨uB ⟨DS,by simp,trivial⟩,trivial⟩:AM.Good Chbk _) func35 false [] fun⟨l,n⟩ a=>⟨by simp[f35],_,re l n a,qa _⟩
noncomputable def FKr:zb->Option O:=zS (α:=Rg×Int) (fun a=>[.agg (Q6 a.1),int a.2]) (fun a=>0<=a.1.2.1/\a.1.2.1<=100000/\0<=a.2/\a.2<=100000) (fun a=>int (a.1.2.1-a.2))
theorem HF(r:Rg)(n:Int)(Y:Hp)(Z:Nat)(h:0<=r.2.1/\r.2.1<=100000/\0<=n/\n<=100000):zg false [] FKr [.agg (Q6 r),int n] Y Z=some (int (r.2.1-n),Y,Z):=
 wR (Y1:=Y) rfl (qx (V:=fun a:Rg×Int=>[O.agg (Q6 a.1),int a.2]) (a:=(r,n)) (fun a b e=>by obtain⟨c,i⟩:=a;obtain⟨d,j⟩:=b;simp only[zc,zs,O.agg.injEq]at e;obtain⟨f,g⟩:=e;rw[pF (a:=c) (b:=d) (by simpa using f),zT g]) h) (.inl rfl)
theorem mq:zf prog 67 (zg false [] FKr):=
 kL y7 func67 false [] fun⟨r,n⟩ ⟨a,b,c,d⟩=>by have e:i6.wrap (r.2.1-n)=r.2.1-n:=qE (by simp only at a b c d;omega) (by simp only at a b c d;omega);exact⟨by simp[f67],_,zl rfl (by simp[e,f67]),qa _⟩
def Jq(l:List Rg)(n:Int)(k:Nat):Bool:=match l[k]? with
 |some r=>decide (r.2.1-n<0)
 |none=>false
def Ex(l:List Rg)(n:Int):Nat×Bool:=(jg (Jq l n) 0 l.length,match l[jg (Jq l n) 0 l.length]? with
 |some r=>r.2.1-n==0
 |none=>false)
def Nn:O:=.fn (.func 67) [] []
noncomputable def FBr:zb->Option O:=zS (α:=List Rg×Int) (fun a=>[.sl 3 (a.1.map Q6),int a.2,Nn]) (fun a=>a.1.length<=200/\(∀r∈a.1,0<=r.2.1/\r.2.1<=100000)/\0<=a.2/\a.2<=100000) (fun a=>.q8 [int (Ex a.1 a.2).1,qO (Ex a.1 a.2).2])
theorem HG(l:List Rg)(n:Int)(Y:Hp)(Z:Nat)(h:l.length<=200/\(∀r∈l,0<=r.2.1/\r.2.1<=100000)/\0<=n/\n<=100000):zg false [] FBr [.sl 3 (l.map Q6),int n,Nn] Y Z=some (.q8 [int (Ex l n).1,qO (Ex l n).2],Y,Z):=
 Zc (l,n) _ _ rfl (fun a b e=>by obtain⟨c,d⟩:=a;obtain⟨f,g⟩:=b;simp only[zc,zs]at e;rw[KR e.1,zT e.2]) h (.inl rfl)
noncomputable abbrev Cbr:Ctx:=zG prog [(67,zg false [] FKr)]
theorem HH(l:List Rg)(n:Int)(H:l.length<=200)(x:∀r∈l,0<=r.2.1/\r.2.1<=100000)(A:0<=n)(u:n<=100000):zt Cbr f66 [.sl 3 (l.map Q6),int n,Nn]=some (.q8 [int (Ex l n).1,qO (Ex l n).2]):=by
 refine zl rfl ?_;simp[Nn];refine jI (fun st=>st.U 0=.sl 3 (l.map Q6)/\st.U 1=int n/\st.U 2=.fn (.func 67) [] []/\st.U 8=int l.length/\∃lo hi:Nat,lo<=hi/\hi<=l.length/\st.U 9=int lo/\st.U 10=int hi/\jg (Jq l n) 0 l.length=jg (Jq l n) lo hi)
  (fun st=>(k7 (st.U 10)).toNat-(k7 (st.U 9)).toNat) ⟨by simp,by simp,by simp,by simp,0,l.length,by simp,by simp,by simp,by simp,rfl⟩ ?_
 rintro⟨U,Y,Z⟩ ⟨i,j,o,p,lo,hi,B,v,q,c,f⟩;simp only at i j o p q c;have d:=fun(k:Nat) (y:k<l.length) Y Z=>HF l[k] n Y Z ⟨(x _ (zm y)).1,(x _ (zm y)).2,A,u⟩
 by_cases b:lo<hi
 ·have z:=wo ((lo:Int)+hi);have C:(lo+hi)/2<l.length:=by omega
  obtain⟨m,D⟩:∃m,m=(lo+hi)/2:=⟨_,rfl⟩;have g:i6.wrap ((IntKind.u64.wrap ((lo:Int)+hi)).fdiv (2 ^ min 1 IntKind.u64.bits))=(m:Int):=by
   have E:IntKind.u64.wrap ((lo:Int)+hi)=(lo:Int)+hi:=by rw[Qp];omega
   have F:(2 ^ min 1 IntKind.u64.bits:Int)=2:=by decide
   rw[E,F,jP _ (by omega),qE (by omega) (by omega)];omega
  have a:m<l.length:=by omega
  have G:=qz m;have w:Jq l n m=decide (l[m].2.1-n<0):=by simp[Jq,a]
  rw[vt (lo:=lo) b,<-D,w]at f;have e:=d m a;by_cases t:l[m].2.1-n<0
  ·simp only[t,fl,qI]at f;simp[i,j,o,p,q,c,b,z,g,a,e,t,G];exact⟨⟨m+1,hi,by omega,v,by omega,rfl,f⟩,by omega⟩
  ·simp only[t,V5,zE,wE]at f;simp[i,j,o,p,q,c,b,z,g,a,e,t];exact⟨⟨lo,m,by omega,by omega,rfl,rfl,f⟩,by omega⟩
 ·have f:jg (Jq l n) 0 l.length=lo:=by rw[f,Zp (lo:=lo) b]
  unfold Ex;rw[f];by_cases h:lo<l.length
  ·have e:=d lo h;simp[i,j,o,p,q,c,b,h,e,f66,qU]
  ·have s:l[lo]?=none:=qS (by omega);simp[i,j,o,p,q,c,b,h,s,f66,qU]
theorem DT:zf prog 66 (zg false [] FBr):=
 kL (qc (q:=[67]) mixed ⟨mq,fun _=>zr _ _,trivial⟩:AM.Good Cbr _) func66 false [] fun⟨l,n⟩ ⟨a,b,c,d⟩=>⟨zA (zi 3) (by decide),_,HH l n a b c d,qa _⟩
theorem DU(f:Nat->Bool)(lo b:Nat)(h:lo<=b):lo<jg f lo b->f (jg f lo b-1)=true:=by
 induction lo,b using jg.induct (f:=f)with
 |case1 lo b a c d=>
  rw[vt a,ze c];intro e;have i:=(AR f ((lo+b)/2+1) b (by omega)).1;rcases Nat.lt_or_eq_of_le i with g|g
  ·exact d (by omega) g
  ·rw[<-g];simpa using c
 |case2 lo b a c d=>rw[vt a,zj c];intro e;exact d (by omega) e
 |case3 lo b a=>rw[Zp a];intro e;omega
theorem iv:∀{n lo c:Int} {p:Option Int} {l:List Rg},ig n lo c p l->∀r∈l,lo<r.2.1/\r.2.1<=c
 |_,_,_,_,[],_,r,b=>by cases b
 |n,lo,c,p,a::l,h,r,b=>by
  obtain⟨e,f,g,i,j,k,d⟩:=h;rcases zC.1 b with rfl|b
  ·omega
  ·have:=iv d r b;omega
theorem eO:∀{n lo c:Int} {p:Option Int} {l:List Rg} (h:ig n lo c p l) (e:0<l.length),(l[l.length-1]'(by omega)).2.1=c
 |_,_,_,_,[],_,e=>by cases e
 |n,lo,c,p,[a],h,_=>by obtain⟨_,_,_,_,_,_,d⟩:=h;exact d
 |n,lo,c,p,a::b::l,h,_=>by obtain⟨_,_,_,_,_,_,d⟩:=h;have:=eO d (by simp);simpa using this
def rf(l:List Rg)(n:Int):Int:=match l[(Ex l (n+1)).1]? with
 |some r=>r.2.2
 |none=>0
theorem RY{l:List Rg}{n m:Int}(h:yw l m=0)(g:n<100000):(Ex l (n+1)).1<l.length:=by
 obtain⟨f,_,e⟩:=Q7 h;have c:=(AR (Jq l (n+1)) 0 l.length (ka _)).2;refine Nat.lt_of_le_of_ne c fun b=>?_
 have b:jg (Jq l (n+1)) 0 l.length=l.length:=b;have a:=DU (Jq l (n+1)) 0 l.length (ka _) (by rw[b];exact e);rw[b]at a;have d:=eO f e;unfold Jq at a;rw[zn (by omega)]at a;simp only[qG]at a;omega
noncomputable abbrev Cva:Ctx:=zG prog [(66,zg false [] FBr)]
theorem mr:zf prog 37 (zg false [] (Ub (fun l n=>int (rf l n)) fun l n=>yw l 20=0/\0<=n/\n<100000)):=
 kL (zM mixed ⟨DT,trivial⟩:AM.Good Cva _) func37 false [] fun⟨l,n⟩ ⟨b,d,c⟩=>by
  simp only at b d c;obtain⟨e,f,m⟩:=Q7 b;have g:=iv e;have a:=RY b c;have h:=wo (n+1);have i:∀Y Z,zg false [] FBr [.sl 3 (l.map Q6),int (n+1),.fn (.func 67) [] []] Y Z=some (.q8 [int (Ex l (n+1)).1,qO (Ex l (n+1)).2],Y,Z):=fun Y Z=>HG l (n+1) Y Z ⟨f,fun r j=>by have:=g r j;omega,by omega,by omega⟩
  have k:rf l n=l[(Ex l (n+1)).1].2.2:=by unfold rf;rw[zn a]
  exact⟨by simp[f37],_,zl rfl (by simp[h,i,a,k,f37]),qa _⟩
def rh(a:List za)(c:qT):Bool:=c.names.all fun n=>decide (n∈a)
theorem RZ(a:List za)(c:qT):rh a c=((!(c.kind==5)||decide (c.name∈a))&&c.args.all (rh a)):=by
 have h:∀l:List qT,(xD l).all (fun n=>decide (n∈a))=l.all (rh a):=fun l=>by
  induction l with
  |nil=>rfl
  |cons x l f=>rw[xD,List.all_append,f,wJ];rfl
 have e:rh a c=c.names.all fun n=>decide (n∈a):=rfl
 rw[e,VJ,List.all_append,h];by_cases b:c.kind=5
 ·simp[b]
 ·have d:=jr b;simp[b,d]
noncomputable def Np (sp:AM.Spec):AM.Spec:=qq (zG prog [(86,sp)]) f139
noncomputable abbrev TAnm (sp:AM.Spec):kW:=[(139,Np sp)]
noncomputable abbrev CnmS (sp:AM.Spec):Ctx:=zG prog [(60,pk (TAnm sp))]
noncomputable def ri:Nat->AM.Spec
 | 0=>fun _ _ _=>none
 |k+1=>qq (CnmS (ri k)) f86
theorem DV{sp:AM.Spec}(h:zf prog 86 sp):zf prog 139 (Np sp):=
 w8 (qc (q:=[]) (l:=[(86,sp)]) mixed ⟨h,by simp,trivial⟩) func139
theorem eP:∀k,zf prog 86 (ri k)
 | 0=>Qi ⟨_,func86,by kernel_rfl,by kernel_rfl⟩
 |k+1=>w8 (C:=CnmS (ri k)) (zM mixed ⟨ej ⟨DV (eP k),by simp,trivial⟩,trivial⟩) func86
theorem eQ(b:Bk)(e:List za)(id m g:Nat):∀(k:Nat) (c:qT) (Y:Hp) (Z:Nat),c.cb<=k->c.cb<=zw->id<Z->g<Z->Y id=some (xa b m g false)->Y g=some (jE e) ->
  ∃x n Z',ri k [.ref id 0 0,.agg c.V] Y Z=some (x,n,Z')/\dC (qO (rh e c)) Y Z x n Z'
 | 0,c,_,_,h,_,_,_,_,_=>absurd h (by have:=Xx c;omega)
 |k+1,c,A,a,N,B,hid,I,p,q=>by
  have J:=Kj c;have K:=xV c.args;have f:=RZ e c;have w:¬id=a:=by omega
  have i:¬id=a+1:=by omega
  have D:¬g=a:=by omega
  have s:¬g=a+1:=by omega
  have z:=p;rw[jn]at z;have l:=eD (Y:=ql (ql A a (some ⟨88,1,false,[[.ref id 0 0]]⟩)) (a+1) (some ⟨66,7,false,[c.V]⟩)) c.name (by rw[zk _ _ _ _ s,zk _ _ _ _ D];exact q);obtain⟨r,n,Z',t,rfl,_,L,o⟩:=ek (U:=Unit) (T:=fun _=>False) (Rep:=fun _ Y=>Y id=some (xa b m g false)/\Y g=some (jE e)/\Y a=some ⟨88,1,false,[[.ref id 0 0]]⟩) (step:=fun _ y=>(!rh e y,())) (Ta:=TAnm (ri k)) (g:=139) (sp:=Np (ri k)) (fi:=[]) (cap:=[.ref a 0 0]) (Z0:=a+2) (by simp) c.args (by unfold zw at B;unfold zw;omega)
   (fun _ y Y Z M P ⟨E,F,G⟩=>by
    have Q:=W8 M;obtain⟨r,n,Z',t,rfl,L,o⟩:=eQ b e id m g k y (ql Y Z (some ⟨66,7,false,[y.V]⟩)) (Z+1) (by omega) (by omega) (by omega) (by omega) (by rw[zk _ _ _ _ (by omega)];exact E) (by rw[zk _ _ _ _ (by omega)];exact F);refine⟨_,n,Z',?_,rfl,⟨by rw[o id (by omega),zk _ _ _ _ (by omega)];exact E,by rw[o g (by omega),zk _ _ _ _ (by omega)];exact F,by rw[o a (by omega),zk _ _ _ _ (by omega)];exact G⟩,by omega,fun j H _=>by rw[o j (by omega),zk _ _ _ _ (by omega)]⟩;unfold Np qq;rw[ze (by simp[f139])];refine wx rfl ?_;have n1:¬a=Z:=by omega
    simp[G,n1,t,f139]) () (ql (ql A a (some ⟨88,1,false,[[.ref id 0 0]]⟩)) (a+1) (some ⟨66,7,false,[c.V]⟩)) (a+2) (zi _)
   ⟨by rw[zk _ _ _ _ i,zk _ _ _ _ w];exact p,by rw[zk _ _ _ _ s,zk _ _ _ _ D];exact q,by rw[zk _ _ _ _ (by omega)];simp⟩
  rw[XQ]at t;have u:∀j,j<a->n j=A j:=fun j H=>by rw[o j (by omega) (fun h=>h),zk _ _ _ _ (by omega),zk _ _ _ _ (by omega)]
  unfold ri qq;rw[ze (by simp[f86])];refine zY rfl ?_;by_cases v:c.kind=5
  ·by_cases d:c.name∈e
   ·have f:rh e c=c.args.all (rh e):=by rw[f];simp[d]
    rw[Zv d]at l;simp[z,w,i,v,l,t,f,dC,f86];exact⟨by omega,u⟩
   ·have f:rh e c=false:=by rw[f];simp[v,d]
    rw[Qo d]at l;simp[z,w,i,v,l,f,dC,f86];exact⟨by omega,fun j H=>by rw[zk _ _ _ _ (by omega),zk _ _ _ _ (by omega)]⟩
  ·have f:rh e c=c.args.all (rh e):=by rw[f];simp[v]
   have C:(c.kind != 5)=true:=by simpa using v
   simp[z,w,i,C,t,f,dC,f86];exact⟨by omega,u⟩
noncomputable def Zs (b:List za) (L:List yq) (a:za) (l:List za) (x:Xp):Int×List za:=
 if jx x.name a=0 then(if(kD (L.map yq.name) x.yp).2=true then(if qK x.flag=true then(if x.cond.check=0 then(if rh b x.cond=true then(if vA l x.w5=0 then(if yw x.vy 20=0 then(yI x.zJ,j9 l x.w5)else(yw x.vy 20,j9 l x.w5))else(vA l x.w5,j9 l x.w5))else(9,l))else(x.cond.check,l))else(5,l))else(9,l))else(jx x.name a,l)
noncomputable abbrev Ba:Ctx:=zG prog [(83,zg false [] (Dr fun a b=>int (jx a b))),(85,zg false [] Dv),(30,zg false [] (FS qK)),(79,GC fun c=>int c.check),(86,ri zw),(84,qq ux f84),(87,zg false [] (Ub (fun l n=>int (yw l n)) fun _ n=>1<=n/\n<=20)),(88,zg false [] (FPh fun l=>int (yI l)))]
theorem HI:AM.Good Ba (fun g=>[85].contains g):=qc mixed ⟨vQ,by simp,JP,fun _=>zr _ _,jK,by simp,Yj,by simp,eP zw,by simp,Yp,by simp,QN,by simp,VQ,by simp,trivial⟩
theorem VU:zf prog 50 (qq Ba f50):=w8 HI func50
theorem bA(b:Bk)(l:List za)(d:za)(x:Xp)(hb:b.cb<=zw)(N:x.cb<=zw)(E:Hp)(Z0 id m g:Nat)(hid:id<Z0)(hmd:m<Z0)(hne:id≠m)(hgd:g<Z0)(SN:g≠m)(q:List za)(F:E id=some (xa b m g false))(v:E m=some (jE l))(P:E g=some (jE q)) :
  ∃x1 Y' Z',qq Ba f50 [.ref id 0 0,.agg x.V,str d] E Z0=some (x1,Y',Z')/\jD (int (Zs q b.zq d l x).1) (Zs q b.zq d l x).2 m E Z0 x1 Y' Z':=by
 unfold qq;rw[ze (by simp[f50])];refine zY rfl ?_;have SS:=w9 Yn b.zq;have SU:b.cb=yV yq.cb b.zq+yV Z5.cb b.holds+yV Xp.cb b.qA:=rfl;have Pc:x.cb=x.name.length+x.yp.length+x.flag.length+x.cond.cb+x.w5.length+x.vy.length+yV y0.cb x.zJ:=rfl;unfold zw at hb N;have J:¬m=Z0:=by omega
 have y:¬id=Z0:=by omega
 have f:=fun Y Z=>JN (fun a b=>int (jx a b)) x.name d Y Z (by unfold zw;omega) (by simp)
 have k:=fun Y Z=>JO b.zq x.yp Y Z (by unfold zw;omega)
 have r:x.flag.length<=zw:=by unfold zw;omega
 have s:=fun Y Z=>JI (fun c=>int c.check) x.cond Y Z (by unfold zw;omega)
 have K:=fun Y Z=>ez (fun l n=>int (yw l n)) (fun _ n=>1<=n/\n<=20) x.vy 20 Y Z ⟨by omega,by omega⟩
 have Q:=fun Y Z=>pI (fun l=>int (yI l)) x.zJ Y Z (by unfold zw;omega)
 have ng:¬g=Z0:=by omega
 obtain⟨xn,Y1,nn,h,rfl,Le,z⟩:=eQ b q id m g zw x.cond (ql E Z0 (some ⟨70,13,false,[x.V]⟩)) (Z0+1) (by unfold zw;omega) (by unfold zw;omega) (by omega) (by omega) (by rw[zk _ _ _ _ y];exact F) (by rw[zk _ _ _ _ ng];exact P);have R:Y1 id=some (xa b m g false):=by rw[z id (by omega),zk _ _ _ _ y];exact F
 have L:Y1 m=some (jE l):=by rw[z m (by omega),zk _ _ _ _ J];exact v
 have A:Y1 Z0=some ⟨70,13,false,[x.V]⟩:=by rw[z Z0 (by omega)];simp
 have B:∀j,j<Z0->Y1 j=E j:=fun j t=>by rw[z j (by omega),zk _ _ _ _ (by omega)]
 have G:=VR b l x.w5 (by unfold zw;omega) false Y1 nn id m g R L;have C:¬Z0=m:=by omega
 have D:=F;rw[jn]at D;rw[qL]at h A;rw[wY]at h;simp only[wY]at s;rw[qL];by_cases i:jx x.name d=0
 case neg=>
  have o:Zs q b.zq d l x=(jx x.name d,l):=by unfold Zs;rw[zj i]
  have S:=xE i;simp[f,S,o,f50,jD];exact⟨by rw[zk _ _ _ _ J];exact v,fun j t e=>by rw[zk _ _ _ _ (by omega)]⟩
 cases p:(kD (b.zq.map yq.name) x.yp).2
 ·have o:Zs q b.zq d l x=(9,l):=by unfold Zs;rw[ze i,p,zj (by simp)]
  simp[f,i,y,D,k,p,o,f50,jD];exact⟨by rw[zk _ _ _ _ J];exact v,fun j t e=>by rw[zk _ _ _ _ (by omega)]⟩
 cases u:qK x.flag
 ·have o:Zs q b.zq d l x=(5,l):=by unfold Zs;rw[ze i,p,ze rfl,u,zj (by simp)]
  simp[f,i,y,D,k,p,r,u,o,f50,jD];exact⟨by rw[zk _ _ _ _ J];exact v,fun j t e=>by rw[zk _ _ _ _ (by omega)]⟩
 by_cases w:x.cond.check=0
 case neg=>
  have o:Zs q b.zq d l x=(x.cond.check,l):=by unfold Zs;rw[ze i,p,ze rfl,u,ze rfl,zj w]
  have T:=xE w;simp[f,i,y,D,k,p,r,u,s,T,o,f50,jD];exact⟨by rw[zk _ _ _ _ J];exact v,fun j t e=>by rw[zk _ _ _ _ (by omega)]⟩
 cases H:rh q x.cond
 ·have o:Zs q b.zq d l x=(9,l):=by unfold Zs;rw[ze i,p,ze rfl,u,ze rfl,ze w,H,zj (by simp)]
  rw[H]at h;simp[f,i,y,D,k,p,r,u,s,w,h,o,f50,jD];exact⟨by omega,L,fun j t e=>B j t⟩
 rw[H]at h;by_cases I:vA l x.w5=0
 case neg=>
  have o:Zs q b.zq d l x=(vA l x.w5,j9 l x.w5):=by unfold Zs;rw[ze i,p,ze rfl,u,ze rfl,ze w,H,ze rfl,zj I]
  have W:=xE I;simp[f,i,y,D,k,p,r,u,s,w,h,A,G,W,o,f50,jD];exact⟨by omega,fun j t e=>by rw[zk _ _ _ _ e];exact B j t⟩
 by_cases M:yw x.vy 20=0
 case neg=>
  have o:Zs q b.zq d l x=(yw x.vy 20,j9 l x.w5):=by unfold Zs;rw[ze i,p,ze rfl,u,ze rfl,ze w,H,ze rfl,ze I,zj M]
  have X:=xE M;simp[f,i,y,D,k,p,r,u,s,w,h,A,C,G,I,K,X,o,f50,jD];exact⟨by omega,fun j t e=>by rw[zk _ _ _ _ e];exact B j t⟩
 ·have o:Zs q b.zq d l x=(yI x.zJ,j9 l x.w5):=by unfold Zs;rw[ze i,p,ze rfl,u,ze rfl,ze w,H,ze rfl,ze I,ze M]
  simp[f,i,y,D,k,p,r,u,s,w,h,A,C,G,I,K,M,Q,o,f50,jD];exact⟨by omega,fun j t e=>by rw[zk _ _ _ _ e];exact B j t⟩
noncomputable def Kq (a:List za) (L:List yq):za->List za->List Xp->Int×List za
 |_,l,[]=>(0,l)
 |before,l,x::xs=>if(Zs a L before l x).1=0 then Kq a L x.name (Zs a L before l x).2 xs else Zs a L before l x
noncomputable def xc (a:List za) (b:Bk):Int:=
 if(20:Int)<b.zq.length\/(10:Int)<b.holds.length\/(100:Int)<b.qA.length then 2
 else if(ye [] [] b.zq).1=0 then
  (if(vi b.zq [] (ye [] [] b.zq).2 b.holds).1=0 then
   (if(Kq a b.zq [] (vi b.zq [] (ye [] [] b.zq).2 b.holds).2 b.qA).1=0 then(if KV b.zq b.qA 0 b.qA=true then 13 else 0)
    else(Kq a b.zq [] (vi b.zq [] (ye [] [] b.zq).2 b.holds).2 b.qA).1)
   else(vi b.zq [] (ye [] [] b.zq).2 b.holds).1)
 else(ye [] [] b.zq).1
theorem Nq{b:List za}{L:List yq}{a:za}{l:List za}{x:Xp}(h:(Zs b L a l x).1=0):ZE L a l x=Zs b L a l x/\rh b x.cond=true:=by
 unfold Zs at h⊢;unfold ZE;by_cases c:jx x.name a=0
 case neg=>rw[zj c]at h;exact absurd h c
 rw[ze c]at h⊢;rw[ze c];by_cases e:(kD (L.map yq.name) x.yp).2=true
 case neg=>rw[zj e]at h;simp at h
 rw[ze e]at h⊢;rw[ze e];by_cases f:qK x.flag=true
 case neg=>rw[zj f]at h;simp at h
 rw[ze f]at h⊢;rw[ze f];by_cases d:x.cond.check=0
 case neg=>rw[zj d]at h;exact absurd h d
 rw[ze d]at h⊢;rw[ze d];by_cases g:rh b x.cond=true
 case neg=>rw[zj g]at h;simp at h
 rw[ze g]at h⊢;exact⟨rfl,g⟩
theorem eR{d:List za}{L:List yq}:∀{xs:List Xp} {a:za} {l:List za},(Kq d L a l xs).1=0->(xI L a l xs).1=0/\∀x∈xs,rh d x.cond=true
 |[],_,_,h=>⟨rfl,fun x e=>by cases e⟩
 |x::xs,a,l,h=>by
  simp only[Kq]at h;split at h
  ·rename_i c;obtain⟨f,g⟩:=Nq c;obtain⟨i,j⟩:=eR h;refine⟨by simp only[xI];rw[f,ze c];exact i,fun y b=>?_⟩;rcases zC.1 b with rfl|b
   ·exact g
   ·exact j y b
  ·rename_i c;exact absurd h c
theorem DW{a:List za}{b:Bk}(h:xc a b=0):wK b=0/\∀x∈b.qA,rh a x.cond=true:=by
 unfold xc at h;unfold wK;split at h
 ·simp at h
 rename_i d;rw[zj d];split at h
 case isFalse c=>exact absurd h c
 rename_i e;rw[ze e];split at h
 case isFalse c=>exact absurd h c
 rename_i f;rw[ze f];split at h
 case isFalse c=>exact absurd h c
 rename_i g;obtain⟨i,j⟩:=eR g;rw[ze i];exact⟨h,j⟩
noncomputable abbrev Bb:Ctx:=zG prog [(48,qq Hq f48),(49,qq Hv f49),(50,qq Ba f50),(51,qq Hy f51)]
theorem HJ:Gd Bb:=zM mixed ⟨VS,aJ,VU,Kp,trivial⟩
theorem eS:zf prog 28 (qq Bb f28):=w8 HJ func28
theorem uH(b:Bk)(hb:b.cb<=zw)(J:Hp)(Z0 id m g:Nat)(hid:id<Z0)(hmd:m<Z0)(hgd:g<Z0)(h:id≠m)(n:g≠m)(c:List za)(y:J id=some (xa b m g false))(hm0:J m=some (jE []))(hg0:J g=some (jE c)) :
  ∃x1 Y' Z',qq Bb f28 [.ref id 0 0] J Z0=some (x1,Y',Z')/\x1=int (xc c b):=by
 unfold qq;rw[ze (by simp[f28])];refine zY rfl ?_;have hlen:=w9 me b.qA;have SS:=w9 Yn b.zq;have hleH:=w9 bW b.holds;have SU:b.cb=yV yq.cb b.zq+yV Z5.cb b.holds+yV Xp.cb b.qA:=rfl;have o:=hb;unfold zw at hb;obtain⟨x1,Y1,Um,K,rfl,l3,l4,l5⟩:=eE b [] o false J Z0 id m g hid hmd h y hm0;have z:Y1 id=some (xa b m g false):=by rw[l5 id hid h];exact y
 obtain⟨L,A⟩:∃e,ye [] [] b.zq=e:=⟨_,rfl⟩;rw[A]at K l4;obtain⟨x2,Y2,Lg,W,rfl,g3,g4,g5⟩:=ir b L.2 o false Y1 Um id m g (by omega) (by omega) h z l4;have B:Y2 id=some (xa b m g false):=by rw[g5 id (by omega) h];exact z
 have M:Y2 g=some (jE c):=by rw[g5 g (by omega) n,l5 g hgd n];exact hg0
 obtain⟨G,N⟩:∃e,vi b.zq [] L.2 b.holds=e:=⟨_,rfl⟩;rw[N]at W g4;obtain⟨e3,C⟩:∃e,Kq c b.zq [] G.2 b.qA=e:=⟨_,rfl⟩;have v:=y;rw[jn]at v;have j:=B;rw[jn]at j;by_cases D:(20:Int)<b.zq.length
 ·have i:xc c b=2:=by unfold xc;rw[ze (.inl D)]
  simp[v,D,i,f28]
 by_cases H:(10:Int)<b.holds.length
 ·have i:xc c b=2:=by unfold xc;rw[ze (.inr (.inl H))]
  simp[v,D,H,i,f28]
 by_cases P:(100:Int)<b.qA.length
 ·have i:xc c b=2:=by unfold xc;rw[ze (.inr (.inr P))]
  simp[v,D,H,P,i,f28]
 have d:xc c b=if L.1=0 then(if G.1=0 then(if e3.1=0 then(if KV b.zq b.qA 0 b.qA=true then 13 else 0)else e3.1)else G.1)else L.1:=by unfold xc;rw[zj (by omega),A,N,C]
 by_cases I:L.1=0
 case neg=>rw[zj I]at d;have SX:=xE I;simp[v,D,H,P,K,SX,d,f28]
 rw[ze I]at d;by_cases X:G.1=0
 case neg=>rw[zj X]at d;have c2':=xE X;simp[v,D,H,P,K,I,W,c2',d,f28]
 rw[ze X]at d;simp[v,D,H,P,K,I,W,X,j];refine zP (fun k U Y Z=>U 0=.ref id 0 0/\U 48=.sl 13 (b.qA.map Xp.V)/\U 49=int b.qA.length/\U 50=int k/\Z0<=Z/\Y id=some (xa b m g false)/\Y g=some (jE c)/\∃(a:za) (l':List za),U 5=str a/\Y m=some (jE l')/\e3=Kq c b.zq a l' (b.qA.drop k)) b.qA.length
  ⟨by simp,by simp,by simp,by simp,by simp;omega,B,M,[],G.2,by simp,g4,by simp[C]⟩ ?_
 clear K l3 l4 l5 z W g3 g4 g5 B j v M;rintro k U Y Z hk ⟨h0,p,q,r,hnx,E,Q,a,l',h5,hm,l⟩;by_cases s:k<b.qA.length
 ·obtain⟨x,hx⟩:=kC (b.qA[k]);have SV:=jf (f:=Xp.cb) (zm s);rw[hx]at SV;have nm:¬m=Z:=by omega
  have ni:¬id=Z:=by omega
  have hw:=qz k;rw[zd s,hx]at l;simp only[Kq]at l;obtain⟨x3,t,nx3,w,rfl,q3,q4,q5⟩:=bA b l' a x o (by unfold zw;omega) (ql Y Z (some (Zq x))) (Z+1) id m g (by omega) (by omega) h (by omega) n c (by rw[zk _ _ _ _ ni];exact E) (by rw[zk _ _ _ _ nm];exact hm) (by rw[zk _ _ _ _ (by omega)];exact Q);have hc3:t id=some (xa b m g false):=by rw[q5 id (by omega) h,zk _ _ _ _ ni];exact E
  have hg3:t g=some (jE c):=by rw[q5 g (by omega) n,zk _ _ _ _ (by omega)];exact Q
  have R:t Z=some (Zq x):=by rw[q5 Z (by omega) (by omega)];simp
  simp only[Zq,qL]at w R;by_cases S:(Zs c b.zq a l' x).1=0
  case neg=>
   rw[zj S]at l;have i:xc c b=(Zs c b.zq a l' x).1:=by rw[d,l,zj S]
   have d1':=xE S;simp[h0,h5,p,q,r,s,hx,qL,w,d1',i,f28]
  ·rw[ze S]at l;simp[h0,h5,p,q,r,s,hx,qL,w,S,R,hw];exact⟨by omega,by omega,hc3,hg3,_,q4,l⟩
 ·obtain rfl:k=b.qA.length:=by omega
  rw[zp]at l;simp only[Kq]at l;have hz:(Kq c b.zq [] G.2 b.qA).1=0:=by rw[C,l]
  have hyr:=JQ (by rw[A];exact I);have T:=bY (eR hz).1;obtain⟨x3,t,nx3,w,rfl,q3,q4⟩:=aK b o (fun x F=>⟨⟨eL (T x F).1,by have:=jf (f:=Xp.cb) F;unfold zw;omega⟩,(T x F).2⟩) hyr false Y Z id m g (by omega) E;have i:xc c b=if KV b.zq b.qA 0 b.qA=true then 13 else 0:=by rw[d,l,ze rfl]
  cases u:KV b.zq b.qA 0 b.qA
  ·rw[u,zj (by simp)]at i;rw[u]at w;simp[h0,p,q,r,w,i,f28]
  ·rw[u,ze rfl]at i;rw[u]at w;simp[h0,p,q,r,w,i,f28]
theorem eT(l:List qN)(b:Bk)(B:bm l<=zw)(v:oQ (l.map qN.name))(C:Hp)(Z0:Nat):∃w n Z',qq C0 f27 [.sl 10 (l.map qN.V),.agg b.V] C Z0=some (w,n,Z')/\w=.ref (Z0+1+1+1) 0 0/\Z0+1+1+1+1<=Z'/\n (Z0+1)=some (jE [])/\n (Z0+1+1)=some (jE (l.map qN.name))/\n (Z0+1+1+1)=some (xa b (Z0+1) (Z0+1+1) false):=by
 have D:=JM l;unfold zw at B;unfold qq;rw[ze (by simp[f27])];refine zY rfl ?_;simp[Bk.V,qg,qF];refine zP (fun k U Y Z=>U 13=.sl 10 (l.map qN.V)/\U 14=int l.length/\U 15=int k/\U 5=.ref (Z0+1+1+1) 0 0/\Z0+1+1+1+1<=Z/\Y (Z0+1)=some (jE [])/\Y (Z0+1+1)=some (jE ((l.take k).map qN.name))/\Y (Z0+1+1+1)=some (xa b (Z0+1) (Z0+1+1) false)) l.length
  ⟨by simp,by simp,by simp,by simp,by simp,by simp[jE,bt],by simp[jE,bt],by simp[jn]⟩ ?_
 rintro k U Y Z L ⟨d,e,f,x,o,z,p,A⟩;by_cases c:k<l.length
 ·have E:=qz k;obtain⟨s,hs⟩:=kC (l[k]);have q:s.name ∉ (l.take k).map qN.name:=by
   intro g;obtain⟨y,F,G⟩:=zN.1 g;obtain⟨j,r⟩:=fj F;have t:j<k:=by have:=(zh.1 r).1;simp at this;omega
   have u:l[j]?=some y:=by rw[List.getElem?_take_of_lt t]at r;exact r
   have H:=(GF v u).1;have M:=(GF v (i:=k) (s:=s) (by rw[zn c,hs])).1;rw[G]at H;omega
  have I:¬Z0+1+1=Z:=by omega
  have J:¬Z0+1+1+1=Z:=by omega
  have K:¬Z0+1=Z:=by omega
  have a:=A6 (Y:=ql Y Z (some (VM s))) (id:=Z0+1+1) (l:=(l.take k).map qN.name) s.name (by rw[zk _ _ _ _ I];exact p) q;have h:(l.take k).map qN.name++[s.name]=(l.take (k+1)).map qN.name:=by rw[qo c,hs];simp
  rw[h]at a;have m:=A;rw[jn]at m;simp only[VM]at a;simp[d,e,f,x,c,hs,m,J,a,E];exact⟨by omega,by omega,by rw[zk _ _ _ _ K];exact z,by simp[jn]⟩
 ·obtain rfl:k=l.length:=by omega
  rw[ja]at p;simp[d,e,f,x,f27];exact⟨o,z,p,A⟩
noncomputable def VV (l:List qN) (b:Bk):Int:=if ky l=0 then xc (l.map qN.name) b else ky l
noncomputable def FLB (out:List qN->Bk->O):zb->Option O:=zS (α:=List qN×Bk) (fun a=>[.sl 10 (a.1.map qN.V),.agg a.2.V]) (fun a=>bm a.1<=zw/\a.2.cb<=zw) (fun a=>out a.1 a.2)
theorem HK(out:List qN->Bk->O)(l:List qN)(b:Bk)(Y:Hp)(Z:Nat)(h:bm l<=zw)(c:b.cb<=zw):zg false [] (FLB out) [.sl 10 (l.map qN.V),.agg b.V] Y Z=some (out l b,Y,Z):=
 Zc (l,b) _ _ (by simp[Bk.V]) (fun a b e=>by obtain⟨d,f⟩:=a;obtain⟨g,i⟩:=b;simp only[zc,zs,O.agg.injEq]at e;rw[VG e.1,XX e.2]) ⟨h,c⟩ (.inr (by simp[Bk.V]))
noncomputable abbrev Cck2:Ctx:=zG prog [(26,zg false [] (FSs fun l=>int (ky l))),(27,qq C0 f27),(28,qq Bb f28)]
theorem Nr:Gd Cck2:=zM mixed ⟨JX,YI,eS,trivial⟩
theorem uI(l:List qN)(b:Bk)(g:bm l<=zw)(h:b.cb<=zw):zt Cck2 f16 [.sl 10 (l.map qN.V),.agg b.V]=some (int (VV l b)):=by
 refine zl rfl ?_;have i:=fun Y Z=>G8 (fun l=>int (ky l)) l Y Z g rfl
 by_cases a:ky l=0
 case neg=>
  have c:=xE a;have d:VV l b=ky l:=by unfold VV;rw[zj a]
  simp[Bk.V,i,c,d,qU,f16]
 have e:=AW a;have d:VV l b=xc (l.map qN.name) b:=by unfold VV;rw[ze a]
 obtain⟨q,Y1,f,j,rfl,r,k,m,n⟩:=eT l b g e.up (ql (fun _=>none) 0 (some ⟨27,3,false,[b.V]⟩)) 1;obtain⟨s,Y2,o,p,rfl⟩:=uH b h Y1 f 4 2 3 (by omega) (by omega) (by omega) (by omega) (by omega) (l.map qN.name) n k m;simp only[Bk.V]at j;simp[Bk.V,i,a,j,p,d,qU,f16]
theorem rj:zf prog 16 (zg false [] (FLB fun l b=>int (VV l b))):=
 kL Nr func16 false [] fun⟨l,b⟩ ⟨a,c⟩=>⟨by simp[f16],_,uI l b a c,qa _⟩
theorem uJ{b:Bk}(h:wK b=0):(∀y∈b.zq,0<=y.rest/\y.rest<=100000000)/\(∀x∈b.qA,yI x.zJ=0/\(kD (b.zq.map yq.name) x.yp).2=true)/\KV b.zq b.qA 0 b.qA=false:=by
 unfold wK at h;split at h
 ·exact absurd h (by simp)
 split at h
 ·rename_i a;split at h
  ·split at h
   ·rename_i d;split at h
    ·exact absurd h (by simp)
    ·rename_i e;exact⟨JQ a,bY d,by simpa using e⟩
   ·rename_i c;exact absurd h c
  ·rename_i c;exact absurd h c
 ·rename_i c;exact absurd h c
theorem iw:∀{xs:List y0} {p:Option Int} {b:List Sp},uq p b xs=0->∀y∈xs,y9 y.yk=0
 |[],_,_,_,y,a=>by simp at a
 |x::xs,p,b,h,y,a=>by
  simp only[uq]at h;split at h
  ·split at h
   ·exact absurd h (by simp)
   ·split at h
    ·rename_i c;split at h
     ·exact absurd h (by simp)
     ·rcases zC.1 a with rfl|a
      ·exact c
      ·exact iw h y a
    ·rename_i c;exact absurd h c
  ·exact absurd h (by simp)
theorem Q8{l:List y0}(h:yI l=0):∀y∈l,y9 y.yk=0:=by
 unfold yI at h;split at h
 ·exact absurd h (by simp)
 ·exact iw h
end Go.Q
namespace Go.Proofs
open Go.Shelf
end Go.Proofs
namespace Go.Q
theorem mu(n:Int):∀(l:List y0) (a:List Sp),xb a n l=a\/∃p∈l,xb a n l=p.yk
 |[],a=>.inl rfl
 |p::l,a=>by
  simp only[xb];rcases mu n l (if p.at_<=n then p.yk else a)with h|⟨q,b,h⟩
  ·split at h
   ·rename_i c;rw[ze c];exact .inr ⟨p,by simp,h⟩
   ·rename_i c;rw[zj c];exact .inl h
  ·exact .inr ⟨q,by simp[b],h⟩
theorem HL(n:Int)(l:List y0):(xb [] n l).length<=yV y0.cb l:=by
 rcases mu n l []with h|⟨p,Y,h⟩
 ·rw[h];simp
 ·rw[h];have:=jf (f:=y0.cb) Y;have a:p.cb=1+p.yk.length:=rfl;omega
theorem WJ.congr{l:List qN}{x:qf}{a m:Nat}{u:Unit}{Y b:Hp}(h:WJ l x a m u Y)(c:b a=Y a)(d:b m=Y m):WJ l x a m u b:=by obtain⟨e,M,f,g⟩:=h;exact⟨c.trans e,M,d.trans f,g⟩
theorem DX{l:List qN}{x:qf}{a m Z0:Nat}(b:a≠m)(hid:a<Z0)(h:m<Z0)(d:V9 l)(i:bm l<=zw)(k:x.cb+2<=zw)(c:qT)(o:c.cb<=zw)(s:c.check=0)(e:∀n∈c.names,xy l n=true)(Y:Hp)(Z:Nat)(f:Z0<=Z)(t:WJ l x a m () Y) :
  ∃r p Z',WB (mh 101) zw [.ref a 0 0,.agg c.V] Y Z=some (r,p,Z')/\wO (·=m) (WJ l x a m) (qO (hF l x c)) () Y Z r p Z':=
 Jp (mem:=mh 101) (I:=fun j=>j<l.length/\Rt l j<101) b hid h (zA (JM l) i) k (fun j Y Z q e u=>A7 b hid h d i k 101 j Y Z q.1 q.2 e u) zw c Y Z o o (eG s) (fun n g=>⟨lT (e n g),by have:=GA d (ZD l n);omega⟩) f t
structure Pl where
 ly:List UInt8
 ex:List UInt8
 bu:Int
 arm:Int
def vL(p:Pl):zb:=[str p.ly,str p.ex,int p.bu,int p.arm]
noncomputable def uK (l:List qN) (x:qf) (n:Int) (y:yq) (e:Xp):Bool:=e.yp==y.name&&((xb [] n e.zJ).any (X2 (Ql y.w5 x.key))&&hF l x e.cond)
def Ns(x:qf)(y:yq)(e:Xp):Pl:=⟨y.name,e.name,Ql y.w5 x.key,rf e.vy (Ql e.w5 x.key)⟩
noncomputable def Bc (l:List qN) (x:qf) (n:Int) (y:yq):List Xp->List Pl
 |[]=>[]
 |e::t=>(if uK l x n y e=true then[Ns x y e]else[])++Bc l x n y t
noncomputable def Xa (l:List qN) (b:Bk) (x:qf) (n:Int):List yq->List Pl
 |[]=>[]
 |y::t=>(if(Zr y.name x.key b.holds).2=true then[]else Bc l x n y b.qA)++Xa l b x n t
theorem Be(l:List qN)(x:qf)(n:Int)(y:yq):∀es:List Xp,(Bc l x n y es).length<=es.length
 |[]=>zi _
 |e::t=>by have:=Be l x n y t;simp only[Bc,yy,zU];split<;>simp<;>omega
theorem mv(l:List qN)(b:Bk)(x:qf)(n:Int):∀ys:List yq,(Xa l b x n ys).length<=ys.length*b.qA.length
 |[]=>by simp[Xa]
 |y::t=>by have a:=mv l b x n t;have c:=Be l x n y b.qA;simp only[Xa,yy,zU,wI,Nat.one_mul];split<;>simp<;>omega
theorem rl{b:Bk}(h:wK b=0):b.zq.length<=20/\b.qA.length<=100:=by
 unfold wK at h;split at h
 ·simp at h
 ·omega
theorem Bf{b:Bk}(h:wK b=0):∀e∈b.qA,yw e.vy 20=0/\e.cond.check=0:=by
 have f:∀{L:List yq} {xs:List Xp} {a:za} {l:List za},(xI L a l xs).1=0->∀y∈xs,yw y.vy 20=0/\y.cond.check=0:=by
  intro L xs
  induction xs with
  |nil=>intro _ _ _ y hy;cases hy
  |cons x xs g=>
   intro a l d y hy;simp only[xI]at d;split at d
   ·rename_i c;rcases zC.1 hy with rfl|hy
    ·exact⟨(JR c).2.2.1,(JR c).2.2.2.1⟩
    ·exact g d y hy
   ·rename_i c;exact absurd d c
 unfold wK at h;split at h
 ·simp at h
 split at h
 case isFalse c=>exact absurd h c
 split at h
 case isFalse c=>exact absurd h c
 split at h
 case isFalse c=>exact absurd h c
 rename_i i;exact f i
noncomputable abbrev R0:Ctx:=zG prog [(32,MS),(33,zg false [] (Nj fun b s t=>RX (Zr s t b.holds))),(34,zg false [] (xR Ug fun _ _=>True)),(13,zg false [] (FXI (fun x n=>.sl 2 ((xb [] n x.zJ).map wc)) fun x _=>x.zJ.length<=zw)),(35,zg false [] (FSI fun l n=>qO (l.any (X2 n)))),(36,WB (mh 101) zw),(37,zg false [] (Ub (fun l n=>int (rf l n)) fun l n=>yw l 20=0/\0<=n/\n<100000))]
theorem Nt:AM.Good R0 (fun g=>[34,37].contains g):=qc mixed ⟨DC,by simp,uG,by simp,VT,fun _=>zr _ _,eM,by simp,mo,by simp,eI (DE 101) zw,by simp,mr,fun _=>zr _ _,trivial⟩
theorem DY:Zy R0 (fun g=>[34,37].contains g) 18 f18:=qW func18
def VW(b:Bk):jV:=⟨27,3,false,[b.V]⟩
def VX(x:qf):jV:=⟨37,2,false,[x.V]⟩
def mw(y:yq):jV:=⟨101,3,false,[y.V]⟩
theorem uL(l:List qN)(b:Bk)(x:qf)(n:Int)(hok:V9 l)(hl:bm l<=zw)(hb:b.cb<=zw)(hx:x.cb+2<=zw)(hchk:wK b=0)(hnm:∀e∈b.qA,∀m∈e.cond.names,xy l m=true) :
  ∃r0,zt R0 f18 [.sl 10 (l.map qN.V),.agg b.V,.agg x.V,int n]=some r0/\wu r0 (.sl 4 ((Xa l b x n b.zq).map vL)):=by
 refine ZQ rfl ?_;have IV:zw=2097152:=rfl;obtain⟨hll,EA⟩:=rl hchk;have hex:=Bf hchk;have SU:b.cb=yV yq.cb b.zq+yV Z5.cb b.holds+yV Xp.cb b.qA:=rfl;have Pc:=XO x;obtain⟨T,hT⟩:=kC (Xa l b x n b.zq);have hTl:T.length<=2000:=by have:=mv l b x n b.zq;rw[hT]at this;have h2:=Nat.mul_le_mul hll EA;omega
 rw[hT];have I:=MT l x (ql (ql (fun _=>none) 0 (some (VW b))) 1 (some (VX x))) 2;simp only[VW,VX]at I;refine vf (fun U Y Z=>U 0=.sl 10 (l.map qN.V)/\U 3=int n/\U 5=.ref 0 0 0/\U 6=.ref 1 0 0/\Y=ql (ql (fun _=>none) 0 (some (VW b))) 1 (some (VX x))/\Z=2) (by simp[VW,VX,Bk.V,qf.V]) ?_;rintro U Y Z ⟨h0,q,B,D,rfl,rfl⟩;refine vf (fun U Y Z=>U 3=int n/\U 5=.ref 0 0 0/\U 6=.ref 1 0 0/\U 9=.nil/\U 0=.sl 10 (l.map qN.V)/\Y=ql (ql (fun _=>none) 0 (some (VW b))) 1 (some (VX x))/\Z=2) (by simp[h0,q,B,D]) ?_;clear h0 q B D U;rintro U Y Z ⟨q,B,D,h9,h0,rfl,rfl⟩;refine vf (fun U Y Z=>U 3=int n/\U 5=.ref 0 0 0/\U 6=.ref 1 0 0/\U 9=.nil/\U 10=.ref 4 0 0/\5<=Z/\Y 0=some (VW b)/\Y 1=some (VX x)/\WJ l x 4 3 () Y) ?_ ?_
 ·simp only[qf.V]at I;simp[h0,q,B,D,h9,VW,VX,qf.V,I];exact⟨rfl,[],rfl,fun p Y=>by cases Y⟩
 clear h0 q B D h9 I U;rintro U Y Z ⟨q,B,D,h9,a,hnx,N,b1,hR⟩;have C:=N;simp only[VW,Bk.V]at C;simp[B,C];refine zP (fun k U Y Z=>U 3=int n/\U 5=.ref 0 0 0/\U 6=.ref 1 0 0/\U 10=.ref 4 0 0/\U 23=.sl 3 (b.zq.map yq.V)/\U 24=int b.zq.length/\U 25=int k/\5<=Z/\Y 0=some (VW b)/\Y 1=some (VX x)/\WJ l x 4 3 () Y/\∃d,wD Y Z 45 4 (U 9) (d.map vL)/\d++Xa l b x n (b.zq.drop k)=T) b.zq.length
  ⟨by simp[q],by simp[B],by simp[D],by simp[a],by simp,by simp,by simp,hnx,N,b1,hR,[],.inl (by simp[h9]),by simpa using hT⟩ ?_
 clear q B D h9 a hnx N b1 hR C U Y Z;rintro k U Y Z hk ⟨q,B,D,a,v,z,A,hnx,N,b1,hR,d,hO,hd⟩;by_cases J:k<b.zq.length
 ·obtain⟨y,hy⟩:=kC (b.zq[k]);have hmy:=jf (f:=yq.cb) (zm J);rw[hy]at hmy;have hyc:y.cb=1+y.name.length+y.w5.length:=rfl;have hw:=qz k;have n0:¬0=Z:=by omega
  have n1:¬1=Z:=by omega
  rw[zd J,hy,Xa]at hd;have g:=hO.more (some (mw y));have o:=hR.ql (j:=Z) (some (mw y)) (by omega) (by omega);have g1:∀Y Z,zg false [] (Nj fun b s t=>RX (Zr s t b.holds)) [.agg b.V,str y.name,str x.key] Y Z=some (.q8 [str (Zr y.name x.key b.holds).1,qO (Zr y.name x.key b.holds).2],Y,Z):=fun Y Z=>DQ (fun b s t=>RX (Zr s t b.holds)) b y.name x.key Y Z hb (by omega) (by omega)
  have g2:=fun Y Z=>mm y.w5 x.key Y Z (by omega) (by omega)
  have C:=N;have K:=b1;simp only[VW,Bk.V]at C;simp only[VX,qf.V]at K;simp only[Bk.V]at g1;simp only[mw]at g o;cases ch:(Zr y.name x.key b.holds).2
  case true=>rw[ch,ze rfl,yW]at hd;rw[ch]at g1;simp only[yq.V]at g o;simp[q,B,D,a,v,z,A,J,hy,yq.V,n0,n1,C,K,g1,hw];exact⟨by omega,by omega,rfl,rfl,o,d,g,hd⟩
  rw[ch,zj (by simp)]at hd;rw[ch]at g1;simp[q,B,D,a,v,z,A,J,hy,yq.V,n0,n1,C,K,g1,g2];obtain⟨P,hP⟩:=kC Z;rw[hP]at g o hnx n0 n1⊢;refine zP (fun i U Y Z=>U 3=int n/\U 5=.ref 0 0 0/\U 6=.ref 1 0 0/\U 10=.ref 4 0 0/\U 23=.sl 3 (b.zq.map yq.V)/\U 24=int b.zq.length/\U 25=int k/\U 12=.ref P 0 0/\U 15=int (Ql y.w5 x.key)/\U 45=.sl 13 (b.qA.map Xp.V)/\U 46=int b.qA.length/\U 47=int i/\P<Z/\Y 0=some (VW b)/\Y 1=some (VX x)/\Y P=some (mw y)/\WJ l x 4 3 () Y/\∃d,wD Y Z 45 4 (U 9) (d.map vL)/\d++(Bc l x n y (b.qA.drop i)++Xa l b x n (b.zq.drop (k+1)))=T) b.qA.length
   ⟨by simp[q],by simp[B],by simp[D],by simp[a],by simp[v],by simp[z],by simp[A],by simp,by simp,by simp,by simp,by simp,(by show P<P+1;omega),by simp only;rw[zk _ _ _ _ n0];exact N,by simp only;rw[zk _ _ _ _ n1];exact b1,by simp[mw,yq.V],by simpa[yq.V]using o,d,by simpa[yq.V]using g,by simpa using hd⟩ ?_
  clear q B D a v z A N b1 hR hO hd g o C K hP d g1 n0 n1 hk U Y Z;rintro i U Y Z hi ⟨q,B,D,a,v,z,A,Q,R,W,X,h47,Uq,N,b1,bP,hR,d,hO,hd⟩;by_cases M:i<b.qA.length
  ·obtain⟨e,he⟩:=kC (b.qA[i]);have hem:e∈b.qA:=by rw[<-he];exact zm M
   have hme:=jf (f:=Xp.cb) hem;have hec:e.cb=e.name.length+e.yp.length+e.flag.length+e.cond.cb+e.w5.length+e.vy.length+yV y0.cb e.zJ:=rfl;have hepl:=w9 VP e.zJ;have hwi:=qz i;have n0:¬0=Z:=by omega
   have n1:¬1=Z:=by omega
   have nP:¬P=Z:=by omega
   rw[zd M,he,Bc]at hd;have g:=hO.more (some (Zq e));have o:=hR.ql (j:=Z) (some (Zq e)) (by omega) (by omega);have C:=N;have K:=b1;have bP':=bP;simp only[VW,Bk.V]at C;simp only[VX,qf.V]at K;simp only[mw,yq.V]at bP';have k0:ql Y Z (some (Zq e)) 0=some (VW b):=by rw[zk _ _ _ _ n0];exact N
   have k1:ql Y Z (some (Zq e)) 1=some (VX x):=by rw[zk _ _ _ _ n1];exact b1
   have kP:ql Y Z (some (Zq e)) P=some (mw y):=by rw[zk _ _ _ _ nP];exact bP
   by_cases c1:e.yp=y.name
   case neg=>
    have F:=jr c1;have G:uK l x n y e=false:=by simp[uK,F]
    rw[G,zj (by simp),yW]at hd;rw[Zq,qL]at g o k0 k1 kP;simp[q,B,D,a,v,z,A,Q,R,W,X,h47,M,he,qL,nP,bP',F,hwi];exact⟨by omega,by omega,k0,k1,rfl,o,d,g,hd⟩
   have F:(e.yp==y.name)=true:=by simpa using c1
   have H:=fun Y Z=>pZ (fun x n=>.sl 2 ((xb [] n x.zJ).map wc)) (fun x _=>x.zJ.length<=zw) e n Y Z (by omega)
   obtain⟨L,hL⟩:=kC (xb [] n e.zJ);have hLl:L.length<=zw:=by have:=HL n e.zJ;rw[hL]at this;omega
   rw[hL]at H;have hhb:=fun Y Z=>HE (fun l n=>qO (l.any (X2 n))) L (Ql y.w5 x.key) Y Z hLl rfl
   cases c2:L.any (X2 (Ql y.w5 x.key))
   ·have G:uK l x n y e=false:=by simp[uK,hL,c2]
    rw[G,zj (by simp),yW]at hd;rw[c2]at hhb;rw[Zq,qL]at g o k0 k1 kP;simp only[qL]at H;simp[q,B,D,a,v,z,A,Q,R,W,X,h47,M,he,qL,nP,bP',F,H,hhb,hwi];exact⟨by omega,by omega,k0,k1,rfl,o,d,g,hd⟩
   rw[c2]at hhb;obtain⟨hex1,hex2⟩:=hex e hem;obtain⟨r,Y2,Lg,e1,rfl,r2,n2,f2⟩:=DX (Z0:=5) (by decide) (by decide) (by decide) hok hl hx e.cond (by omega) hex2 (hnm e hem) (ql Y Z (some (Zq e))) (Z+1) (by omega) o;have q0:Y2 0=some (VW b):=by rw[f2 0 (by omega) (by decide)];exact k0
   have q1:Y2 1=some (VX x):=by rw[f2 1 (by omega) (by decide)];exact k1
   have qP:Y2 P=some (mw y):=by rw[f2 P (by omega) (by omega)];exact kP
   have qX:Y2 Z=some (Zq e):=by rw[f2 Z (by omega) (by omega)];simp
   obtain⟨M0,hM0,_⟩:=o.2;have E:wD Y2 Lg 45 4 (U 9) (d.map vL):=g.same n2 fun id m hv=>by
    have hno:=xw g hM0 rfl m;have J:id<Z+1:=by
     rcases g with⟨hn,_⟩|⟨id',hid',hv',_⟩
     ·rw[hn]at hv;cases hv
     ·rw[hv']at hv;injection hv with hv;omega
    refine f2 id J fun q=>hno ?_
    have q:id=3:=q;rw[hv,q]
   cases c3:hF l x e.cond
   ·have G:uK l x n y e=false:=by simp[uK,c3]
    rw[G,zj (by simp),yW]at hd;rw[c3]at e1;simp only[Zq,qL]at e1;simp only[wY]at e1;simp only[qL]at H;simp[q,B,D,a,v,z,A,Q,R,W,X,h47,M,he,qL,nP,bP',F,H,hhb,e1,hwi];exact⟨by omega,by omega,q0,q1,qP,r2,d,E,hd⟩
   have G:uK l x n y e=true:=by simp[uK,hL,F,c2,c3]
   rw[G,ze rfl]at hd;rw[c3]at e1;have g3:=fun Y Z=>mm e.w5 x.key Y Z (by omega) (by omega)
   have Ul:=MY e.w5 x.key;have g4:=fun Y Z=>ez (fun l n=>int (rf l n)) (fun l n=>yw l 20=0/\0<=n/\n<100000) e.vy (Ql e.w5 x.key) Y Z ⟨hex1,by omega,by omega⟩
   have hdl:d.length+1<=2000:=by have:=zo List.length hd;simp only[yy,zU,O1]at this;omega
   obtain⟨p,Y0⟩:=kC (Ns x y e);rw[Y0]at hd;have se:=E.jb (P:=prog) (t:=41) (c:=vL p) el41 sz45 by45 ze45 rfl (by omega) (by rw[qQ];unfold maxLen;omega) (by rw[qQ];omega);have Us:∀Y Z,zu prog Y Z 41 1 [(0,.agg (vL p))]=some (.own Z 0 1,ql Y Z (some ⟨45,4,true,[vL p]⟩),Z+1):=fun Y Z=>by simp[zu,zX,zv,vL]
   have hke:=fun j (h:∀m,U 9≠.own j 0 m)=>yo E (ql Y2 Lg (some ⟨45,4,true,[vL p]⟩)) j h
   have kk0:=hke 0 (xw E q0 rfl);have kk1:=hke 1 (xw E q1 rfl);have kkP:=hke P (xw E qP rfl);have kk4:=hke 4 (xw E r2.1 rfl);obtain⟨M2,hM2,_⟩:=r2.2;have kk3:=hke 3 (xw E hM2 rfl);rw[zk _ _ _ _ (by omega)]at kk0 kk1 kkP kk4 kk3;have qX':=qX;have qP':=qP;have q1':=q1;simp only[Zq,qL]at e1 qX';simp only[wY]at e1;simp only[mw,yq.V]at qP';simp only[VX,qf.V]at q1';simp only[qL]at H;rw[<-Y0]at se Us kk0 kk1 kkP kk4 kk3 hd;simp only[vL,Ns,qQ]at se Us kk0 kk1 kkP kk4 kk3;simp[q,B,D,a,v,z,A,Q,R,W,X,h47,M,he,qL,nP,bP',F,H,hhb,e1,qX',qP',q1',g3,g4,qg,qF,Us,se,hwi];refine⟨by omega,by omega,kk0.trans q0,?_,?_,r2.congr ?_ ?_,d++[Ns x y e],.inr ⟨Lg+1,by omega,by simp,by simp[vL,Ns]⟩,by rw[qY];exact hd⟩
   ·rw[zk _ _ _ _ (by omega)];exact kk1.trans q1
   ·rw[zk _ _ _ _ (by omega)];exact kkP.trans qP
   ·rw[zk _ _ _ _ (by omega)];exact kk4
   ·rw[zk _ _ _ _ (by omega)];exact kk3
  ·obtain rfl:i=b.qA.length:=by omega
   rw[zp,Bc,yW]at hd;simp[q,B,D,a,v,z,A,Q,R,W,X,h47,hw];exact⟨by omega,by omega,N,b1,hR,d,hO,hd⟩
 ·obtain rfl:k=b.zq.length:=by omega
  rw[zp,Xa,yh]at hd;subst hd;simp[q,B,D,a,v,z,A,f18];obtain⟨r0,g1,g2⟩:=hO.freeze Z;exact⟨r0,g1,fun w S u hr=>cM hr g2⟩
def R1(a:List qN×Bk×qf×Int):Prop:=V9 a.1/\bm a.1<=zw/\a.2.1.cb<=zw/\a.2.2.1.cb+2<=zw/\wK a.2.1=0/\∀e∈a.2.1.qA,∀m∈e.cond.names,xy a.1 m=true
def Nu(a:List qN×Bk×qf×Int):zb:=[.sl 10 (a.1.map qN.V),.agg a.2.1.V,.agg a.2.2.1.V,int a.2.2.2]
theorem HM(a b:List qN×Bk×qf×Int)(e:Nu a=Nu b):a=b:=by obtain⟨c,d,f,g⟩:=a;obtain⟨h,i,j,k⟩:=b;simp only[Nu,zc,zs,O.agg.injEq]at e;rw[VG e.1,XX e.2.1,dP e.2.2.1,zT e.2.2.2]
noncomputable def FWh (out:List qN->Bk->qf->Int->O) (pre:List qN×Bk×qf×Int->Prop):zb->Option O:=zS Nu pre (fun a=>out a.1 a.2.1 a.2.2.1 a.2.2.2)
theorem rm(out:List qN->Bk->qf->Int->O)(pre:List qN×Bk×qf×Int->Prop)(l:List qN)(b:Bk)(x:qf)(n:Int)(Y:Hp)(Z:Nat)(h:pre (l,b,x,n)):zg false [] (FWh out pre) [.sl 10 (l.map qN.V),.agg b.V,.agg x.V,int n] Y Z=some (out l b x n,Y,Z):=
 wR (Y1:=Y) (show zy Y [.sl 10 (l.map qN.V),.agg b.V,.agg x.V,int n]=some ([.sl 10 (l.map qN.V),.agg b.V,.agg x.V,int n],Y) by simp[Bk.V,qf.V]) (qx (a:=(l,b,x,n)) HM h) (.inr (by simp[Bk.V,qf.V]))
theorem rn:zf prog 18 (zg false [] (FWh (fun l b x n=>.sl 4 ((Xa l b x n b.zq).map vL)) R1)):=
 YF (fn:=f18) Nt DY false [] _ fun args r h w S vs a=>by obtain⟨⟨l,b,x,n⟩,rfl,⟨c,d,e,f,g,i⟩,rfl⟩:=qd h;obtain⟨j,k,m⟩:=uL l b x n c d e f g i;exact⟨_,j,a,zA (zi 4) (by decide),k,m⟩
noncomputable def Qx (l:List qN) (b:Bk) (x:qf) (n:Int):List Pl×Int:=if VV l b=0 then(if xH n=true then(if x.fault=0 then(Xa l b x n b.zq,0)else([],x.fault))else([],1))else([],VV l b)
def aL(r:List Pl×Int):O:=.q8 [.sl 4 (r.1.map vL),int r.2]
theorem bZ{l:List qN}{b:Bk}(h:VV l b=0):V9 l/\wK b=0/\∀e∈b.qA,∀m∈e.cond.names,xy l m=true:=by
 unfold VV at h;split at h
 case isFalse c=>exact absurd h c
 rename_i c;have a:=AW c;obtain⟨d,f⟩:=DW h;refine⟨a,d,fun e g m i=>?_⟩;have:=zQ.1 (f e g) m i;unfold xy;rw[bS a.up,SA];exact yK this
theorem Yr(f:Int):wu (.q8 [.nil,int f]) (aL ([],f)):=jT.q8 (.cons (.BB (.inl ⟨rfl,rfl⟩)) (.cons (.refl _) .nil))
noncomputable abbrev CWhr:Ctx:=zG prog [(16,zg false [] (FLB fun l b=>int (VV l b))),(12,zg false [] (oM xH)),(17,zg false [] (FX fun x=>int x.fault)),(18,zg false [] (FWh (fun l b x n=>.sl 4 ((Xa l b x n b.zq).map vL)) R1))]
theorem Nv:Gd CWhr:=zM mixed ⟨rj,ZW,dR,rn,trivial⟩
theorem uM(l:List qN)(b:Bk)(x:qf)(n:Int)(j:bm l<=zw)(k:b.cb<=zw)(p:x.cb+2<=zw):∃m,zt CWhr Tryz.f8 [.sl 10 (l.map qN.V),.agg b.V,.agg x.V,int n]=some m/\wu m (aL (Qx l b x n)):=by
 refine ZQ rfl ?_;have e:=fun Y Z=>HK (fun l b=>int (VV l b)) l b Y Z j k
 have g:=fun Y Z=>Mn (fun x=>int x.fault) x Y Z (by omega)
 simp only[Bk.V]at e;simp only[qf.V]at g;by_cases a:VV l b=0
 case neg=>
  have h:=xE a;have c:Qx l b x n=([],VV l b):=by unfold Qx;rw[zj a]
  rw[c];simp[Bk.V,qf.V,e,h,Tryz.f8];exact⟨_,by simp,Yr _⟩
 obtain⟨q,r,s⟩:=bZ a;have o:=fun Y Z=>rm (fun l b x n=>.sl 4 ((Xa l b x n b.zq).map vL)) R1 l b x n Y Z ⟨q,j,k,p,r,s⟩
 simp only[Bk.V,qf.V]at o;cases d:xH n
 ·have c:Qx l b x n=([],1):=by unfold Qx;rw[ze a,d,zj (by simp)]
  rw[c];simp[Bk.V,qf.V,e,a,d,Tryz.f8];exact⟨_,by simp,Yr _⟩
 by_cases f:x.fault=0
 case neg=>
  have i:=xE f;have c:Qx l b x n=([],x.fault):=by unfold Qx;rw[ze a,d,ze rfl,zj f]
  rw[c];simp[Bk.V,qf.V,e,a,d,g,i,Tryz.f8];exact⟨_,by simp,Yr _⟩
 have c:Qx l b x n=(Xa l b x n b.zq,0):=by unfold Qx;rw[ze a,d,ze rfl,ze f]
 rw[c];simp[Bk.V,qf.V,e,a,d,g,f,o,Tryz.f8];exact⟨aL (Xa l b x n b.zq,0),by simp[aL],.refl _⟩
theorem rq:zf prog 8 (zg false [] (FWh (fun l b x n=>aL (Qx l b x n)) fun a=>bm a.1<=zw/\a.2.1.cb<=zw/\a.2.2.1.cb+2<=zw)):=
 YF (fn:=Tryz.f8) Nv (qW func8) false [] _ fun args r h w S vs c=>by obtain⟨⟨l,b,x,n⟩,rfl,⟨d,e,f⟩,rfl⟩:=qd h;obtain⟨g,i,j⟩:=uM l b x n d e f;exact⟨_,g,c,zA (zi 4) (by decide),i,j⟩
theorem eU{L:List yq}:∀{xs:List Xp} {a:za} {l:List za},(xI L a l xs).1=0->∀y∈xs,qK y.name=true
 |[],_,_,_,y,b=>by simp at b
 |x::xs,a,l,h,y,b=>by
  simp only[xI]at h;split at h
  ·rename_i c;rcases zC.1 b with rfl|b
   ·have:=(JR c).2.2.2.2;unfold jx at this;split at this
    ·assumption
    ·exact absurd this (by simp)
   ·exact eU h y b
  ·rename_i c;exact absurd h c
theorem DZ{b:Bk}(h:wK b=0):∀y∈b.qA,qK y.name=true:=by
 unfold wK at h;split at h
 ·exact absurd h (by simp)
 split at h
 ·split at h
  ·split at h
   ·rename_i a;exact eU a
   ·rename_i c;exact absurd h c
  ·rename_i c;exact absurd h c
 ·rename_i c;exact absurd h c
noncomputable def WC (b:Bk) (s:za) (n:Int):Int:=if wK b=0 then(if(kD (b.qA.map Xp.name) s).2=true then(if xH n=true then 0 else 1)else 5)else wK b
noncomputable def QO (b:Bk) (s:za) (n:Int):Nat:=if WC b s n=0 then(kD (b.qA.map Xp.name) s).1 else 0
noncomputable abbrev Ccx:Ctx:=zG prog [(23,zg false [] (FBk fun b=>int (wK b))),(24,zg false [] RM),(12,zg false [] (oM xH))]
theorem R2:Gd Ccx:=zM mixed ⟨DL,Dz,ZW,trivial⟩
theorem Nw(b:Bk)(s:za)(n:Int)(h:b.cb<=zw):zt Ccx f11 [.agg b.V,str s,int n]=some (.q8 [int (QO b s n),int (WC b s n)]):=by
 refine zl rfl ?_;have k:=w9 me b.qA;have l:b.cb=yV yq.cb b.zq+yV Z5.cb b.holds+yV Xp.cb b.qA:=rfl;have g:=fun Y Z=>HA (fun b=>int (wK b)) b Y Z h
 unfold zw at h;have d:=fun Y Z=>Dy b.qA s Y Z (by unfold zw;omega)
 simp only[Bk.V]at g;by_cases c:wK b=0
 case neg=>
  have a:WC b s n=wK b:=by unfold WC;rw[zj c]
  have e:QO b s n=0:=by unfold QO;rw[a,zj c]
  have j:=xE c;simp[Bk.V,g,j,a,e,qU,f11]
 cases f:(kD (b.qA.map Xp.name) s).2
 ·have a:WC b s n=5:=by unfold WC;rw[ze c,f,zj (by simp)]
  have e:QO b s n=0:=by unfold QO;rw[a,zj (by decide)]
  simp[Bk.V,g,c,d,f,a,e,qU,f11]
 cases i:xH n
 ·have a:WC b s n=1:=by unfold WC;rw[ze c,f,ze rfl,i,zj (by simp)]
  have e:QO b s n=0:=by unfold QO;rw[a,zj (by decide)]
  simp[Bk.V,g,c,d,f,i,a,e,qU,f11]
 ·have a:WC b s n=0:=by unfold WC;rw[ze c,f,ze rfl,i,ze rfl]
  have e:QO b s n=(kD (b.qA.map Xp.name) s).1:=by unfold QO;rw[a,ze rfl]
  simp[Bk.V,g,c,d,f,i,a,e,qU,f11]
theorem HN:zf prog 11 (zg false [] (RV fun b s n=>.q8 [int (QO b s n),int (WC b s n)])):=
 kL R2 func11 false [] fun⟨b,s,n⟩ a=>⟨by simp[f11],_,Nw b s n a,qa _⟩
theorem Nx{b:Bk}{s:za}{n:Int}(h:WC b s n=0):wK b=0/\(kD (b.qA.map Xp.name) s).2=true/\xH n=true:=by
 unfold WC at h;split at h
 ·rename_i a;split at h
  ·rename_i d;split at h
   ·rename_i e;exact⟨a,d,e⟩
   ·exact absurd h (by simp)
  ·exact absurd h (by simp)
 ·rename_i c;exact absurd h c
theorem ru{a b:za}(h:jx a b=0):qK a=true/\Op.bytesLess b a=true:=by
 unfold jx at h;split at h
 ·rename_i c;split at h
  ·exact absurd h (by simp)
  ·rename_i d;exact⟨c,xx (by simpa using d)⟩
 ·exact absurd h (by simp)
theorem iy:∀{xs:List yq} {a:za} {l:List za},(ye a l xs).1=0->(∀y∈xs,Op.bytesLess a y.name=true)/\oQ (xs.map yq.name)/\(ye a l xs).2=l++xs.map yq.w5
 |[],_,l,_=>⟨fun y b=>by simp at b,.nil,by simp[ye]⟩
 |x::xs,a,l,h=>by
  simp only[ye]at h⊢;split at h
  ·rename_i d;rw[ze d];split at h
   ·rename_i e;rw[ze e];split at h
    ·rename_i i;rw[ze i];have f:=(ru d).2;obtain⟨g,j,k⟩:=iy h;refine⟨fun y b=>?_,?_,?_⟩
     ·rcases zC.1 b with rfl|b
      ·exact f
      ·exact xY f (g y b)
     ·rw[z6];exact J1.2 ⟨fun s hs=>by obtain⟨y,b,rfl⟩:=zN.1 hs;exact g y b,j⟩
     ·rw[k];unfold j9;rw[ze e];simp
    ·exact absurd h (by simp)
   ·rename_i c;exact absurd h c
  ·rename_i c;exact absurd h c
theorem Bg{L:List yq}:∀{xs:List Xp} {a:za} {l:List za},(xI L a l xs).1=0->(∀y∈xs,Op.bytesLess a y.name=true)/\oQ (xs.map Xp.name)
 |[],_,_,_=>⟨fun y b=>by simp at b,.nil⟩
 |x::xs,a,l,h=>by
  simp only[xI]at h;split at h
  ·rename_i c;have d:=(ru (JR c).2.2.2.2).2;obtain⟨e,f⟩:=Bg h;refine⟨fun y b=>?_,?_⟩
   ·rcases zC.1 b with rfl|b
    ·exact d
    ·exact xY d (e y b)
   ·rw[z6];exact J1.2 ⟨fun s hs=>by obtain⟨y,b,rfl⟩:=zN.1 hs;exact e y b,f⟩
  ·rename_i c;exact absurd h c
theorem HO{b:Bk}(h:wK b=0):oQ (b.zq.map yq.name)/\oQ (b.qA.map Xp.name):=by
 unfold wK at h;split at h
 ·exact absurd h (by simp)
 split at h
 ·rename_i a;split at h
  ·split at h
   ·rename_i d;exact⟨(iy a).2.1,(Bg d).2⟩
   ·rename_i c;exact absurd h c
  ·rename_i c;exact absurd h c
 ·rename_i c;exact absurd h c
theorem Bh:bU []:=⟨trivial,(fun s hs=>by cases hs),(fun s hs=>by cases hs),by simp⟩
theorem rv{l:List qN}{x:qf}{n:Int}{y:yq}{e:Xp}(h:uK l x n y e=true):e.yp=y.name/\(xb [] n e.zJ).any (X2 (Ql y.w5 x.key))=true/\hF l x e.cond=true:=by simp only[uK,zx,jh]at h;exact h
theorem mX{l:List qN}{x:qf}{n:Int}{y:yq}:∀{es:List Xp} {p:Pl},p∈Bc l x n y es↔∃e∈es,uK l x n y e=true/\p=Ns x y e
 |[],p=>by simp[Bc]
 |e::t,p=>by
  have d:=mX (l:=l) (x:=x) (n:=n) (y:=y) (es:=t) (p:=p);simp only[Bc,qh,d];constructor
  ·rintro (h|⟨c,h1,a,b⟩)
   ·split at h
    ·rename_i f;simp at h;exact⟨e,by simp,f,h⟩
    ·cases h
   ·exact⟨c,by simp[h1],a,b⟩
  ·rintro⟨c,h1,a,b⟩;rcases zC.1 h1 with rfl|h1
   ·left;rw[ze a];simp[b]
   ·exact .inr ⟨c,h1,a,b⟩
theorem b8{l:List qN}{b:Bk}{x:qf}{n:Int}:∀{ys:List yq} {p:Pl},p∈Xa l b x n ys↔∃y∈ys,(Zr y.name x.key b.holds).2=false/\∃e∈b.qA,uK l x n y e=true/\p=Ns x y e
 |[],p=>by simp[Xa]
 |y::t,p=>by
  have f:=b8 (l:=l) (b:=b) (x:=x) (n:=n) (ys:=t) (p:=p);simp only[Xa,qh,f];constructor
  ·rintro (h|⟨c,h1,a⟩)
   ·split at h
    ·cases h
    ·rename_i g;exact⟨y,by simp,by simpa using g,mX.1 h⟩
   ·exact⟨c,by simp[h1],a⟩
  ·rintro⟨c,h1,a,d⟩;rcases zC.1 h1 with rfl|h1
   ·left;rw[zj (by simp[a])];exact mX.2 d
   ·exact .inr ⟨c,h1,a,d⟩
theorem D0{b:Bk}(h:wK b=0){e:Xp}(c:e∈b.qA):∃j:Nat,b.qA[j]?=some e/\kD (b.qA.map Xp.name) e.name=(j,true):=by obtain⟨j,a⟩:=fj c;exact⟨j,a,tQ (HO h).2 (by rw[qn,a];rfl)⟩
def sr(a b:Int):List Sp->List y0->Bool
 |_,[]=>true
 |B,p::l=>if p.at_<=a\/b<p.at_ then sr a b B l else if(Qw B p.yk).length=0 then sr a b p.yk l else false
theorem HP{f t:Int}{B:List Sp}{l:List y0}{k:Nat}(h:k<l.length):sr f t B (l.drop k)=if l[k].at_<=f\/t<l[k].at_ then sr f t B (l.drop (k+1))else if(Qw B l[k].yk).length=0 then sr f t l[k].yk (l.drop (k+1))else false:=by rw[zd h,sr]
noncomputable def bB (b:Bk) (s:za) (f t:Int):Bool×Int:=if WC b s f=0 then(if xH t=true then(if t<f then(false,8)else(match b.qA[(kD (b.qA.map Xp.name) s).1]? with
 |some x=>(sr f t (xb [] f x.zJ) x.zJ,0)
 |none=>(false,0)))else(false,1))else(false,WC b s f)
noncomputable def Lb (b:Bk) (s:za) (f t:Int):O:=.q8 [qO (bB b s f t).1,int (bB b s f t).2]
noncomputable def R3 (out:Bk->za->Int->Int->O):zb->Option O:=zS (α:=Bk×za×Int×Int) (fun a=>[.agg a.1.V,str a.2.1,int a.2.2.1,int a.2.2.2]) (fun a=>a.1.cb<=zw) (fun a=>out a.1 a.2.1 a.2.2.1 a.2.2.2)
theorem D1(out:Bk->za->Int->Int->O)(b:Bk)(s:za)(f t:Int)(Y:Hp)(Z:Nat)(h:b.cb<=zw):zg false [] (R3 out) [.agg b.V,str s,int f,int t] Y Z=some (out b s f t,Y,Z):=
 Zc (b,s,f,t) _ _ (by simp[Bk.V]) (fun x y e=>by obtain⟨a,c,d,g⟩:=x;obtain⟨i,j,k,l⟩:=y;simp only[zc,zs,O.agg.injEq]at e;rw[XX e.1,qv e.2.1,zT e.2.2.1,zT e.2.2.2]) h (.inr (by simp[Bk.V]))
noncomputable abbrev R4:Ctx:=zG prog [(11,zg false [] (RV fun b s n=>.q8 [int (QO b s n),int (WC b s n)])),(12,zg false [] (oM xH)),(13,zg false [] (FXI (fun x n=>.sl 2 ((xb [] n x.zJ).map wc)) fun x _=>x.zJ.length<=zw)),(14,zg false [] (MK (fun a b=>.sl 2 ((Qw a b).map wc)) fun a b=>bU a/\bU b))]
theorem Ny:Gd R4:=zM mixed ⟨HN,ZW,eM,mc,trivial⟩
theorem D2:Zy R4 UY 5 Tryz.f5:=qW func5
theorem Nz{b:Bk}(h:wK b=0){e:Xp}(a:e∈b.qA)(n:Int):bU (xb [] n e.zJ):=by
 rcases mu n e.zJ []with g|⟨p,Y,g⟩
 ·rw[g];exact Bh
 ·rw[g];exact mb (Q8 ((uJ h).2.1 e a).1 p Y)
theorem uN(b:Bk)(s:za)(f t:Int)(hb:b.cb<=zw):zt R4 Tryz.f5 [.agg b.V,str s,int f,int t]=some (Lb b s f t):=by
 refine zl rfl ?_;have IV:zw=2097152:=rfl;have SU:b.cb=yV yq.cb b.zq+yV Z5.cb b.holds+yV Xp.cb b.qA:=rfl;have c:=fun Y Z=>DN (fun b s n=>.q8 [int (QO b s n),int (WC b s n)]) b s f Y Z hb
 simp only[Bk.V]at c;by_cases y:WC b s f=0
 case neg=>
  have j:bB b s f t=(false,WC b s f):=by unfold bB;rw[zj y]
  have J:=xE y;simp[Bk.V,c,J,Lb,j,qU,Tryz.f5]
 obtain⟨hk,K,_⟩:=Nx y;have L:QO b s f=(kD (b.qA.map Xp.name) s).1:=by unfold QO;rw[ze y]
 obtain⟨q,M⟩:=kC ((kD (b.qA.map Xp.name) s).1);have o:q<b.qA.length:=by have:=tP K;rw[M]at this;simpa using this
 obtain⟨x,N⟩:=kC (b.qA[q]);have r:x∈b.qA:=by rw[<-N];exact zm o
 have SV:=jf (f:=Xp.cb) r;have Pc:x.cb=x.name.length+x.yp.length+x.flag.length+x.cond.cb+x.w5.length+x.vy.length+yV y0.cb x.zJ:=rfl;have hxpl:=w9 VP x.zJ;rw[y,L,M]at c;have u:bB b s f t=if xH t=true then(if t<f then(false,8)else(sr f t (xb [] f x.zJ) x.zJ,0))else(false,1):=by unfold bB;rw[ze y,M,zn o,N]
 cases z:xH t
 ·have j:bB b s f t=(false,1):=by rw[u,z,zj (by simp)]
  simp[Bk.V,c,z,Lb,j,qU,Tryz.f5]
 by_cases H:t<f
 ·have j:bB b s f t=(false,8):=by rw[u,z,ze rfl,ze H]
  simp[Bk.V,c,z,H,Lb,j,qU,Tryz.f5]
 have j:bB b s f t=(sr f t (xb [] f x.zJ) x.zJ,0):=by rw[u,z,ze rfl,zj H]
 have v:=fun Y Z=>pZ (fun x n=>.sl 2 ((xb [] n x.zJ).map wc)) (fun x _=>x.zJ.length<=zw) x f Y Z (by omega)
 simp only[qL]at v;obtain⟨P,C⟩:∃B,xb [] f x.zJ=B:=⟨_,rfl⟩;have D:bU P:=by rw[<-C];exact Nz hk r f
 rw[C]at v j;have Q:=Q8 ((uJ hk).2.1 x r).1;obtain⟨R,hR⟩:=kC (sr f t P x.zJ);rw[hR]at j;simp[Bk.V,c,z,H,o,N,qL,v];refine zP (fun k U Y Z=>U 2=int f/\U 3=int t/\U 44=.sl 2 (x.zJ.map y0.V)/\U 45=int x.zJ.length/\U 46=int k/\∃B,bU B/\U 13=.sl 2 (B.map wc)/\R=sr f t B (x.zJ.drop k)) x.zJ.length
  ⟨by simp,by simp,by simp,by simp,by simp,P,D,by simp,by simp[hR]⟩ ?_
 rintro k U Y Z hkl ⟨E,F,g,h,i,B,S,l,e⟩;by_cases d:k<x.zJ.length
 ·obtain⟨p,A⟩:=kC (x.zJ[k]);have T:p∈x.zJ:=by rw[<-A];exact zm d
  have W:=qz k;have m:=mb (Q p T);have g1:=fun Y Z=>pC (fun a b=>.sl 2 ((Qw a b).map wc)) (fun a b=>bU a/\bU b) B p.yk Y Z ⟨S,m⟩
  rw[HP d,A]at e;by_cases G:p.at_<=f
  ·rw[ze (.inl G)]at e;simp[E,F,g,h,i,l,d,A,y0.V,G,W];exact⟨by omega,B,S,rfl,e⟩
  by_cases I:t<p.at_
  ·rw[ze (.inr I)]at e;simp[E,F,g,h,i,l,d,A,y0.V,G,I,W];exact⟨by omega,B,S,rfl,e⟩
  rw[zj (by omega)]at e;by_cases X:(Qw B p.yk).length=0
  ·rw[ze X]at e;have w:¬0<(Qw B p.yk).length:=by omega
   simp[E,F,g,h,i,l,d,A,y0.V,G,I,g1,X,w,W];exact⟨by omega,p.yk,m,rfl,e⟩
  ·rw[zj X]at e;have w:0<(Qw B p.yk).length:=by omega
   simp[E,F,g,h,i,l,d,A,y0.V,G,I,g1,w,Lb,j,e,qU,Tryz.f5]
 ·obtain rfl:k=x.zJ.length:=by omega
  rw[zp,sr]at e;simp[E,F,g,h,i,Lb,j,e,qU,Tryz.f5]
theorem ry:zf prog 5 (zg false [] (R3 Lb)):=
 yt (fn:=Tryz.f5) Ny D2 false [] _ fun args r h=>by obtain⟨⟨b,s,f,t⟩,rfl,a,rfl⟩:=qd h;exact⟨zA (zi 4) (by decide),_,uN b s f t a,qa _⟩
theorem D3{B S:List Sp}(a:bU B)(b:bU S)(h:(Qw B S).length=0){k:Int}(c:mem B k):mem S k:=by
 refine Classical.byContradiction fun d=>?_
 have:=(pA a.1 b.1 (k:=k)).2 ⟨c,d⟩;obtain⟨s,hs,_⟩:=this;rw[qC.1 h]at hs;cases hs
theorem Bi{f t:Int}:∀{l:List y0} {B:List Sp},(∀p∈l,f<p.at_/\bU p.yk)->bU B->sr f t B l=true->∀k,mem B k->mem (xb B t l) k
 |[],B,_,_,_,k,a=>a
 |p::l,B,h,e,hs,k,a=>by
  obtain⟨o,g⟩:=h p (by simp);have i:=fun{j} (b:bU j) d=>Bi (f:=f) (t:=t) (l:=l) (B:=j) (fun q m=>h q (by simp[m])) b d
  simp only[sr]at hs;simp only[xb];by_cases c:p.at_<=t
  ·rw[zj (by omega)]at hs;rw[ze c];split at hs
   ·rename_i n;exact i g hs k (D3 e g n a)
   ·cases hs
  ·rw[ze (.inr (by omega))]at hs;rw[zj c];exact i e hs k a
theorem iz{n:Int}:∀{l:List y0} {a:List Sp},(∀p∈l,n<p.at_)->xb a n l=a
 |[],_,_=>rfl
 |p::l,a,h=>by have:=h p (by simp);simp only[xb];rw[zj (by omega)];exact iz fun q b=>h q (by simp[b])
theorem Bj{f t:Int}(g:f<=t):∀{l:List y0} {a:List Sp},l.Pairwise (fun p q=>p.at_<q.at_)->(∀p∈l,bU p.yk)->bU a->sr f t (xb a f l) l=true->∀k,mem (xb a f l) k->mem (xb a t l) k
 |[],_,_,_,_,_,_,e=>e
 |p::l,a,h,i,j,hs,k,e=>by
  rw[J1]at h;by_cases c:p.at_<=f
  ·simp only[xb,ze c]at hs e⊢;rw[ze (by omega)];simp only[sr]at hs;rw[ze (.inl c)]at hs;exact Bj g h.2 (fun q b=>i q (by simp[b])) (i p (by simp)) hs k e
  ·have d:∀q∈p::l,f<q.at_:=fun q b=>by
    rcases zC.1 b with rfl|b
    ·omega
    ·have:=h.1 q b;omega
   rw[iz d]at hs e;exact Bi (fun q b=>⟨d q b,i q b⟩) j hs k e
theorem Bm:∀{xs:List y0} {p:Option Int} {b:List Sp},uq p b xs=0->(∀q,p=some q->∀y∈xs,q<y.at_)/\xs.Pairwise fun a c=>a.at_<c.at_
 |[],_,_,_=>⟨(fun _ _ y hy=>by cases hy),.nil⟩
 |x::xs,p,b,h=>by
  simp only[uq]at h;split at h
  case isFalse=>simp at h
  split at h
  ·simp at h
  rename_i Y;split at h
  case isFalse c=>exact absurd h c
  split at h
  ·simp at h
  obtain⟨f,g⟩:=Bm h;have e:=f x.at_ rfl;refine⟨fun q i y hy=>?_,J1.2 ⟨e,g⟩⟩;subst i;have d:q<x.at_:=by simpa[eC]using Y
  rcases zC.1 hy with rfl|hy
  ·exact d
  ·have:=e y hy;omega
theorem D4{l:List y0}(h:yI l=0):l.Pairwise fun a c=>a.at_<c.at_:=by
 unfold yI at h;split at h
 ·simp at h
 ·exact(Bm h).2
theorem HQ{e id:Nat}{Y:Hp}(Z:Nat)(h:Y id=some ⟨e,2,true,[[int 3,int 5]]⟩):zg false [] (FP (fun l=>Dn (pB l)) fun _=>True) [.own id 0 1] Y Z=some (.q8 [int 2,int 0],Y,Z):=by refine wR (show zy Y [.own id 0 1]=some ([.sl 2 (([(3,5)]:List Sp).map wc)],ql Y id none) by simp[zy,qe,wg,h]) ?_ (.inl rfl);exact qx (V:=fun l:List Sp=>[O.sl 2 (l.map wc)]) (a:=[(3,5)]) (fun a b e=>by simp only[zc,zs]at e;exact xk e) trivial
def R5(args:zb):Option O:=if args.isEmpty then some (qO true)else none
noncomputable abbrev Caw:Ctx:=zG prog [(10,zg false [] (FP (fun l=>Dn (pB l)) fun _=>True))]
theorem rz{l:List qN}{b:Bk}{x:qf}{n:Int}(h:(Qx l b x n).2≠0):(Qx l b x n).1=[]:=by
 unfold Qx at h⊢;split
 ·rename_i a;rw[ze a]at h;split
  ·rename_i c;rw[ze c]at h;split
   ·rename_i d;rw[ze d]at h;exact absurd rfl h
   ·rfl
  ·rfl
 ·rfl
def rA(p:Pl):jV:=⟨45,4,false,[vL p]⟩
theorem BG{l:List Sp}{n:Int}:l.any (X2 n)=true↔mem l n:=by rw[Iw];simp only[X2,zx,qG];exact Iff.rfl
theorem D5{l:List qN}{b:Bk}{x:qf}{s:za}{f t:Int}(a:(bB b s f t).1=true)(q:(Qx l b x f).2=0)(r:(Qx l b x t).2=0):∀p∈(Qx l b x f).1,p.ex=s->p∈(Qx l b x t).1:=by
 intro p Y hs;have g:∀n,(Qx l b x n).2=0->(Qx l b x n).1=Xa l b x n b.zq/\wK b=0:=fun n d=>by
  unfold Qx at d⊢;split at d
  case isFalse c=>exact absurd d c
  rename_i m;split at d
  case isFalse c=>simp at d
  rename_i u;split at d
  case isFalse c=>exact absurd d c
  rename_i v;rw[ze m,ze u,ze v];exact⟨rfl,(bZ m).2.1⟩
 obtain⟨w,o⟩:=g f q;obtain⟨z,_⟩:=g t r;rw[w]at Y;rw[z];obtain⟨y,A,B,e,i,k,rfl⟩:=b8.1 Y;refine b8.2 ⟨y,A,B,e,i,?_,rfl⟩;obtain⟨C,D,E⟩:=rv k;have hs:e.name=s:=hs;obtain⟨j,F,G⟩:=D0 o i;unfold bB at a;split at a
 case isFalse=>simp at a
 split at a
 case isFalse=>simp at a
 split at a
 ·simp at a
 rename_i H;rw[<-hs,G]at a;simp only[F]at a;have h:=((uJ o).2.1 e i).1;have I:=Bj (by omega) (D4 h) (fun p Y=>mb (Q8 h p Y)) Bh a (Ql y.w5 x.key) (BG.1 D);simp only[uK,zx,jh];exact⟨C,BG.2 I,E⟩
theorem HR{b:Bk}{s:za}{f t:Int}(h:(bB b s f t).2≠0):(bB b s f t).1=false:=by
 unfold bB at h⊢;split
 ·rename_i a;rw[ze a]at h;split
  ·rename_i c;rw[ze c]at h;split
   ·rfl
   ·rename_i d;rw[zj d]at h;split
    ·rename_i x e;rw[e]at h;exact absurd rfl h
    ·rfl
  ·rfl
 ·rfl
theorem rB{l:List qN}{b:Bk}{x:qf}{n:Int}:(Qx l b x n).1.length<=2000:=by
 have:=mv l b x n b.zq;unfold Qx;split
 ·rename_i c;obtain⟨a,d⟩:=rl (bZ c).2.1;have e:=Nat.mul_le_mul a d;split
  ·split
   ·simp only;omega
   ·simp
  ·simp
 ·simp
end Go.Q
