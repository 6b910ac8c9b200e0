/- Lemmas. -/
import Derived.Shelf.SlSortCmp.WholeK
import Derived.Shelf.SlSortCmp.NoneTotal
import Derived.Test.YtmbfinldjgmhaaaGreatDoorProg
import Derived.RangeFuncBox
import Derived.RangeFuncLeaves
import Derived.Shelf.Abstract
import Derived.WalkKit
import Derived.OwnWalkIn
import Derived.TacticsInMore
import Derived.LoopNIn
import Derived.LoopIn
import Derived.Test.YtmbfinldjgmhaaaGreatDoorG7
set_option maxRecDepth 100000
set_option maxHeartbeats 4000000
open Go Proofs Proofs.YtmbfinldjgmhaaaGreatDoor Proofs.Tryz RowKit AM SpanLaw Q Zz
open Go.IntKind renaming i64→i6
namespace Go.Q
def qV:List qN->List Cut
 |[]=>[]
 |s::l=>(if s.y7=true then[s.lo]else[s.lo,s.hi])++qV l
theorem Wd(a b:List qN):qV (a++b)=qV a++qV b:=by
 induction a with
 |nil=>rfl
 |cons s a c=>simp only[qX,qV,c,qT]
theorem ZT(a:List qN):(qV a).length<=2*a.length:=by
 induction a with
 |nil=>simp[qV]
 |cons s a b=>simp only[qV,qD,z7];split<;>simp<;>omega
theorem YH{Q:Cut->Prop}{a:List qN}(h:∀s∈a,Q s.lo/\Q s.hi):∀c∈qV a,Q c:=by
 induction a with
 |nil=>intro c hc;cases hc
 |cons s a d=>
  intro c hc;obtain⟨b,e⟩:=h s (by simp);simp only[qV,zF]at hc;rcases hc with hc|hc
  ·split at hc
   ·rw[qB]at hc;rw[hc];exact b
   ·simp only[zv,ir,or_false]at hc;rcases hc with rfl|rfl
    ·exact b
    ·exact e
  ·exact d (fun x f=>h x (by simp[f])) c hc
noncomputable def Qv (l:List Cut):List Cut:=(Ws Oh (q7 l)).map Fg
theorem Fh(l:List Cut):Ws Oh (q7 l)=q7 (Qv l):=by obtain⟨s,h,_⟩:=VZ l;unfold Qv;rw[h,VY]
theorem x1(l:List Cut):(Qv l).Perm l:=by obtain⟨s,h,a,_⟩:=VZ l;unfold Qv;rw[h,VY];exact a
theorem o7(l:List Cut):(Qv l).Pairwise fun a b=>wv a b<=0:=by obtain⟨s,h,_,c⟩:=VZ l;unfold Qv;rw[h,VY];exact c
noncomputable def kv (f:Bool->Bool->Bool) (a b:List qN):List qN:=(Vj (fun c=>f (yt a c) (yt b c)) (Qv (qV a++qV b)) (false,[])).2
theorem BV(out:List qN)(c:Cut):(Qu out c).length=out.length:=by
 unfold Qu;split
 ·rename_i s h;have:out≠[]:=by rintro rfl;cases h
  have:=kZ.2 this;simp;omega
 ·rfl
theorem Hb(a:Cut->Bool):∀(l:List Cut) (st:Bool×List qN),2*(Vj a l st).2.length+(if st.1=true then 1 else 0)<=2*st.2.length+l.length+(if(Vj a l st).1=true then 1 else 0)
 |[],st=>by show 2*st.2.length+(if st.1=true then 1 else 0)<=2*st.2.length+0+(if st.1=true then 1 else 0);omega
 |c::l,st=>by
  have b:=Hb a l (aT a st c);have e:Vj a (c::l) st=Vj a l (aT a st c):=rfl;rw[e];have hs:2*(aT a st c).2.length+(if st.1=true then 1 else 0)<=2*st.2.length+1+(if(aT a st c).1=true then 1 else 0):=by obtain⟨o,out⟩:=st;unfold aT;cases a c<;>cases o<;>simp[BV]<;>omega
  simp only[z7];omega
theorem Yq(f:Bool->Bool->Bool)(a b:List qN):(kv f a b).length<=a.length+b.length:=by have h:=Hb (fun c=>f (yt a c) (yt b c)) (Qv (qV a++qV b)) (false,[]);have d:=(x1 (qV a++qV b)).length_eq;have e:=ZT a;have g:=ZT b;rw[qD]at d;unfold kv;simp only[zO,wx,xT]at h;split at h<;>omega
theorem BW{Q:Cut->Prop}{out:List qN}{c:Cut}(h:∀s∈out,Q s.lo/\Q s.hi)(b:Q c):∀s∈Qu out c,Q s.lo/\Q s.hi:=by
 unfold Qu;split
 ·rename_i s hs;intro x a;rcases zF.1 a with a|a
  ·exact h x (List.dropLast_subset _ a)
  ·rw[qB]at a;rw[a];exact⟨(h s (List.mem_of_getLast? hs)).1,b⟩
 ·exact h
theorem Hc{Q:Cut->Prop}(b:Q QL)(a:Cut->Bool):∀(l:List Cut) (st:Bool×List qN),(∀c∈l,Q c)->(∀s∈st.2,Q s.lo/\Q s.hi)->∀s∈(Vj a l st).2,Q s.lo/\Q s.hi
 |[],st,_,h=>h
 |c::l,st,d,h=>by
  refine Hc b a l (aT a st c) (fun x f=>d x (by simp[f])) ?_;have e:=d c (by simp);unfold aT;dsimp only;split
  ·intro s hs;rcases zF.1 hs with hs|hs
   ·exact h s hs
   ·rw[qB]at hs;rw[hs];exact⟨e,b⟩
  ·split
   ·exact BW h e
   ·exact h
theorem rR{Q:Cut->Prop}(d:Q QL)(f:Bool->Bool->Bool){a b:List qN}(e:∀s∈a,Q s.lo/\Q s.hi)(g:∀s∈b,Q s.lo/\Q s.hi):∀s∈kv f a b,Q s.lo/\Q s.hi:=
 Hc d _ _ _ (fun c i=>by
  have:=(x1 _).mem_iff.1 i;rcases zF.1 this with h|h
  ·exact YH e c h
  ·exact YH g c h) (fun s hs=>by cases hs)
end Go.Q
namespace Go.AM
variable{dr:Prop}
def eE(p:List (Option Nat))(b:kn):kn:=⟨b.e,b.s,b.arr,b.es.map (QI p)⟩
theorem vQ.fixed{P:Program}{w:World}{S:Nat->Prop}{G:Nat->GI}{Z:Nat}{g:GI}{b:kn}(h:vQ P w S G Z g b)(e:0<g.s)(o:b.arr=true)(p:List (Option Nat)):vQ P w S G Z g (eE p b):=by
 refine vQ.vD e h.bs ⟨h.size e,fun c q=>?_,by simpa[eE]using h.fit e,?_⟩
 ·obtain⟨a,d,rfl⟩:=qp.1 q;rw[vU];exact h.len e a d
 ·obtain⟨k,r,t,v⟩:=h.row e;refine⟨k,r,t,fun i j c A hi l=>?_⟩;simp only[eE,qf]at hi;obtain⟨a,d,rfl⟩:∃a,b.es[i]?=some a/\QI p a=c:=by
   cases m:b.es[i]? with
   |none=>rw[m]at hi;cases hi
   |some a=>rw[m]at hi;injection hi with hi;exact⟨a,rfl,hi⟩
  have f:j<a.length:=by have:=(zd.1 l).1;rwa [vU]at this
  obtain⟨u,x,y,_,z⟩:=v i j a a[j] d (zj f);have n:=(Zj p a).get (zj f) l _ _ _ (y o);exact⟨u,x,fun _=>n,.c n,z⟩
theorem kd.fixed{P:Program}{Y:Hp}{Z:Nat}{S:Nat->Prop}{G:Nat->GI}{w:World}{Y2:Hp}{g:Nat}{m:Nat->Prop}{j:Nat->GI}{n:World}(k:kd dr P Y Z S G w Y2 g m j n)
  {id:Nat} {b:kn} (o:Y2 id=some b) (r:b.arr=true) (t:0<(j id).s) (p:List (Option Nat)):kd dr P Y Z S G w (qt Y2 id (some (eE p b))) g m j n:=by
 have d:∀k c,qt Y2 id (some (eE p b)) k=some c->∃f,Y2 k=some f:=fun k c q=>by
  by_cases e:k=id
  ·subst e;exact⟨b,o⟩
  ·rw[qL _ _ _ _ e]at q;exact⟨c,q⟩
 refine⟨⟨k.inv.st,fun i c a=>?_,fun i c a=>?_,fun i c a=>?_,fun i i' c u a l v=>?_,k.inv.gD⟩,k.up,k.loc,k.keep,k.from_,fun i c a=>?_,k.fr⟩
 ·obtain⟨f,h⟩:=d i c a;exact k.inv.top i f h
 ·by_cases e:i=id
  ·subst e;rw[wP]at a;injection a with a
   subst a;exact(k.inv.live i b o).fixed t r p
  ·rw[qL _ _ _ _ e]at a;exact k.inv.live i c a
 ·obtain⟨f,h⟩:=d i c a;exact k.inv.apart i f h
 ·obtain⟨f,h⟩:=d i c a;obtain⟨x,y⟩:=d i' u l;exact k.inv.inj i i' f x h y v
 ·obtain⟨f,h⟩:=d i c a;exact k.own i f h
def vA(a:List Sh)(F:zb->Option (Option kn)):AM.Spec:=yh [] fun args=>F (cw a args)
def BX(p:List (Option Nat))(r:Option kn)(x:O)(Y:Hp)(_:Nat):Prop:=match r with
 |none=>x=.nil
 |some b=>∃id a,x=.own id 0 a.es.length/\Y id=some a/\a.arr=true/\b=eE p a
section
variable{C:Ctx}{pf:FuncId->Bool}{f:FuncId}{fn:Func}{code:Code}
theorem Jw(W:vR dr C pf)(l:QU C pf f fn)(z:List Sh)(p:List (Option Nat))(F:zb->Option (Option kn))(hF:∀args r,F args=some r->args.length<=fn.ntmps/\∃x Y Z,je C fn args (fun _=>none) 0=some (x,Y,Z)/\BX p r x Y Z) :
  jr dr C.P f (vA z F):=by
 obtain⟨_,l⟩:=l;refine⟨⟨fn,l.func,l.name,by rw[l.body];rfl⟩,?_⟩;intro args Y Z r Y' Z' h w S G vs hi hz;unfold vA yh at h;split at h
 ·rename_i aZ Y1 A;obtain⟨S1,g,t,_⟩:=yP (dr:=dr) hi A hz;have j:∀id b,Y1 id=some b->Y1 id=some b/\¬False:=fun id b h=>⟨h,fun h=>h⟩
  split at h
  ·rename_i m;obtain⟨B,x,E,H,n,d⟩:=hF _ none m;injection h with h
   injection h with I h;injection h with J K;subst I;subst J;subst K;simp only[BX]at d;subst d;refine(ZN W l n B g.inv.st g.inv.gD (JP (Qo t))).mono fun e w' L=>?_
   obtain⟨v,S',G',M,N,a,Q,o,q,_⟩:=L;have R:=dU (dr:=dr) (D:=fun _=>False) (Y2:=Y1) g.inv j (fun _ h=>h.elim) N a o (fun b T=>(q b T).imp (fun h=>h) .inr);have:=Q.Zp;subst this;exact⟨_,_,_,M,g.trans R,.c .nil⟩
  ·rename_i b m;obtain⟨B,x,E,H,n,d⟩:=hF _ (some b) m;injection h with h
   injection h with I h;injection h with J K;subst I;subst J;subst K;obtain⟨id,s,rfl,hid,k,rfl⟩:=d;refine(ZN W l n B g.inv.st g.inv.gD (JP (Qo t))).mono fun e w' L=>?_
   obtain⟨v,S',G',M,N,a,Q,o,q,u⟩:=L;have R:=Bg (dr:=dr) (D:=fun _=>False) (Y2:=Y1) g.inv j (fun _ h=>h.elim) N a o (fun b T=>(q b T).imp (fun h=>h) .inr) hid k (.inr (u id s hid));have y:=Bh (Z:=Z) (G:=G) Q;have X:=R.fixed (id:=Z) (by simp) k y.xg p;rw[show qt (qt Y1 Z (some s)) Z (some (eE p s))=qt Y1 Z (some (eE p s)) by funext i;unfold qt;split<;>rfl]at X;refine⟨_,_,_,M,g.trans X,?_⟩;rw[show(eE p s).es.length=s.es.length by simp[eE]];exact y
  ·cases h
 ·cases h
end
end Go.AM
namespace Go.Proofs
open Go.Shelf
def Tryz.MA:Go.Shelf.Ren:=⟨fun|6=>180|15=>42|14=>221|28=>84|29=>85|20=>250|21=>251|22=>252|23=>253|24=>254|25=>255|26=>256|27=>257|46=>274|47=>117|48=>118|49=>275|50=>276|57=>284|n=>n,fun|22=>204|24=>174|25=>207|3=>3|39=>83|0=>0|53=>116|55=>118|4=>4|46=>109|45=>108|50=>64|5=>5|9=>9|66=>137|70=>141|76=>181|77=>67|n=>n,fun|n=>n⟩
theorem Tryz.za5:Go.Proofs.SlLaysF0.n6 prog Tryz.MA:={
 mixed:=by kernel_rfl
 f6:=⟨f180.name,by decide,func180.trans (zu some (by kernel_rfl))⟩
 f14:=⟨f221.name,by decide,func221.trans (zu some (by kernel_rfl))⟩
 f15:=func42.trans (zu some (by kernel_rfl))
 f20:=⟨f250.name,by decide,func250.trans (zu some (by kernel_rfl))⟩
 f21:=⟨f251.name,by decide,func251.trans (zu some (by kernel_rfl))⟩
 f22:=⟨f252.name,by decide,func252.trans (zu some (by kernel_rfl))⟩
 f23:=⟨f253.name,by decide,func253.trans (zu some (by kernel_rfl))⟩
 f24:=⟨f254.name,by decide,func254.trans (zu some (by kernel_rfl))⟩
 f25:=⟨f255.name,by decide,func255.trans (zu some (by kernel_rfl))⟩
 f26:=⟨f256.name,by decide,func256.trans (zu some (by kernel_rfl))⟩
 f27:=⟨f257.name,by decide,func257.trans (zu some (by kernel_rfl))⟩
 f28:=func84.trans (zu some (by kernel_rfl))
 f29:=func85.trans (zu some (by kernel_rfl))
 f46:=⟨f274.name,by decide,func274.trans (zu some (by kernel_rfl))⟩
 f47:=func117.trans (zu some (by kernel_rfl))
 f48:=func118.trans (zu some (by kernel_rfl))
 f49:=⟨f275.name,by decide,func275.trans (zu some (by kernel_rfl))⟩
 f50:=⟨f276.name,by decide,func276.trans (zu some (by kernel_rfl))⟩
 f57:=⟨f284.name,by decide,func284.trans (zu some (by kernel_rfl))⟩
 t0:=underlying0
 a0:=isAgg0
 z0:=sizeOf0
 v0:=zeroValue0
 t3:=underlying3
 a3:=isAgg3
 z3:=sizeOf3
 v3:=zeroValue3
 t4:=underlying4
 a4:=isAgg4
 z4:=sizeOf4
 v4:=zeroValue4
 t5:=underlying5
 a5:=isAgg5
 z5:=sizeOf5
 v5:=zeroValue5
 t9:=underlying9
 a9:=isAgg9
 z9:=sizeOf9
 v9:=zeroValue9
 t22:=underlying204
 a22:=isAgg204
 z22:=sizeOf204
 v22:=zeroValue204
 t25:=underlying207
 a25:=isAgg207
 z25:=sizeOf207
 v25:=zeroValue207
 t39:=underlying83
 a39:=isAgg83
 z39:=sizeOf83
 v39:=zeroValue83
 t45:=underlying108
 a45:=isAgg108
 z45:=sizeOf108
 v45:=zeroValue108
 t46:=underlying109
 a46:=isAgg109
 z46:=sizeOf109
 v46:=zeroValue109
 t50:=underlying64
 a50:=isAgg64
 z50:=sizeOf64
 v50:=zeroValue64
 t53:=underlying116
 a53:=isAgg116
 z53:=sizeOf116
 v53:=zeroValue116
 t55:=underlying118
 a55:=isAgg118
 z55:=sizeOf118
 v55:=zeroValue118
 t66:=underlying137
 a66:=isAgg137
 z66:=sizeOf137
 v66:=zeroValue137
 t70:=underlying141
 a70:=isAgg141
 z70:=sizeOf141
 v70:=zeroValue141
 t76:=underlying181
 a76:=isAgg181
 z76:=sizeOf181
 v76:=zeroValue181
 t77:=underlying67
 a77:=isAgg67
 z77:=sizeOf67
 v77:=zeroValue67}
theorem Tryz.Rz:Og prog 180 5:=⟨fun _ _ V e f h i g blk off cap d w j a k b c=>AnyQ.slices_SortFunc_eq Tryz.za5 5 isAgg174 sizeOf174 V e f h i g #[] blk off cap d w j a k b c,
 fun p cap l w=>AnyF.slices_SortFunc_none Tryz.za5 p cap l w⟩
end Go.Proofs
namespace Go.Q
theorem mA:zg prog 180 (my 5 181 Oh S9):=
 BU (by decide) ⟨_,func180,by kernel_rfl,by kernel_rfl⟩ Tryz.Rz zbW
noncomputable def FBB (f:Bool->Bool->Bool):zb->Option O:=qu (α:=Bool×Bool) (fun a=>[q8 a.1,q8 a.2]) (fun _=>True) (fun a=>q8 (f a.1 a.2))
theorem BZ(f:Bool->Bool->Bool)(a b:Bool)(Y:Hp)(Z:Nat):zi false [] (FBB f) [q8 a,q8 b] Y Z=some (q8 (f a b),Y,Z):=
 Js (a,b) _ _ rfl (fun x y e=>by obtain⟨c,d⟩:=x;obtain⟨g,h⟩:=y;simp only[zl,zM]at e;rw[Ym e.1,Ym e.2]) trivial (.inl rfl)
theorem B0:zg prog 143 (zi false [] (FBB and)):=
 Z2 jY func143 false [] fun⟨a,b⟩ _=>⟨by simp[f143],_,zn rfl (by cases a<;>simp[wc,f143]),qq _⟩
theorem Fi:zg prog 144 (zi false [] (FBB or)):=
 Z2 jY func144 false [] fun⟨a,b⟩ _=>⟨by simp[f144],_,zn rfl (by cases a<;>simp[wc,f144]),qq _⟩
theorem o8{Y:Hp}{Z:Nat}{v:O}{l:List Cut}(h:qU Y Z 174 5 v (q7 l))(hs:∀c∈l,c.v.small)(k:l.length<4611686018427387904) :
  ∃Y',my 5 181 Oh S9 [v,.fn (.func 181) [] []] Y Z=some (.wq [],Y',Z)/\qU Y' Z 174 5 v (q7 (Qv l))/\∀j,(∀n,v≠.own j 0 n)->Y' j=Y j:=by
 have a:(q7 (Qv l)).length=(q7 l).length:=by have:=(x1 l).length_eq;simpa[q7]using this
 rcases h with⟨rfl,m⟩|⟨id,f,rfl,b⟩
 ·refine⟨Y,rfl,.inl ⟨rfl,?_⟩,fun _ _=>rfl⟩;rw[m]at a;exact qj.1 a
 ·by_cases d:(q7 l).length=0
  ·refine⟨Y,by simp only[my,zf d],?_,fun _ _=>rfl⟩;have g:q7 l=[]:=qj.1 d;rw[g]at a b;have o:=qj.1 a;rw[g,o];exact .inr ⟨id,f,rfl,b⟩
  ·refine⟨qt Y id (some ⟨174,5,true,q7 (Qv l)⟩),?_,.inr ⟨id,f,by rw[a],by simp⟩,fun j p=>zm _ _ _ _ fun e=>p (q7 l).length (by subst e;rfl)⟩;unfold my;simp only[zc d,b];rw[zf ⟨rfl,rfl,rfl,by simp,by simpa[q7]using k,by simpa using Oi l,fun x i=>by simp only[kc,wJ]at i;obtain⟨c,q,rfl⟩:=qp.1 i;exact⟨c,rfl,hs c q⟩⟩]
   simp[Fh]
theorem rS{c:zb}{s:qN}(h:QI jo c=s.V):∃d k l m n o e,c=[int s.lo.v.a,int s.lo.v.b,int s.lo.v.c,d,q8 s.lo.after,k,l,m,n,o,e]/\n1 1 d=.sl 1 (zH s.lo.v.pre)/\d.wH=true:=by
 have f:=vU jo c;rw[h]at f;simp[qN.V,Cut.V]at f
 match c,f with
 |[B,C,D,i,E,p,q,r,t,u,g],_=>simp[qN.V,Cut.V]at h;obtain⟨w,x,y,j,z,F,G,H,I,J,A⟩:=h;subst w;subst x;subst y;subst z;refine⟨i,p,q,r,t,u,g,rfl,j,?_⟩;cases i<;>first|rfl|(simp[n1]at j)
theorem fM{out:List qN}{m:Nat}(b:m<out.length)(g:out.length=m+1)(c:Cut):Qu out c=out.set m ⟨out[m].lo,c,false⟩:=by
 unfold Qu;have a:out≠[]:=by rintro rfl;simp at b
 rw[List.getLast?_eq_some_getLast a];have d:out.getLast a=out[m]:=by rw[List.getLast_eq_getElem];congr 1;omega
 simp only[d];apply List.ext_getElem
 ·simp;omega
 ·intro i hi f;rw[List.getElem_set];split
  ·rename_i e;subst e;rw[List.getElem_append_right (by simp;omega)];simp
  ·rw[List.getElem_append_left (by simp at hi⊢;omega)];simp
theorem B4(a:Cut->Bool)(st:Bool×List qN)(c:Cut)(h:st.1=true->st.2≠[]):(aT a st c).1=true->(aT a st c).2≠[]:=by obtain⟨o,out⟩:=st;unfold aT;cases a c<;>cases o<;>simp at h⊢<;>assumption
theorem cS(l:List qN)(c:Cut)(Y:Hp)(Z:Nat)(b:yK l)(d:c.v.small):qA [.s 11 jo,.g jz] (FRC fun l c=>q8 (yt l c)) [.sl 11 (z6 l),.agg c.V] Y Z=some (q8 (yt l c),Y,Z):=
 vH (show zw Y [.sl 11 (z6 l),.agg c.V]=some ([.sl 11 (z6 l),.agg c.V],Y) by simp[Cut.V]) (by
  have e:(Sh.s 11 jo).fix (.sl 11 (z6 l))=.sl 11 (z6 l):=by simp only[Sh.oG,z6,UO];congr 1
  have f:(Sh.g jz).fix (.agg c.V)=.agg c.V:=by simp[Cut.V]
  show FRC _ [(Sh.s 11 jo).fix (.sl 11 (z6 l)),(Sh.g jz).fix (.agg c.V)]=_;rw[e,f];exact qG (V:=fun a:List qN×Cut=>[O.sl 11 (z6 a.1),.agg a.2.V]) (a:=(l,c)) zbV ⟨b,d⟩) (.inl rfl)
noncomputable abbrev Ccmb:Ctx:=zW prog [(180,my 5 181 Oh S9),(182,qA [.s 11 jo,.g jz] (FRC fun l c=>q8 (yt l c))),
 (143,zi false [] (FBB and)),(144,zi false [] (FBB or))]
theorem Tb:AM.Good Ccmb (fun g=>[182].contains g):=qx mixed ⟨mA,by simp,ub,fun _=>yR _ _,B0,by simp,Fi,by simp,trivial⟩
theorem rT{l:List qN}{k:Nat}(h:k<l.length):qV (l.take (k+1))=qV (l.take k)++(if l[k].y7=true then[l[k].lo]else[l[k].lo,l[k].hi]):=by rw[ql h,Wd];simp[qV]
theorem B5(a:Cut->Bool){l:List Cut}{k:Nat}(h:k<l.length)(st:Bool×List qN):Vj a (l.take (k+1)) st=aT a (Vj a (l.take k) st) l[k]:=by unfold Vj;rw[ql h,List.foldl_append];rfl
theorem rU(a b:List Cut):q7 (a++b)=q7 a++q7 b:=by simp[q7]
noncomputable def Wt (f:Bool->Bool->Bool) (a b:List qN):Option kn:=if kv f a b=[]then none else some ⟨176,11,true,z6 (kv f a b)⟩
theorem I4(i o n:Nat)(Y:Hp):QM (.own i o n) Y=qt Y i none:=rfl
theorem B6{Y:Hp}{Z e s:Nat}{v:O}{xs:List zb}(h:qU Y Z e s v xs){j:Nat}(a:Z<=j):∀n,v≠.own j 0 n:=by
 rcases h with⟨rfl,_⟩|⟨id,b,rfl,_⟩
 ·intro n e;cases e
 ·intro n e;injection e with e;omega
theorem cT(f:Bool->Bool->Bool)(hv:O)(Ry:∀x y Y Z,jG Ccmb Y Z (some hv) [q8 x,q8 y]=some (q8 (f x y),Y,Z))(a b:List qN)(ha:yK a)(hb:yK b) :
  ∃x Y Z,je Ccmb f142 [.sl 11 (z6 a),.sl 11 (z6 b),hv] (fun _=>none) 0=some (x,Y,Z)/\BX jo (Wt f a b) x Y Z:=by
 refine qz rfl ?_;have hsa:=ha;have hsb:=hb;obtain⟨ha1,ha2⟩:=ha;obtain⟨hb1,hb2⟩:=hb;unfold zx at ha1 hb1;obtain⟨ls,hls⟩:∃ls:List (List qN),[a,b]=ls:=⟨_,rfl⟩;obtain⟨rows,S⟩:∃rows:List zb,[[O.sl 11 (z6 a)],[.sl 11 (z6 b)]]=rows:=⟨_,rfl⟩;have K:∀i,i<2->∃l:List qN,(qV (ls.take (i+1)).flatten=qV (ls.take i).flatten++qV l)/\rows[i]?=some [O.sl 11 (z6 l)]/\l.length<=268435456/\(∀s∈l,s.small)/\(qV (ls.take i).flatten).length<=536870912:=by
  intro i hi;rw[<-hls,<-S];rcases(by omega:i=0\/i=1)with rfl|rfl
  ·exact⟨a,by simp[qV],rfl,ha1,ha2,by simp[qV]⟩
  ·exact⟨b,by simp[Wd],rfl,hb1,hb2,by have:=ZT a;simp;omega⟩
 simp[zp,zy,zo,S];refine zT (fun i U Y Z=>U 0=.sl 11 (z6 a)/\U 1=.sl 11 (z6 b)/\U 2=hv/\U 19=.own 0 0 2/\U 20=int 2/\U 21=int i/\1<=Z/\Y 0=some ⟨132,1,true,rows⟩/\(∀n,U 7≠.own 0 0 n)/\qU Y Z 174 5 (U 7) (q7 (qV (ls.take i).flatten))) 2
  ⟨by simp,by simp,by simp,by simp,by simp,by simp,by simp,by simp,by simp,.inl ⟨by simp,by simp[qV,q7]⟩⟩ ?_
 rintro i U Y Z hi ⟨E,F,G,u,w,z,T,b0,L,A⟩;by_cases hlt:i<2
 ·obtain⟨l,hl,hr,hll,hls2,hcl⟩:=K i hlt;obtain⟨hr1,hr2⟩:=zd.1 hr;have hw:=qH i;have p:(z6 l).length=l.length:=by simp[z6]
  have hltI:(i:Int)<2:=by omega
  simp[E,F,G,u,w,z,hltI,hlt,b0,hr1,hr2,p];refine zT (fun k U Y Z=>U 0=.sl 11 (z6 a)/\U 1=.sl 11 (z6 b)/\U 2=hv/\U 19=.own 0 0 2/\U 20=int 2/\U 21=int i/\1<=Z/\Y 0=some ⟨132,1,true,rows⟩/\(∀n,U 7≠.own 0 0 n)/\qU Y Z 174 5 (U 7) (q7 (qV (ls.take i).flatten++qV (l.take k))) /\
   U 25=.sl 11 (z6 l)/\U 26=int l.length/\U 27=int k) l.length
   ⟨by simp[E],by simp[F],by simp[G],by simp[u],by simp[w],by simp[z],T,b0,by simpa using L,by simpa[qV]using A,by simp,by simp,by simp⟩ ?_
  clear E F G u w z T b0 L A hi U Y Z;rintro k U Y Z hk ⟨E,F,G,u,w,z,T,b0,L,A,h25,h26,h27⟩;by_cases j:k<l.length
  ·have H:=qH k;have r:∀h:k<(z6 l).length,(z6 l)[k]=l[k].V:=fun h=>by simp[z6]
   have hcn:=ZT (l.take k);rw[yV]at hcn;have U6:=rT j;obtain⟨xs,g⟩:=jj (q7 (qV (ls.take i).flatten++qV (l.take k)));have B:xs.length<=1073741824+2:=by rw[<-g];simp[q7];omega
   rw[g]at A;have hE:q7 (qV (ls.take i).flatten++qV (l.take (k+1)))=xs++(if l[k].y7=true then[l[k].lo]else[l[k].lo,l[k].hi]).map Cut.V:=by rw[U6,<-qT,rU,g];rfl
   have hkn:=fun Y'=>yi A Y' Z (B6 A (ze _))
   have hk0:=fun Y'=>yi A Y' 0 L
   obtain⟨s,hs⟩:=jj (l[k]);rw[hs]at U6 r hE;have q:=qU.yS (P:=prog) (t:=204) (c:=s.lo.V) (A.more (some ⟨176,11,false,[s.V]⟩)) fC cy ru rv rfl (by omega) (by unfold maxLen;omega) (by omega);have W:=qU.after (Y:=qt Y Z (some ⟨176,11,false,[s.V]⟩)) (Z:=Z+1) (e:=174) (s:=5) (v:=U 7) (xs:=xs) (c:=s.lo.V) (tmp:=some ⟨174,5,true,[s.lo.V]⟩);have C:=qU.yS (P:=prog) (t:=204) (c:=s.hi.V) W fC cy ru rv rfl (by omega) (by simp;unfold maxLen;omega) (by simp;omega);rw[show(xs++[s.lo.V]).length=xs.length+1 by simp,qT,show[s.lo.V]++[s.hi.V]=[s.lo.V,s.hi.V]from rfl]at C;have X:=qU.after (Y:=qt (QM (U 7) (qt (qt Y Z (some ⟨176,11,false,[s.V]⟩)) (Z+1) (some ⟨174,5,true,[s.lo.V]⟩))) (Z+1+1) (some ⟨174,5,true,xs++[s.lo.V]⟩)) (Z:=Z+1+2) (e:=174) (s:=5) (v:=.own (Z+1+1) 0 (xs.length+1)) (xs:=xs++[s.lo.V]) (c:=s.hi.V) (tmp:=some ⟨174,5,true,[s.hi.V]⟩);rw[show(xs++[s.lo.V]).length=xs.length+1 by simp,qT,show[s.lo.V]++[s.hi.V]=[s.lo.V,s.hi.V]from rfl]at X;simp only[qN.V,Cut.V,qX,kj]at q C W X r;have m1:¬Z=Z+1+1:=by omega
   have m2:¬Z=Z+1+2:=by omega
   have m3:¬Z=Z+1+2+1:=by omega
   have n1:¬0=Z:=by omega
   have n2:¬0=Z+1:=by omega
   have n3:¬0=Z+2:=by omega
   have n4:¬0=Z+3:=by omega
   have n5:¬0=Z+4:=by omega
   cases M:s.y7
   ·rw[M]at U6;rw[M]at q C W X r;simp[E,F,G,u,w,z,h25,h26,h27,j,p,r,q,C,hkn,H,m1,m2,m3,zp,zy,zo];refine⟨by omega,?_,?_⟩
    ·simp[I4,hk0,b0,n1]
    ·rw[hE,M];simp only[zO,wx,wg,K2,Cut.V];exact X
   ·rw[M]at U6;rw[M]at q C W X r;simp[E,F,G,u,w,z,h25,h26,h27,j,p,r,q,hkn,H,m1,m2,m3,zp,zy,zo];refine⟨by omega,?_,?_⟩
    ·simp[hk0,b0,n1]
    ·rw[hE,M];simp only[qI,wg,K2,Cut.V];exact W
  ·obtain rfl:k=l.length:=by omega
   rw[wJ,<-hl]at A;simp[E,F,G,u,w,z,h25,h26,h27,hw];exact⟨by omega,T,b0,L,A⟩
 ·obtain rfl:i=2:=by omega
  have hls3:(ls.take 2).flatten=a++b:=by rw[<-hls];simp
  rw[hls3]at A;have Gy:∀c∈qV (a++b),c.v.small:=YH (Q:=fun c=>c.v.small) fun s hs=>by
   rcases zF.1 hs with h|h
   ·exact ha2 s h
   ·exact hb2 s h
  have hcl:=ZT (a++b);rw[qD]at hcl;obtain⟨Y',I,R5,hfr'⟩:=o8 A Gy (by omega);obtain⟨v,hv7⟩:=jj (U 7);obtain⟨cs,hcs⟩:=jj (Qv (qV (a++b)));have hcsl:cs.length<=1073741824:=by rw[<-hcs,(x1 _).length_eq];omega
  have hcsm:∀c∈cs,c.v.small:=fun c hc=>Gy c ((x1 _).mem_iff.1 (by rw[hcs];exact hc))
  have hfin:kv f a b=(Vj (fun c=>f (yt a c) (yt b c)) cs (false,[])).2:=by rw[<-hcs,Wd];rfl
  obtain⟨is,his⟩:∃is:Cut->Bool,(fun c=>f (yt a c) (yt b c))=is:=⟨_,rfl⟩;have hisc:∀c,f (yt a c) (yt b c)=is c:=fun c=>by rw[<-his]
  rw[his]at hfin;rw[hv7]at I R5;rw[hcs]at R5;clear A hcs Gy K hls3;have hlen:=R5.len fC;have p:(q7 cs).length=cs.length:=by simp[q7]
  rw[p]at hlen;simp[E,F,G,u,w,z,hv7,I,hlen];refine zT (fun k U Y Z=>U 0=.sl 11 (z6 a)/\U 1=.sl 11 (z6 b)/\U 2=hv/\U 48=v/\U 49=int cs.length/\U 50=int k/\qU Y Z 174 5 v (q7 cs)/\∃xs,qU Y Z 176 11 (U 12) xs/\xs.map (QI jo)=z6 (Vj is (cs.take k) (false,[])).2 /\
    U 13=q8 (Vj is (cs.take k) (false,[])).1/\(∀id n m,v=.own id 0 n->U 12≠.own id 0 m)/\((Vj is (cs.take k) (false,[])).1=true->(Vj is (cs.take k) (false,[])).2≠[])/\xs.length<=k/\(xs=[]->U 12=.nil)) cs.length
   ⟨by simp[E],by simp[F],by simp[G],by simp,by simp,by simp,R5,[],.inl ⟨by simp,rfl⟩,by simp[Vj,z6],by simp[Vj],by simp,by simp[Vj],by simp,by simp⟩ ?_
  clear E F G u w z T b0 L R5 hi U Y Z hlt I hlen hfr' hv7 Y';rintro k U Y Z hk ⟨E,F,G,h48,h49,h50,A,xs,hX,g,N,pT,Eh,hxk,hxn⟩;by_cases j:k<cs.length
  ·have H:=qH k;obtain⟨id,hid,rfl,hh⟩:=A.at_ (by rw[p];omega);have o:=B5 is j (false,[]);obtain⟨st,RA⟩:=jj (Vj is (cs.take k) (false,[]));obtain⟨c,hc⟩:=jj (cs[k]);rw[hc,RA]at o;rw[RA]at g N Eh;have hopn:=B4 is st c Eh;have D:c.v.small:=hcsm c (by rw[<-hc];exact zk j);have r:∀h:k<(q7 cs).length,(q7 cs)[k]=c.V:=fun h=>by simp[q7,hc]
   have hca:=fun Y Z=>cS a c Y Z hsa D
   have Ea:=fun Y Z=>cS b c Y Z hsb D
   have d:=fun Y Z=>Ry (yt a c) (yt b c) Y Z
   rw[hisc c]at d;simp only[Cut.V]at hca Ea r;have m0:¬id=Z:=by omega
   have m1:¬id=Z+1:=by omega
   have m2:¬id=Z+1+1:=by omega
   rw[p]at A;have hki:=fun Y'=>yi hX Y' id (fun n=>pT id _ n rfl)
   have RB:aT is st c=(is c,if(is c&&!st.1)=true then st.2++[w5 c]else if(!is c&&st.1)=true then Qu st.2 c else st.2):=rfl;rw[RB]at o;rw[RB]at hopn;simp only at hopn;obtain⟨op,out⟩:=st;simp only at g N Eh hopn;cases hb:is c<;>cases op
   ·rw[hb]at d o;simp at o;simp[E,F,G,h48,h49,h50,p,j,hh,r,hca,Ea,d,N,H,m0,o];exact⟨by omega,A.more _,xs,hX.more _,g,fun i n m e _=>pT i _ m (by rw[e]),by omega,hxn⟩
   ·rw[hb]at d o;simp at o;have hne:=Eh rfl;obtain⟨m,hm⟩:∃m,out.length=m+1:=⟨out.length-1,by have:=kZ.2 hne;omega⟩;have B:xs.length=m+1:=by have:=zu List.length g;simp[z6]at this;omega
    obtain⟨R,hid2,J,hh2⟩:=hX.at_ (by omega);have Eb:¬R=id:=fun e=>pT id _ _ rfl (by rw[J,e])
    have RC:¬id=R:=fun e=>Eb e.symm
    have p0:¬R=Z:=by omega
    rw[B]at J;have U7:m<xs.length:=by omega
    have hlo:m<out.length:=by omega
    have hrm:QI jo xs[m]=out[m].V:=by
     have e1:(xs.map (QI jo))[m]?=(z6 out)[m]?:=by rw[g]
     simp only[qf,zj U7,z6,zj hlo,zA,zN]at e1;exact e1
    obtain⟨x3,x5,x6,x7,x8,x9,x10,K,U8,Ec⟩:=rS hrm;have wm:=wX (m:Int);have wm1:i6.wrap ((m:Int)+1-1)=(m:Int):=by rw[wQ (by omega) (by omega)];omega
    simp[E,F,G,h48,h49,h50,p,j,hh,r,hca,Ea,d,N,H,m0,o,J,hh2,p0,wm,wm1,U7,K,Ec,y9];refine⟨by omega,.inr ⟨id,by omega,by rw[p],by simp[RC,m0,hh]⟩,xs.set m [int out[m].lo.v.a,int out[m].lo.v.b,int out[m].lo.v.c,x3,q8 out[m].lo.after,int c.v.a,int c.v.b,int c.v.c,.sl 1 (zH c.v.pre),q8 c.after,q8 false],.inr ⟨R,by omega,by simp[B],by simp⟩,?_,fun i n k' e _ e2=>absurd (e2.trans e.symm) Eb,by simp;omega,fun e=>by have:=zu List.length e;rw[X8,B]at this;cases this⟩;rw[AE,g,fM hlo hm c,z6,z6,AE];simp[U8,qN.V,Cut.V]
   ·rw[hb]at d o;simp at o;have q:=qU.yS (P:=prog) (t:=132) (c:=[int c.v.a,int c.v.b,int c.v.c,.sl 1 (zH c.v.pre),q8 c.after,int 0,int 0,int 0,.nil,q8 false,q8 true]) (hX.more (some ⟨174,5,false,[c.V]⟩)) GW ry Bo Bp rfl (by omega) (by unfold maxLen;omega) (by omega);simp only[Cut.V]at q;simp[E,F,G,h48,h49,h50,p,j,hh,r,hca,Ea,d,N,H,m0,o,q,zS,qn,zp,zy,zo];refine⟨by omega,.inr ⟨id,by omega,by rw[p],by simp[hki,hh,m0,m1,m2]⟩,xs++[[int c.v.a,int c.v.b,int c.v.c,.sl 1 (zH c.v.pre),q8 c.after,int 0,int 0,int 0,.nil,q8 false,q8 true]],by simpa using qU.after,?_,fun i n m e _ e2=>by omega,by simp;omega⟩;rw[za3,g];simp[z6,w5,qN.V,Cut.V,QL,zH]
   ·rw[hb]at d o;simp at o;simp[E,F,G,h48,h49,h50,p,j,hh,r,hca,Ea,d,N,H,m0,o];exact⟨by omega,A.more _,xs,hX.more _,g,fun i n m e _=>pT i _ m (by rw[e]),Eh rfl,by omega,hxn⟩
  ·obtain rfl:k=cs.length:=by omega
   rw[wJ]at g;rw[<-hfin]at g;have B:xs.length=(kv f a b).length:=by have:=zu List.length g;simpa[z6]using this
   simp[E,F,G,h48,h49,h50,f142];unfold Wt;rcases hX with⟨J,rfl⟩|⟨R,hid2,J,hh2⟩
   ·rw[zf (qj.1 B.symm)];exact J
   ·by_cases hz:kv f a b=[]
    ·rw[zf hz];rw[hz]at B;exact hxn (qj.1 B)
    ·rw[zc hz];refine⟨R,_,J,hh2,rfl,?_⟩;simp only[eE,g]
theorem JY(l:List qN):(Sh.s 11 jo).fix (.sl 11 (z6 l))=.sl 11 (z6 l):=by simp only[Sh.oG,z6,UO];congr 1
noncomputable def B7:zb->Option (Option kn):=fun args=>
 match qu (α:=List qN×List qN) (fun a=>[.sl 11 (z6 a.1),.sl 11 (z6 a.2),.fn (.func 143) [] []]) (fun a=>yK a.1/\yK a.2) (fun a=>Wt and a.1 a.2) args with
 |some r=>some r
 |none=>qu (α:=List qN×List qN) (fun a=>[.sl 11 (z6 a.1),.sl 11 (z6 a.2),.fn (.func 144) [] []]) (fun a=>yK a.1/\yK a.2) (fun a=>Wt or a.1 a.2) args
theorem Hd(g:O):∀a b:List qN×List qN,[O.sl 11 (z6 a.1),.sl 11 (z6 a.2),g]=[.sl 11 (z6 b.1),.sl 11 (z6 b.2),g]->a=b:=by rintro⟨f,h⟩ ⟨i,j⟩ e;simp only[zl,zM]at e;obtain⟨c,d⟩:=e;injection c with _ c;injection d with _ d;rw[xd c,xd d]
theorem o9:zg prog 142 (vA [.s 11 jo,.s 11 jo] B7):=
 Jw (fn:=f142) Tb (qE func142) _ jo _ fun args r h=>by
  unfold B7 at h;split at h
  ·rename_i f e;injection h with h;subst h
   obtain⟨⟨a,b⟩,rfl,⟨c,d⟩,rfl⟩:=zK e;exact⟨by simp[f142],cT and _ (fun x y Y Z=>by simp[BZ]) a b c d⟩
  ·obtain⟨⟨a,b⟩,rfl,⟨c,d⟩,rfl⟩:=zK h;exact⟨by simp[f142],cT or _ (fun x y Y Z=>by simp[BZ]) a b c d⟩
theorem B8(args:zb)(r:Option kn)(h:kf 9 1 args=some r):args.length<=f147.ntmps/\∃x Y Z,je C0 f147 args (fun _=>none) 0=some (x,Y,Z)/\WK r x Y Z:=by
 unfold kf at h;split at h
 ·injection h with h;subst h;exact⟨by simp[f147],qz rfl (by simp[xV,ZL,f147,WK])⟩
 ·injection h with h;subst h;exact⟨by simp[f147],qz rfl (by simp[xV,ZL,f147,WK,zp,yI,AM.view,maxLen,zy,zo])⟩
 ·rename_i es;split at h
  ·rename_i d;obtain⟨rfl,a,b⟩:=d;injection h with h;subst h
   cases es with
   |nil=>exact absurd rfl a
   |cons c es=>
    unfold zx at b;simp at b;have e:es.length+1<=maxLen:=by unfold maxLen;omega
    have f:(es.length+1)*16<=140737488355328:=by omega
    refine⟨by simp[f147],qz rfl ?_⟩;simp[xV,ZL,f147,WK,zp,yI,AM.view,zy,zo,e,f]
  ·cases h
 ·cases h
theorem cU:zg prog 147 (yh [] (kf 9 1)):=
 xa (fn:=f147) (code:=_) jY ⟨func147,by kernel_rfl,rfl,by kernel_rfl⟩ [] _ B8
def idV(v:wN):O:=.agg v.V
def idS(s:qN):O:=.agg s.V
noncomputable def FVe (f:wN->O):zb->Option O:=qu (α:=wN) (fun v=>[.agg v.V]) (fun v=>v.pre.length<=zx) f
theorem B9(f:wN->O)(v:wN)(Y:Hp)(Z:Nat)(h:v.pre.length<=zx):qA [.g kp] (FVe f) [.agg v.V] Y Z=some (f v,Y,Z):=
 vH (show zw Y [.agg v.V]=some ([.agg v.V],Y) by simp[wN.V]) (by
  have c:(Sh.g kp).fix (.agg v.V)=.agg v.V:=by simp[wN.V]
  show FVe f [(Sh.g kp).fix (.agg v.V)]=_;rw[c];exact qG (V:=fun v:wN=>[O.agg v.V]) (a:=v) (fun a b e=>by simp only[zl,zM]at e;injection e with e;exact Wo e) h) (.inr (by simp[wN.V]))
noncomputable abbrev Ccpv:Ctx:=zW prog [(147,yh [] (kf 9 1))]
theorem Tc:Gd Ccpv:=qc mixed ⟨cU,trivial⟩
theorem eF(v:wN)(y:O)(f:Xz 1 (zH v.pre) y)(h:v.pre.length<=zx):∃i,zt Ccpv f183 [.agg [int v.a,int v.b,int v.c,y]]=some i/\qg i (.agg v.V):=by
 obtain⟨a,b,c,p⟩:=v;refine Ya (sh:=.g kp) rfl ?_;simp only at h f;generalize e:zH p=T at f;have d:T.length<=zx:=by rw[<-e];simpa[zH]using h
 cases f with
 |nil=>simp[yh,q6,kf,cx,wN.V,e,f183]
 |em=>simp[yh,q6,kf,cx,wN.V,e,f183]
 |sl=>rename_i j es;simp only[z7]at d;simp[yh,q6,kf,cx,wN.V,e,d,f183]
theorem cV:zg prog 183 (qA [.g kp] (FVe idV)):=
 xl (fn:=f183) Tc (qE func183) false [] _ fun args r h w S vs c=>by obtain⟨v,e,d,rfl⟩:=zK h;have a:=JP (hs:=[.g kp]) c;rw[e]at a;obtain⟨u,f,i⟩:=ZI a;subst f;obtain⟨y,k,b⟩:=Z3 i (j:=3) (s:=1) (es:=zH v.pre) (by simp[wN.V]);obtain⟨l,m,n⟩:=eF v y k d;exact⟨_,l,.cons b .nil,by simp[f183],by simpa[wN.V]using m,n⟩
noncomputable def FSt (f:qN->O):zb->Option O:=qu (α:=qN) (fun s=>[.agg s.V]) qN.small f
theorem Ol(f:qN->O)(s:qN)(u:O)(Y:Hp)(Z:Nat)(h:s.small)(c:(Sh.g jo).fix u=.agg s.V)(d:qa Y u=some (u,Y))(i:u.noOwn=true):qA [.g jo] (FSt f) [u] Y Z=some (f s,Y,Z):=
 vH (show zw Y [u]=some ([u],Y) by simp only[zw,d]) (by show FSt f [(Sh.g jo).fix u]=_;rw[c];exact qG (V:=fun v:qN=>[O.agg v.V]) (a:=s) (fun a b e=>by simp only[zl,zM]at e;injection e with e;exact mv e) h) (.inr (by rw[q9,i];rfl))
noncomputable abbrev Ccps:Ctx:=zW prog [(183,qA [.g kp] (FVe idV))]
theorem Td:AM.Good Ccps (fun g=>[183].contains g):=qx mixed ⟨cV,fun _=>yR _ _,trivial⟩
theorem eG(s:qN)(hs:s.small):zt Ccps f145 [.agg s.V]=some (.agg s.V):=by
 refine zn rfl ?_;have d:∀Y Z,qA [.g kp] (FVe idV) [.agg [int s.lo.v.a,int s.lo.v.b,int s.lo.v.c,.sl 1 (zH s.lo.v.pre)]] Y Z=some (.agg [int s.lo.v.a,int s.lo.v.b,int s.lo.v.c,.sl 1 (zH s.lo.v.pre)],Y,Z):=fun Y Z=>B9 idV s.lo.v Y Z hs.1.1
 have e:∀Y Z,qA [.g kp] (FVe idV) [.agg [int s.hi.v.a,int s.hi.v.b,int s.hi.v.c,.sl 1 (zH s.hi.v.pre)]] Y Z=some (.agg [int s.hi.v.a,int s.hi.v.b,int s.hi.v.c,.sl 1 (zH s.hi.v.pre)],Y,Z):=fun Y Z=>B9 idV s.hi.v Y Z hs.2.1
 simp[qN.V,Cut.V,d,e,wc,f145,y9]
theorem cW:zg prog 145 (qA [.g jo] (FSt idS)):=
 wT (fn:=f145) Td (qE func145) _ _ fun args r h=>by obtain⟨s,rfl,a,rfl⟩:=zK h;exact⟨by simp[f145],_,eG s a,qg.refl _⟩
theorem KI{l:za}{n:Int}(h:xO l=some n):0<=n/\n<=999999:=by
 unfold xO at h;split at h
 ·rename_i a;injection h with h
  obtain⟨b,c⟩:=lX a.1;obtain⟨m,d,e⟩:=Kw l 0 c;have f:Lib.decNat l=some m:=by unfold Lib.decNat;rw[zc (by simpa using b)];exact d
  have g:m<10 ^ 6:=yb (by simpa using e) (Nat.pow_le_pow_right (by omega) a.2);have i:n=(m:Int):=by rw[<-h];unfold tI;rw[f];rfl
  omega
 ·cases h
theorem I5{v:wN}(h:kq v=0):(0<=v.a/\v.a<=999999)/\(0<=v.b/\v.b<=999999)/\(0<=v.c/\v.c<=999999)/\v.pre.length<=10/\∀p∈v.pre,w9 p=false:=by
 unfold kq at h;split at h
 ·rename_i d;simp only[xb,zC,qi]at d;split at h
  ·cases h
  ·rename_i g;split at h
   ·cases h
   ·rename_i e;refine⟨d.1,d.2.1,d.2.2,by omega,fun p Y=>?_⟩;cases f:w9 p with
    |false=>rfl
    |true=>exact absurd (jS.2 ⟨p,Y,f⟩) e
 ·cases h
theorem Te{t:za}{v:wN}(h:l4 t=some v):kq v=0:=by
 unfold l4 at h;split at h
 ·split at h
  ·split at h
   ·rename_i a;injection h with h
    rw[<-h];exact a
   ·cases h
  ·cases h
 ·cases h
theorem Fj{p:za}(h:w9 p=false):p.length<=20:=by simp only[w9,wy,yW]at h;omega
theorem iH:∀(l:List za) (p q:Part) (i:Nat),yf p i l=some q->(0<=p.n0/\p.n0<=999999)/\(0<=p.n1/\p.n1<=999999)/\(0<=p.n2/\p.n2<=999999)/\0<=p.has/\p.has<=i/\(1<=i->1<=p.has)/\p.pre=[] ->
  (0<=q.n0/\q.n0<=999999)/\(0<=q.n1/\q.n1<=999999)/\(0<=q.n2/\q.n2<=999999)/\0<=q.has/\q.has<=i+l.length/\(1<=i+l.length->1<=q.has)/\q.pre=[]
 |[],p,q,i,h,Y=>by
  simp only[yf]at h;injection h with h
  subst h;simpa using Y
 |t::l,p,q,i,h,Y=>by
  simp only[yf]at h;split at h
  ·rename_i r hs;obtain⟨a,b,c,d,e,f,g⟩:=Y;have m:(0<=r.n0/\r.n0<=999999)/\(0<=r.n1/\r.n1<=999999)/\(0<=r.n2/\r.n2<=999999)/\0<=r.has/\r.has<=(i+1:Nat)/\(1<=i+1->1<=r.has)/\r.pre=[]:=by
    unfold wL at hs;split at hs
    ·rename_i j;injection hs with hs
     obtain⟨n,k⟩:=Option.isSome_iff_exists.1 j.1;have o:=KI k;rw[k]at hs;simp only[il]at hs;subst hs;have s:=j.2;unfold Part.put;split<;>simp only<;>refine⟨?_,?_,?_,?_,?_,?_,g⟩<;>first|assumption|omega
    ·split at hs
     ·rename_i u;injection hs with hs
      subst hs;exact⟨a,b,c,d,by omega,fun _=>f (by omega),g⟩
     ·cases hs
   have:=iH l r q (i+1) h m;rw[z7];refine⟨this.1,this.2.1,this.2.2.1,this.2.2.2.1,?_,?_,this.2.2.2.2.2.2⟩
   ·have:=this.2.2.2.2.1;omega
   ·intro _;exact this.2.2.2.2.2.1 (by omega)
  ·cases h
def Qw(l:List za):Prop:=l.length<=10/\∀p∈l,w9 p=false
theorem Jy{l:List za}(h:Qw l):vi l:=⟨by have:=h.1;unfold zx;omega,fun p Y=>by have:=Fj (h.2 p Y);unfold zx;omega⟩
theorem rV(s sep:za):qh s sep≠[]:=by
 unfold qh Lib.split;intro h;cases a:Lib.count s sep with
 |zero=>rw[a]at h;cases h
 |succ n=>rw[a]at h;simp only[Lib.splitK]at h;split at h<;>cases h
theorem JZ{t:za}(h:(zR t).2=true):(zR t).1.ok/\Qw (zR t).1.pre:=by
 unfold zR at h⊢;split at h
 ·rename_i a;rw[zf a];split at h
  ·rename_i v i;obtain⟨b,c,d,e,f⟩:=I5 (Te i);exact⟨⟨b,c,d,⟨by simp,by simp⟩,Jy ⟨e,f⟩⟩,e,f⟩
  ·cases h
 ·rename_i a;rw[zc a];split at h
  ·cases h
  ·rename_i j;rw[zc j];split at h
   ·rename_i p Y;have:=iH _ wj p 0 Y (by simp[wj]);obtain⟨b,c,d,e,f,k,l⟩:=this;have m:=kZ.2 (rV t [46]);have g:Qw p.pre:=by rw[l];exact⟨by simp,by simp⟩
    exact⟨⟨b,c,d,⟨k (by omega),by show p.has<=3;omega⟩,Jy g⟩,g⟩
   ·cases h
def xN.vS(c:xN):Prop:=c.sign.length<=3/\(c.sign=jm\/((c.p.ok/\Qw c.p.pre)/\(c.sign=[45]->c.tu.ok/\Qw c.tu.pre)))
theorem xN.vS.ok{c:xN}(h:c.vS):c.ok:=⟨by have:=h.1;unfold zx;omega,h.2.imp id fun⟨a,b⟩=>⟨a.1,fun e=>(b e).1⟩⟩
theorem J0:∀(a:List za) (s:za),(wD a s).1=[]\/(wD a s).1∈a
 |[],s=>.inl rfl
 |g::l,s=>by
  simp only[wD];split
  ·exact .inr (by simp)
  ·exact(J0 l s).imp id fun h=>by simp[h]
theorem Ca{s:za}(h:s=[]\/s∈we):s.length<=3/\s≠[45]:=by
 rcases h with rfl|h
 ·simp
 ·simp only[we,zv,ir,or_false]at h;rcases h with rfl|rfl|rfl|rfl|rfl|rfl|rfl<;>simp
theorem I6{w:za}{l l':List za}{c:xN}(h:kh w l=some (c,l')):c.vS/\l'.length<=l.length:=by
 refine⟨?_,N7 h⟩;have a:=Ca (J0 we w);unfold kh at h;split at h
 ·injection h with h;injection h with h _;subst h;exact⟨by simp[ez,jm],.inl rfl⟩
 ·split at h
  ·split at h
   ·split at h
    ·rename_i b;injection h with h;injection h with h _;subst h
     exact⟨a.1,.inr ⟨JZ b,fun e=>absurd e a.2⟩⟩
    ·cases h
   ·cases h
  ·split at h
   ·rename_i b;injection h with h;injection h with h _;subst h
    exact⟨a.1,.inr ⟨JZ b,fun e=>absurd e a.2⟩⟩
   ·cases h
theorem rW:∀(n:Nat) (a:List za) (l:List xN),yw n a=some l->(∀c∈l,c.vS)/\l.length<=a.length
 | 0,a,l,h=>by
  simp only[yw]at h;injection h with h;subst h
  exact⟨by simp,by simp⟩
 |n+1,[],l,h=>by
  simp only[yw]at h;injection h with h;subst h
  exact⟨by simp,by simp⟩
 |n+1,w::a,l,h=>by
  simp only[yw]at h;split at h
  ·rename_i c l' hs;obtain⟨e,g⟩:=I6 hs;cases b:yw n l' with
   |none=>rw[b]at h;cases h
   |some r=>
    rw[b]at h;simp only[zA,zN]at h;subst h;obtain⟨f,i⟩:=rW n l' r b;refine⟨fun x d=>?_,by simp;omega⟩;rcases zv.1 d with rfl|d
    ·exact e
    ·exact f x d
  ·cases h
theorem I7{t:za}(h:(QJ t).2=true):(∀c∈(QJ t).1,c.vS)/\(QJ t).1.length<=t.length+1:=by
 have n:(wz (qh t [32])).length<=t.length+1:=zE (zcB _ _) (xZ (by simp));have f:∀d:List za,d=wz (qh t [32])->((match yw d.length d with
   |some l=>(l,!l.isEmpty)
   |none=>([],false)):List xN×Bool).2=true->(∀c∈((match yw d.length d with
   |some l=>(l,!l.isEmpty)
   |none=>([],false)):List xN×Bool).1,c.vS)/\((match yw d.length d with
   |some l=>(l,!l.isEmpty)
   |none=>([],false)):List xN×Bool).1.length<=t.length+1:=by
  intro d e i;cases j:yw d.length d with
  |none=>rw[j]at i;cases i
  |some l=>obtain⟨o,k⟩:=rW _ _ _ j;exact⟨o,by rw[e]at k;exact zE k n⟩
 unfold QJ at h⊢;split at h
 ·rename_i a b c e;split at h
  ·rename_i g;simp only[zC]at h;rw[zf g];refine⟨fun x m=>?_,by simp⟩;simp only[qB]at m;subst m;exact⟨by simp,.inr ⟨JZ h.1,fun _=>JZ h.2⟩⟩
  ·rename_i g;rw[zc g];have:=f [a,b,c] (by rw[e]) h;exact this
 ·exact f _ rfl h
def Cut.vS(c:Cut):Prop:=Qw c.v.pre
theorem Cut.vS.small{c:Cut}(h:c.vS):c.v.small:=Jy h
theorem rX:QL.vS:=⟨by simp[QL],by simp[QL]⟩
theorem kS:qR.vS:=⟨by simp[qR],by simp[qR,w9,dY,JR,kO,yA,Kv,pr]⟩
theorem V0(p:Part)(i:Nat):(jh p i).vS:=by
 have h:(jh p i).v.pre=[[48]]:=by unfold jh;split<;>rfl
 have:=kS;unfold Cut.vS at this⊢;rw[h];exact this
theorem mB{p:Part}(h:Qw p.pre):(Zz p).vS:=h
theorem XQ{p:Part}(h:Qw p.pre):(vq p).vS:=by
 unfold vq;split
 ·exact V0 _ _
 ·exact h
theorem Wu{a b:Cut}(c:a.vS)(d:b.vS):(eo a b).length<=1/\∀s∈eo a b,s.lo.vS/\s.hi.vS:=by
 unfold eo;split
 ·exact⟨by simp,by simp⟩
 ·refine⟨by simp,fun s hs=>?_⟩;simp only[qB]at hs;subst hs;exact⟨c,d⟩
theorem Z5{a:Cut}(b:a.vS):([w5 a]:List qN).length<=1/\∀s∈[w5 a],s.lo.vS/\s.hi.vS:=by refine⟨by simp,fun s hs=>?_⟩;simp only[qB]at hs;subst hs;exact⟨b,rX⟩
theorem J1{c:xN}(b:c.vS):(vj c).1.length<=1/\∀s∈(vj c).1,s.lo.vS/\s.hi.vS:=by
 obtain⟨_,b⟩:=b;unfold vj;by_cases d:c.sign=jm
 ·rw[zf d];exact Z5 kS
 rw[zc d];obtain⟨⟨_,Y⟩,g⟩:=b.resolve_left d;have a:=mB Y;have f:=XQ Y;split
 ·exact Z5 a
 split
 ·exact Wu kS a
 split
 ·exact Z5 f
 split
 ·exact Wu kS f
 split
 ·rename_i e;exact Wu a (XQ (g e).2)
 split
 ·exact Wu a (V0 _ _)
 split
 ·exact Wu a (V0 _ _)
 ·exact Wu a f
def yX(l:List qN):Prop:=∀s∈l,s.lo.vS/\s.hi.vS
theorem yX.small{l:List qN}(h:yX l)(a:l.length<=zx):yK l:=⟨a,fun s hs=>⟨(h s hs).1.small,(h s hs).2.small⟩⟩
theorem kx(f:Bool->Bool->Bool){a b:List qN}(c:yX a)(d:yX b):yX (kv f a b):=rR rX f c d
def oK:List za->Option (List (List xN))
 |[]=>some []
 |s::l=>if(QJ s).2=true then(oK l).map ((QJ s).1::·)else none
noncomputable def YI:List xN->List qN->Option (List qN)
 |[],m=>some m
 |c::l,m=>if(vj c).2=true then YI l (kv and m (vj c).1)else none
noncomputable def Vk:List (List xN)->List qN->Option (List qN)
 |[],o=>some o
 |l::a,o=>match YI l [w5 qR]with
  |some m=>Vk a (kv or o m)
  |none=>none
noncomputable def xe (t:za):List qN×Int:=if(400:Int)<t.length then([],2)else match oK (qh t [124,124])with
 |none=>([],10)
 |some a=>match Vk a []with
  |none=>([],1)
  |some o=>if(100:Int)<o.length then([],2)else(o,0)
theorem mC:∀(l:List xN) (m r:List qN),(∀c∈l,c.vS)->yX m->YI l m=some r->yX r/\r.length<=m.length+l.length
 |[],m,r,_,a,h=>by
  simp only[YI]at h;injection h with h;subst h
  exact⟨a,by simp⟩
 |c::l,m,r,b,a,h=>by
  simp only[YI]at h;split at h
  ·obtain⟨g,d⟩:=J1 (b c (by simp));obtain⟨e,i⟩:=mC l _ r (fun x f=>b x (by simp[f])) (kx and a d) h;have:=Yq and m (vj c).1;exact⟨e,by simp only[z7];omega⟩
  ·cases h
theorem mD:∀(l:List za) (d:List (List xN)) (n:Nat),(∀s∈l,s.length<=n)->oK l=some d->(∀a∈d,(∀c∈a,c.vS)/\a.length<=n+1)/\d.length=l.length
 |[],d,n,_,h=>by
  simp only[oK]at h;injection h with h;subst h
  exact⟨by simp,rfl⟩
 |s::l,d,n,e,h=>by
  simp only[oK]at h;split at h
  ·rename_i hs;cases b:oK l with
   |none=>rw[b]at h;cases h
   |some r=>
    rw[b]at h;simp only[zA,zN]at h;subst h;obtain⟨f,g⟩:=mD l r n (fun x i=>e x (by simp[i])) b;obtain⟨j,k⟩:=I7 hs;have:=e s (by simp);refine⟨fun a b=>?_,by simp[g]⟩;rcases zv.1 b with rfl|b
    ·exact⟨j,by omega⟩
    ·exact f a b
  ·cases h
attribute [local go_sem] Oper.semAt_some
theorem Fk{P:Program}{g:FuncId}{F:zb->Option O}{us:List Value}{v:Value}(h:jr True P g (zi false [] F))(hF:zi false [] F (us.map O.v) (fun _=>none) 0=some (.v v,fun _=>none,0))(d:∀u∈us,lit u=true){W:World}(i:HS P W fun b=>b<W.heap.size) :
  Calls P g us.toArray W fun e w'=>e=.returned v/\Fr True W (fun _=>False) w':=by
 have j:Zip (qb W (fun b=>b<W.heap.size) (fun _=>⟨0,0,0⟩) 0) (us.map O.v) us:=by
  induction us with
  |nil=>exact .nil
  |cons u us f=>exact .cons (.c (.v (d u (by simp)))) (by
    clear hF;have:∀us:List Value,(∀u∈us,lit u=true)->Zip (qb W (fun b=>b<W.heap.size) (fun _=>⟨0,0,0⟩) 0) (us.map O.v) us:=by
     intro us
     induction us with
     |nil=>intro _;exact .nil
     |cons u us f=>intro h;exact .cons (.c (.v (h u (by simp)))) (f fun x a=>h x (by simp[a]))
    exact this us fun x a=>d x (by simp[a]))
 refine(h.2 _ _ _ _ _ _ hF W (fun b=>b<W.heap.size) (fun _=>⟨0,0,0⟩) us (XK _ (fun b l=>l) i) j).mono fun e w' m=>?_
 obtain⟨x,o,p,rfl,st,a⟩:=m;obtain⟨rfl,_⟩:=a.wY;exact⟨rfl,⟨st.fr.os,st.fr.tape,st.fr.output,st.fr.size,st.fr.drawn,fun k n _=>st.fr.block k n fun⟨_,_,h,_⟩=>by cases h⟩⟩
theorem iI{W b:World}{L:Nat->Prop}(h:Fr True W L b){a:Addr}{v:Value}(c:W.cell? a=some v)(d:¬L a.block):b.cell? a=some v:=by rw[<-c];exact Xx (h.block _ (GG c) d)
def aa(l:List za):List Value:=l.map fun p=>.string ⟨p.toArray⟩
def Om(w:World)(b:Nat):Nat:=match w.cell? ⟨b,0,none⟩with
 |some (.string s)=>s.size
 |_=>0
def vo(w:World)(b:Nat)(v:Value):Prop:=∃cs ty,w.heap[b]?=some (.cells cs ty (0,0))/\cs[0]?=some v
theorem vo.cell{w:World}{b:Nat}{v:Value}(h:vo w b v):w.cell? ⟨b,0,none⟩=some v:=by obtain⟨cs,ty,a,c⟩:=h;simp[World.cell?,a,c]
theorem vo.free{w:World}{b:Nat}{v:Value}(h:vo w b v):w.frozen? ⟨b,0,none⟩=false:=by obtain⟨cs,ty,a,c⟩:=h;simp[World.frozen?,a]
theorem vo.same{w w':World}{b:Nat}{v:Value}(h:vo w b v)(e:w'.heap[b]?=w.heap[b]?):vo w' b v:=by obtain⟨cs,ty,a,c⟩:=h;exact⟨cs,ty,e.trans a,c⟩
theorem vo.lt{w:World}{b:Nat}{v:Value}(h:vo w b v):b<w.heap.size:=by obtain⟨cs,ty,a,c⟩:=h;exact(zU.1 a).1
theorem vo.set{w:World}{b:Nat}{v:Value}(u:Value)(h:vo w b v):vo (w.setCell ⟨b,0,none⟩ u) b u:=by obtain⟨cs,ty,a,c⟩:=h;have d:=(zU.1 c).1;refine⟨cs.setIfInBounds 0 u,ty,?_,by simp[d]⟩;simp[World.setCell,vN,a]
theorem vo.RD{w:World}{b:Nat}(u:Value)(B:Nat->Prop)(a:B b):Fr True w B (w.setCell ⟨b,0,none⟩ u):=
 ⟨rfl,rfl,rfl,by simp[World.setCell],fun _=>ze _,fun k _ c=>by
  have:¬b=k:=fun e=>c (e ▸ a)
  simp[World.setCell,vN,this]⟩
theorem vo.str{w:World}{b:Nat}{s:ByteArray}(h:vo w b (.string s)):Om w b=s.size:=by unfold Om;rw[h.cell]
theorem ue(n l B1 B2 B3:Nat)(sep t:za)(hs1:1<=sep.length)(hs2:sep.length<=zx)(ht:t.length<=zx)(h12:B1≠B2)(h23:B3≠B2)(J Jx:List Value->World->Prop)
  (hJ:∀pre W W',J pre W->Fr True W (fun b=>b=B1\/b=B2\/b=B3) W'->J pre W') (hGl:∀pre W,J pre W->HS prog W fun b=>b<W.heap.size)
  (hY:∀pre x W,J pre W->(aa (qh t sep))[pre.length]?=some x->YieldAt Fence.wide n prog l #[x] W fun e W'=>(e=.returned (.bool true)/\J (pre++[x]) W'/\(∀b,(b=B1\/b=B2\/b=B3)->W'.heap[b]?=W.heap[b]?)/\W.heap.size<=W'.heap.size)\/(e=.returned (.bool false)/\Jx (pre++[x]) W'))
  (W:World) (h0:J [] W) (h1:W.cell? ⟨B1,0,none⟩=some (.string ⟨sep.toArray⟩)) (h2:vo W B2 (.string ⟨t.toArray⟩)) (h3:W.cell? ⟨B3,0,none⟩=some (.int .i64 0)) :
  CallsIn Fence.wide (n+1) prog 217 #[.func (.yield l) #[] #[],.pointer (some ⟨B1,0,none⟩),.pointer (some ⟨B2,0,none⟩),.pointer (some ⟨B3,0,none⟩)] W fun e W'=>(∃v,e=.returned v)/\(J (aa (qh t sep)) W'\/∃pre,Jx pre W'):=by
 refine callsIn_of_wp func217 rfl trivial ?_ rfl;simp only[Tryz.ntmps217,jv,z7,xT,Nat.reduceAdd,Nat.reduceSub,Array.replicate_succ,Array.replicate_zero,List.push_toArray,List.append_toArray,kj,qX];have h2c:=h2.cell;have hse:((sep.length:Int)==0)=false:=yy.2 (by omega)
 gi_wp2
 try simp only[hse]
 have hx:∀cur:za,cur.length<=zx->∀wr:World,HS prog wr (fun b=>b<wr.heap.size)->Calls prog 159 #[.string ⟨cur.toArray⟩,.string ⟨sep.toArray⟩] wr fun e w'=>e=.returned (.int .i64 (Lib.index cur sep))/\Fr True wr (fun _=>False) w':=fun cur hc wr hg=>by exact Fk (us:=[.string ⟨cur.toArray⟩,.string ⟨sep.toArray⟩]) cA (JQ cur sep _ _ hc hs2) (by simp[lit]) hg
 gi_loopw [] (fun wr=>∃(done:List za) (cur:za),qh t sep=done++qh cur sep/\cur.length<=t.length/\J (aa done) wr/\wr.cell? ⟨B1,0,none⟩=some (.string ⟨sep.toArray⟩)/\vo wr B2 (.string ⟨cur.toArray⟩)/\wr.cell? ⟨B3,0,none⟩=some (.int .i64 0))
  (fun wr=>Om wr B2)
 case atStart=>exact⟨[],t,rfl,ze _,h0,h1,h2,h3⟩
 case round=>
  obtain⟨done,cur,hsp,hcl,hJs,c1,k2,c3⟩:=hrel;have c2:=k2.cell;have hg:=hGl _ _ hJs
  gi_wp2
  refine⟨trivial,aw.2 ((hx cur (zE hcl ht) wr hg).mono ?_)⟩;rintro e w1 ⟨rfl,fr⟩;dsimp only;have d1:=iI fr c1 (fun h=>h);have m2:=k2.same (fr.block _ k2.lt fun h=>h);have d2:=m2.cell;have d3:=iI fr c3 (fun h=>h);have hJ1:=hJ _ _ _ hJs ⟨fr.os,fr.tape,fr.output,fr.size,fr.drawn,fun k hk _=>fr.block k hk fun h=>h⟩;have hel:(aa done).length=done.length:=by simp[aa]
  by_cases hneg:Lib.index cur sep<0
  ·have hsk:qh cur sep=[cur]:=by
    have hm:Lib.index cur sep=-1:=by
     rcases Lib.index_spec cur sep with⟨h,_⟩|⟨i,h,_⟩
     ·exact h
     ·omega
    unfold qh Lib.split;rw[Lib.count_miss hm];rfl
   have hu:(aa (qh t sep))[(aa done).length]?=some (.string ⟨cur.toArray⟩):=by rw[hsp,hsk,hel];simp[aa]
   obtain⟨fn,tmps,assign,body,hy,hR⟩:=hY _ _ w1 hJ1 hu
   gi_wp2
   refine hR.mono ?_;rintro e W3 (⟨rfl,hJ3,hk3,hz3⟩|⟨rfl,hJx3⟩)
   ·gi_wp2
    go_end0
    refine⟨⟨_,rfl⟩,.inl ?_⟩;rw[hsp,hsk];simpa[aa]using hJ3
   ·gi_wp2
    go_end0
    exact⟨⟨_,rfl⟩,.inr ⟨_,hJx3⟩⟩
  ·obtain⟨i,hi⟩:∃i:Nat,Lib.index cur sep=i:=⟨(Lib.index cur sep).toNat,by omega⟩;have hne:sep≠[]:=by rintro rfl;simp at hs1
   have hsk:qh cur sep=cur.take i::qh (cur.drop (i+sep.length)) sep:=by unfold qh Lib.split;rw[Lib.count_hit hne hi,AB 1,bm hi]
   have htk:(cur.drop (i+sep.length)).take (cur.length-(i+sep.length))=cur.drop (i+sep.length):=qe (by simp);have hroom:=Lib.index_room cur sep (by omega);rw[hi]at hroom;unfold zx at ht hs2;have hwi:wrap64 (i:Int)=(i:Int):=by unfold wrap64;omega
   have hu:(aa (qh t sep))[(aa done).length]?=some (.string ⟨(cur.take i).toArray⟩):=by rw[hsp,hsk,hel];simp[aa]
   obtain⟨fn,tmps,assign,body,hy,hR⟩:=hY _ _ w1 hJ1 hu;rw[hi]
   gi_wp2
   refine hR.mono ?_;rintro e W3 (⟨rfl,hJ3,hk3,hz3⟩|⟨rfl,hJx3⟩)
   ·have e1:W3.cell? ⟨B1,0,none⟩=some (.string ⟨sep.toArray⟩):=by rw[<-d1];exact Xx (hk3 B1 (.inl rfl))
    have o2:=m2.same (hk3 B2 (.inr (.inl rfl)));have e2:=o2.cell;have e4:=o2.free;have e3:W3.cell? ⟨B3,0,none⟩=some (.int .i64 0):=by rw[<-d3];exact Xx (hk3 B3 (.inr (.inr rfl)))
    gi_wp2
    go_roundw
    case rel=>
     refine⟨done++[cur.take i],cur.drop (i+sep.length),by rw[hsp,hsk];simp,by simp;omega,?_,?_,?_,?_⟩
     ·have:=hJ _ _ _ hJ3 (vo.RD (w:=W3) (b:=B2) (.string ⟨(cur.drop (i+sep.length)).toArray⟩) (fun b=>b=B1\/b=B2\/b=B3) (.inr (.inl rfl)));simpa[aa]using this
     ·exact iI (vo.RD (w:=W3) (b:=B2) _ (fun b=>b=B2) rfl) e1 h12
     ·exact o2.set (.string ⟨(cur.drop (i+sep.length)).toArray⟩)
     ·exact iI (vo.RD (w:=W3) (b:=B2) _ (fun b=>b=B2) rfl) e3 h23
    case measure=>have:=o2.set (.string ⟨(cur.drop (i+sep.length)).toArray⟩);rw[this.str,k2.str];simp;omega
   ·gi_wp2
    refine bodyPost_ret (results_none rfl _ _ _) rfl ?_;exact⟨⟨_,rfl⟩,.inr ⟨_,hJx3⟩⟩
def cX:Qj:=fun cap Y=>match cap with
 |[.ref b 0 0,.ref a 0 0,.ref c 0 0]=>match Y b,Y a,Y c with
  |some ⟨_,1,false,[[.v (.string sep)]]⟩,some ⟨_,1,false,[[.v (.string t)]]⟩,some ⟨_,1,false,[[.v (.int .i64 0)]]⟩=>
   if b≠a/\c≠a/\1<=sep.data.toList.length/\sep.data.toList.length<=zx/\t.data.toList.length<=zx then some ((qh t.data.toList sep.data.toList).map str,qt (qt (qt Y b none) a none) c none)else none
  |_,_,_=>none
 |_=>none
theorem eH{P:Program}{w:World}{S:Nat->Prop}{G:Nat->GI}{Y:Hp}{Z id e:Nat}{u:Value}(hi:Inv P w S G Y Z)(c:Y id=some ⟨e,1,false,[[.v u]]⟩):vo w (G id).g u:=by have b:=hi.live id _ c;have hs:(G id).s=1:=b.bs.symm;obtain⟨a,d,j,f⟩:=b.row (by omega);obtain⟨x,h,i⟩:=f 0 0 [.v u] (.v u) rfl rfl;obtain⟨rfl,_⟩:=i.2.1.wY;exact⟨a,e,d,by simpa[hs]using h⟩
theorem Fl:Be True prog 217 cX:=by
 refine⟨⟨_,func217,by kernel_rfl,by kernel_rfl⟩,fun cap Y Z xs Y1 h=>?_⟩;unfold cX at h;split at h
 case h_2=>cases h
 rename_i d c i3;split at h
 case h_2=>cases h
 rename_i e1 sep e2 t e3 r q s;split at h
 case isFalse=>cases h
 rename_i E;obtain⟨u,v,x,y,F⟩:=E;injection h with h
 injection h with H a;subst H;subst a;have f:∀id b,qt (qt (qt Y d none) c none) i3 none id=some b->Y id=some b/\id≠d/\id≠c/\id≠i3:=fun id b a=>by
  by_cases m:id=i3
  ·subst m;rw[wP]at a;cases a
  rw[qL _ _ _ _ m]at a;by_cases o:id=c
  ·subst o;rw[wP]at a;cases a
  rw[qL _ _ _ _ o]at a;by_cases p:id=d
  ·subst p;rw[wP]at a;cases a
  rw[qL _ _ _ _ p]at a;exact⟨a,p,o,m⟩
 refine⟨aa (qh t.data.toList sep.data.toList),by simp[aa],by simp[aa,lit],fun id b a=>(f id b a).1,fun w S G vs hi j=>?_⟩;obtain⟨v1,r1,rfl,I,j⟩:=j.jF;obtain⟨v2,r2,rfl,K,j⟩:=j.jF;obtain⟨v3,r3,rfl,L,j⟩:=j.jF;obtain rfl:=j.WE;have M:=eH hi r;have N:=eH hi q;have P:=eH hi s;obtain⟨_,rfl⟩:=I.Wh;obtain⟨_,rfl⟩:=K.Wh;obtain⟨_,rfl⟩:=L.Wh;have z:(G d).g≠(G c).g:=fun e=>u (hi.inj _ _ _ _ r q e)
 have A:(G i3).g≠(G c).g:=fun e=>v (hi.inj _ _ _ _ s q e)
 refine⟨fun b=>b=(G d).g\/b=(G c).g\/b=(G i3).g,?_,?_⟩
 ·have k:∀i blk,Y i=some blk->(i=d\/i=c\/i=i3)->jD Y G (G i).g/\Vv S G (qt (qt (qt Y d none) c none) i3 none) (G i).g:=fun i blk a B=>
   ⟨⟨i,blk,a,rfl⟩,hi.apart i blk a,fun id Q hid e=>by
     obtain⟨R,p,o,m⟩:=f id Q hid;have:=hi.inj _ _ _ _ R a e;subst this;rcases B with h|h|h
     ·exact p h
     ·exact o h
     ·exact m h⟩
  rintro b (rfl|rfl|rfl)
  ·exact k d _ r (.inl rfl)
  ·exact k c _ q (.inr (.inl rfl))
  ·exact k i3 _ s (.inr (.inr rfl))
 ·intro n l J T X hJx C hY W h0 D _;have:=ue n l (G d).g (G c).g (G i3).g sep.data.toList t.data.toList x y F z A J T X C hY W h0 (M.same (D _ (.inl rfl))).cell (N.same (D _ (.inr (.inl rfl)))) (P.same (D _ (.inr (.inr rfl)))).cell;simpa using this
end Go.Q
namespace Go.AM
def bD(P:Program)(l:Qf)(g:FuncId)(it:Qj):Ctx:=⟨P,lookup l,fun _=>[],fun _=>[],fun _=>false,fun _=>[],fun k=>if k=g then some it else none⟩
@[simp]theorem zeS(P:Program)(l:Qf)(g:FuncId)(it:Qj):(bD P l g it).P=P:=rfl
@[simp]theorem zeT(P:Program)(l:Qf)(k:FuncId)(it:Qj)(Y:Hp)(Z g:Nat)(x y xs:zb):jG (bD P l k it) Y Z (some (.fn (.func g) x y)) xs=(lookup l g).bind fun s=>s (x++xs++y) Y Z:=by unfold jG bD;simp only;cases lookup l g<;>rfl
@[simp]theorem On(P:Program)(l:Qf)(k:FuncId)(it:Qj)(i:Nat)(a:Array Oper)(d:Bool)(st:St)(K:Exit->St->Prop):Zw (bD P l k it) (.region i a d) st K=iy (bD P l k it) a a.toList st (Z1 K):=Yw _ i a d st K rfl rfl
theorem Oo{P:Program}{l:Qf}{q:List Nat}{k:FuncId}{it:Qj}(b:P.follows .mixedOrders=true)(h:cv True P q l)(hi:Iv P k it):AM.Good (bD P l k it) (fun g=>q.contains g):=
 let g:=qx b h
 ⟨g.spec,g.quiet,g.mixed,(fun _ _ h=>by cases h),(fun j a h=>by
  have:(if j=k then some it else none)=some a:=h;split at this
  ·rename_i e;injection this with this
   subst this;subst e;exact hi
  ·cases this)⟩
@[simp]theorem zgZ(C:Ctx)(b:Code)(K:Exit->St->Prop)(st:St):asgK C b K .normal st=Zw C b st K:=rfl
@[simp]theorem zg0(I:Nat->Hp->Nat->Prop)(k:Nat)(U:Nat->O)(K:Exit->St->Prop)(st:St):rngK I k U K .normal st=I (k+1) st.Y st.Z:=rfl
@[simp]theorem zg1(I:Nat->Hp->Nat->Prop)(k:Nat)(U:Nat->O)(K:Exit->St->Prop)(st:St):rngK I k U K .ret st=K .ret ⟨U,st.Y,st.Z⟩:=rfl
theorem mE{Y:Hp}{Z e s:Nat}{v:O}{xs:List zb}(h:qU Y Z e s v xs){j:Nat}{b:kn}(a:Y j=some b)(c:b.arr=false):∀n,v≠.own j 0 n:=by
 rcases h with⟨rfl,_⟩|⟨id,f,rfl,d⟩
 ·intro n e;cases e
 ·intro n e;injection e with e
  subst e;rw[d]at a;injection a with a
  subst a;cases c
end Go.AM
namespace Go.Q
noncomputable def rY (t:za):O:=.wq [.sl 11 (z6 (xe t).1),int (xe t).2]
theorem mG:zg prog 169 (yz C0 f169):=kM jY func169
noncomputable abbrev Csq:Ctx:=zW prog [(169,yz C0 f169)]
theorem zbX:Gd Csq:=qc mixed ⟨mG,trivial⟩
theorem Fm:zg prog 138 (yz Csq f138):=kM zbX func138
def Tf(t sep:za)(Y:Hp)(Z:Nat):Hp:=qt (qt (qt Y Z (some ⟨9,1,false,[[str t]]⟩)) (Z+1) (some ⟨9,1,false,[[str sep]]⟩)) (Z+1+1) (some ⟨3,1,false,[[int 0]]⟩)
theorem uf(t sep:za)(Y:Hp)(Z:Nat):yz C0 f169 [str t,str sep,int 0] Y Z=some (.fn (.func 217) [] [.ref (Z+1) 0 0,.ref Z 0 0,.ref (Z+1+1) 0 0],Tf t sep Y Z,Z+1+1+1):=by unfold yz;rw[zf (by simp[f169])];refine y0 rfl ?_;simp[Tf,f169]
theorem Oq(t sep:za)(Y:Hp)(Z:Nat):yz Csq f138 [str t,str sep] Y Z=some (.fn (.func 217) [] [.ref (Z+1) 0 0,.ref Z 0 0,.ref (Z+1+1) 0 0],Tf t sep Y Z,Z+1+1+1):=by
 have a:=fun Y Z=>uf t sep Y Z
 unfold yz;rw[zf (by simp[f138])];refine y0 rfl ?_;simp[a,f138]
def JJ(Y:Hp)(Z:Nat)(v:O)(m:List qN):Prop:=v=.sl 11 (z6 m)\/(v=.nil/\m=[])\/∃id,id<Z/\v=.own id 0 (z6 m).length/\Y id=some ⟨176,11,true,z6 m⟩
theorem JJ.frz{Y:Hp}{Z:Nat}{v:O}{m:List qN}(h:JJ Y Z v m):∃y Y1,qa Y v=some (y,Y1)/\(Sh.s 11 jo).fix y=.sl 11 (z6 m)/\(∀j,(∀n,v≠.own j 0 n)->Y1 j=Y j)/\∀j b,Y1 j=some b->Y j=some b:=by
 rcases h with rfl|⟨rfl,rfl⟩|⟨id,f,rfl,c⟩
 ·exact⟨_,Y,rfl,JY m,fun _ _=>rfl,fun _ _ h=>h⟩
 ·exact⟨_,Y,rfl,rfl,fun _ _=>rfl,fun _ _ h=>h⟩
 ·refine⟨.sl 11 (z6 m),qt Y id none,by simp[c],JY m,fun j d=>zm _ _ _ _ fun e=>d _ (by subst e;rfl),fun j b a=>?_⟩;by_cases e:j=id
  ·subst e;rw[wP]at a;cases a
  ·rwa [qL _ _ _ _ e]at a
theorem JJ.keep{Y Y':Hp}{Z a:Nat}{v:O}{m:List qN}(h:JJ Y Z v m)(e:Z<=a)(b:∀id,id<Z->(∀n,v=.own id 0 n->Y' id=Y id)):JJ Y' a v m:=by
 rcases h with rfl|⟨rfl,rfl⟩|⟨id,c,rfl,d⟩
 ·exact .inl rfl
 ·exact .inr (.inl ⟨rfl,rfl⟩)
 ·exact .inr (.inr ⟨id,by omega,rfl,by rw[b id c _ rfl];exact d⟩)
theorem JJ.len{Y:Hp}{Z:Nat}{v:O}{m:List qN}(h:JJ Y Z v m):Yt prog 132 v=some (int m.length):=by rcases h with rfl|⟨rfl,rfl⟩|⟨id,a,rfl,b⟩<;>simp[z6]
theorem JJ.box{Y:Hp}{Z:Nat}{v:O}{m:List qN}(h:JJ Y Z v m){j:Nat}{b:kn}(a:Y j=some b)(c:b.e≠176):∀n,v≠.own j 0 n:=by
 rcases h with rfl|⟨rfl,rfl⟩|⟨id,f,rfl,d⟩
 ·intro n e;cases e
 ·intro n e;cases e
 ·intro n e;injection e with e
  subst e;rw[d]at a;injection a with a
  subst a;exact c rfl
theorem JJ.lt{Y:Hp}{Z:Nat}{v:O}{m:List qN}(h:JJ Y Z v m){j n:Nat}(e:v=.own j 0 n):j<Z:=by
 rcases h with rfl|⟨rfl,rfl⟩|⟨id,a,rfl,b⟩
 ·cases e
 ·cases e
 ·injection e with e;omega
theorem Tg(c:xN)(Y:Hp)(Z:Nat)(h:c.ok):qA [.g tX] (FCm Jv) [.agg c.V] Y Z=some (Jv c,Y,Z):=
 vH (show zw Y [.agg c.V]=some ([.agg c.V],Y) by simp[xN.V]) (by
  have d:(Sh.g tX).fix (.agg c.V)=.agg c.V:=by simp[xN.V]
  show FCm Jv [(Sh.g tX).fix (.agg c.V)]=_;rw[d];exact qG (V:=fun v:xN=>[O.agg v.V]) (a:=c) (fun a b e=>by simp only[zl,zM]at e;injection e with e;exact IX e) h) (.inr (by simp[xN.V]))
theorem Cb(f:Bool->Bool->Bool)(g:Nat)(C:(f=and/\g=143)\/(f=or/\g=144)){Y:Hp}{Z:Nat}{v w:O}{a b:List qN}(D:JJ Y Z v a)(E:JJ Y Z w b)(h:∀id n k,v=.own id 0 n->w≠.own id 0 k)(u:yK a)(A:yK b) :
  ∃x Y' i,vA [.s 11 jo,.s 11 jo] B7 [v,w,.fn (.func g) [] []] Y Z=some (x,Y',i)/\JJ Y' i x (kv f a b)/\Z<=i/\(∀j,j<Z->(∀n,v≠.own j 0 n)->(∀n,w≠.own j 0 n)->Y' j=Y j)/\(∀n j,x=.own j 0 n->Z<=j)/\∀s es,x≠.sl s es:=by
 obtain⟨y,Y1,F,G,l,_⟩:=D.frz;have m:JJ Y1 Z w b:=E.keep (ze _) fun id _ n e=>l id fun H I=>h id H n I e
 obtain⟨z,Y2,J,K,B,_⟩:=m.frz;have d:zw Y [v,w,.fn (.func g) [] []]=some ([y,z,.fn (.func g) [] []],Y2):=by simp only[zw,F,J];rfl
 have hF:B7 (cw [.s 11 jo,.s 11 jo] (q6 [] [y,z,.fn (.func g) [] []]))=some (Wt f a b):=by
  show B7 [(Sh.s 11 jo).fix y,(Sh.s 11 jo).fix z,.fn (.func g) [] []]=_;rw[G,K];rcases C with⟨rfl,rfl⟩|⟨rfl,rfl⟩
  ·have:=qG (V:=fun a:List qN×List qN=>[O.sl 11 (z6 a.1),.sl 11 (z6 a.2),.fn (.func 143) [] []]) (pre:=fun a=>yK a.1/\yK a.2) (out:=fun a=>Wt and a.1 a.2) (a:=(a,b)) (Hd _) ⟨u,A⟩;unfold B7;rw[this]
  ·have:=qG (V:=fun a:List qN×List qN=>[O.sl 11 (z6 a.1),.sl 11 (z6 a.2),.fn (.func 144) [] []]) (pre:=fun a=>yK a.1/\yK a.2) (out:=fun a=>Wt or a.1 a.2) (a:=(a,b)) (Hd _) ⟨u,A⟩;have o:qu (α:=List qN×List qN) (fun a=>[O.sl 11 (z6 a.1),.sl 11 (z6 a.2),.fn (.func 143) [] []]) (fun a=>yK a.1/\yK a.2) (fun a=>Wt and a.1 a.2) [O.sl 11 (z6 a),.sl 11 (z6 b),.fn (.func 144) [] []]=none:=by
    cases L:qu (α:=List qN×List qN) (fun a=>[O.sl 11 (z6 a.1),.sl 11 (z6 a.2),.fn (.func 143) [] []]) (fun a=>yK a.1/\yK a.2) (fun a=>Wt and a.1 a.2) [O.sl 11 (z6 a),.sl 11 (z6 b),.fn (.func 144) [] []]with
    |none=>rfl
    |some r=>obtain⟨_,e,_⟩:=zK L;simp at e
   unfold B7;rw[o];exact this
 unfold vA yh;by_cases p:kv f a b=[]
 ·have c:=hF;unfold Wt at c;rw[zf p]at c;simp only[d,c];exact⟨_,_,_,rfl,.inr (.inl ⟨rfl,p⟩),ze _,fun j _ q t=>(B j t).trans (l j q),fun n j e=>(by cases e),fun s es e=>(by cases e)⟩
 ·have c:=hF;unfold Wt at c;rw[zc p]at c;simp only[d,c];exact⟨_,_,_,rfl,.inr (.inr ⟨Z,by omega,rfl,by simp⟩),by omega,fun j M q t=>by rw[zm _ _ _ _ (by omega)];exact(B j t).trans (l j q),fun n j e=>(by injection e with e;omega),fun s es e=>(by cases e)⟩
noncomputable abbrev Crrg:Ctx:=bD prog [(138,yz Csq f138),(139,zi false [] (Vn ua)),(140,qA [] (YG bB)),(141,qA [.g tX] (FCm Jv)),(142,vA [.s 11 jo,.s 11 jo] B7),(145,qA [.g jo] (FSt idS))] 217 cX
theorem zbY:Gd Crrg:=Oo mixed ⟨Fm,by simp,cO,by simp,JU,by simp,gT,by simp,o9,by simp,cW,by simp,trivial⟩ Fl
theorem mH(t:za)(ht:t.length+1<=zx):∃r0,zt Crrg f106 [str t]=some r0/\qg r0 (rY t):=by
 refine yM (sh:=.s 11 jo) rfl ?_;by_cases T:(400:Int)<t.length
 ·have hv:xe t=([],2):=by unfold xe;rw[zf T]
  simp[T,rY,hv,z6,qo,f106]
 have hsq:=fun Y Z=>Oq t [124,124] Y Z
 obtain⟨a,u⟩:=jj (qh t [124,124]);have hpl:∀p∈a,p.length<=400:=fun p Y=>by have:=vf (by rw[u];exact Y);omega
 have hpn:a.length<=401:=by have:=xZ (s:=t) (sep:=[124,124]) (by simp);rw[u]at this;omega
 have b:xe t=match oK a with
  |none=>([],10)
  |some ls=>match Vk ls []with
   |none=>([],1)
   |some o=>if(100:Int)<o.length then([],2)else(o,0):=by unfold xe;rw[zc T,u]<;>rfl
 simp[T,hsq];refine Iu (p:=23) (xs:=a.map str) rfl (by simp;exact⟨rfl,rfl⟩) (it:=cX) rfl (by simp[cX,Tf,u];exact⟨⟨by decide,by omega⟩,rfl⟩) (fun k Y Z=>∃(v:O) (done:List (List xN)),6<=Z/\Y 0=some ⟨132,1,false,[[.nil]]⟩/\Y 1=some ⟨30,1,false,[[int 0]]⟩/\Y 2=some ⟨156,1,false,[[v]]⟩ /\
   qU Y Z 160 1 v (done.map fun l=>[.sl 11 (ZA l)])/\done.length=k/\oK a=(oK (a.drop k)).map (done++·)) ?_ ?_ ?_
 ·exact⟨.nil,[],by simp,by simp,by simp,by simp,.inl ⟨rfl,rfl⟩,rfl,by rw[kc];cases oK a<;>rfl⟩
 ·rintro k Y Z hk ⟨v,done,z,f,d,b2,C,hdk,he⟩;have hk':k<a.length:=by simpa using hk
  have hpk:(a.map str)[k]=str a[k]:=by simp
  have hpkl:=hpl a[k] (zk hk');have halt:=fun Y Z=>vI ua a[k] Y Z (by unfold zx;omega)
  simp only[ua]at halt;rw[hpk];rw[zh hk']at he;simp only[oK]at he;cases D:(QJ a[k]).2
  ·rw[D]at he;simp only[zO,wx,xS]at he;rw[he]at b;have n0:¬0=Z:=by omega
   have n1:¬1=Z:=by omega
   simp[halt,D,f,d,rY,b,z6,qo,f106]
  ·rw[D]at he;simp only[qI]at he;have pT:=qU.yS (P:=prog) (t:=156) (c:=[.sl 11 (ZA (QJ a[k]).1)]) C zat zez zeA zeB rfl (by omega) (by simp[hdk];unfold maxLen;omega) (by simp[hdk];omega);have k0:=fun Y'=>yi C Y' 0 (mE C f rfl)
   have k1:=fun Y'=>yi C Y' 1 (mE C d rfl)
   have k2:=fun Y'=>yi C Y' 2 (mE C b2 rfl)
   have n0:¬0=Z:=by omega
   have n1:¬1=Z:=by omega
   have n2:¬2=Z:=by omega
   have n3:¬1=Z+1:=by omega
   have n4:¬2=Z+1:=by omega
   have n5:¬Z+1=2:=by omega
   simp[halt,D,f,d,b2,pT,k0,k1,k2,n0,n1,n2,n3,n4,n5,zp,zy,zo];refine⟨by omega,by rw[zm _ _ _ _ (by omega),k1,zm _ _ _ _ (by omega)];exact d,done++[(QJ a[k]).1],.inr ⟨Z+1,by omega,by simp,by rw[zm _ _ _ _ (by omega)];simp⟩,by simp[hdk],?_⟩;rw[he];cases oK (a.drop (k+1))<;>simp
 ·rintro Y Z ⟨v,done,z,f,d,b2,C,hdk,he⟩;rw[xQ]at hdk;rw[xQ,zq]at he;simp only[oK,zA,jJ]at he;obtain⟨zfK,hdl⟩:=mD a done 400 hpl he;rw[he]at b;simp only at b;have hlen:=C.len zat;rw[xQ]at hlen;have hdn:done.length<=401:=by omega
  obtain⟨r,L⟩:=jj (done.map (fun l=>[O.sl 11 (ZA l)]));rw[L]at C;have U4:r.length=done.length:=by rw[<-L];simp
  simp[b2,hlen];refine zT (fun i U Y Z=>U 2=.ref 0 0 0/\U 3=.ref 1 0 0/\U 35=v/\U 36=int done.length/\U 37=int i/\6<=Z/\Y 0=some ⟨132,1,false,[[.nil]]⟩/\Y 1=some ⟨30,1,false,[[int 0]]⟩ /\
    qU Y Z 160 1 v r/\∃o,JJ Y Z (U 8) o/\(∀s es,U 8≠.sl s es)/\yX o/\o.length<=i*500/\Vk done []=Vk (done.drop i) o) done.length
   ⟨by simp,by simp,by simp,by simp,by simp,z,f,d,C,[],.inr (.inl ⟨by simp,rfl⟩),by simp,(by intro s hs;cases hs),by simp,by simp⟩ ?_
  clear z f d b2 C hlen Y Z;rintro i U Y Z hi ⟨M,N,H,A,B,z,f,d,C,o,K,Q,hgo,hol,hj⟩;by_cases hlt:i<done.length
  ·obtain⟨idA,I,rfl,E⟩:=C.at_ (by omega);obtain⟨l,hl⟩:=jj (done[i]);have hri:∀h:i<r.length,r[i]=[O.sl 11 (ZA l)]:=fun h=>by
    have:r[i]?=some [O.sl 11 (ZA l)]:=by rw[<-L,qf,zj hlt,hl];rfl
    rw[zj h]at this;injection this
   obtain⟨hgl,hll⟩:=zfK l (by rw[<-hl];exact zk hlt);rw[zh hlt,hl]at hj;simp only[Vk]at hj;have hev:∀(Y:Hp) (Z:Nat),qA [] (YG bB) [] Y Z=some (.sl 11 (z6 [w5 qR]),Y,Z):=fun Y Z=>QY _ Y Z
   have hwi:=qH i;have hel:(ZA l).length=l.length:=by simp[ZA]
   simp[M,N,H,A,B,hlt,U4,E,hri,hev,hel];refine zT (fun k U Y Z=>U 2=.ref 0 0 0/\U 3=.ref 1 0 0/\U 35=.own idA 0 r.length/\U 36=int done.length/\U 37=int i/\6<=Z/\Y 0=some ⟨132,1,false,[[.nil]]⟩/\Y 1=some ⟨30,1,false,[[int 0]]⟩ /\
     qU Y Z 160 1 (.own idA 0 r.length) r/\JJ Y Z (U 8) o/\(∀s es,U 8≠.sl s es)/\U 42=.sl 11 (ZA l)/\U 43=int l.length/\U 44=int k/\∃m,JJ Y Z (U 11) m/\yX m/\m.length<=k+1/\(∀id n n',U 8=.own id 0 n->U 11≠.own id 0 n')/\YI l [w5 qR]=YI (l.drop k) m) l.length
    ⟨by simp[M],by simp[N],by simp[H,U4],by simp[A],by simp[B],z,f,d,C,by simpa using K,by simpa using Q,by simp,by simp,by simp,[w5 qR],.inl (by simp),(Z5 kS).2,by simp,by simp,by simp⟩ ?_
   clear M N H A B z f d C K Q hi E I U Y Z;rintro k U Y Z hk ⟨M,N,H,A,B,z,f,d,C,K,Q,h42,h43,h44,m,hM,R6,hml,pT,y⟩;by_cases W:k<l.length
   ·obtain⟨c,hc⟩:=jj (l[k]);have hcg:c.vS:=hgl c (by rw[<-hc];exact zk W);obtain⟨hs1,hs2⟩:=J1 hcg;have J:∀h:k<(ZA l).length,(ZA l)[k]=c.V:=fun h=>by simp[ZA,hc]
    have sS:=fun Y Z=>Tg c Y Z hcg.ok
    have hwk:=qH k;rw[zh W,hc]at y;simp only[YI]at y;have n0:¬0=Z:=by omega
    have n1:¬1=Z:=by omega
    cases D:(vj c).2
    ·rw[D]at y;simp only[zO,wx]at y;rw[y]at hj;simp only at hj;rw[hj]at b;simp only at b;simp only[Jv,xN.V]at sS J;simp[M,N,H,A,B,h42,h43,h44,W,hel,J,sS,D,f,d,n0,n1,rY,b,z6,qo,f106]
    ·rw[D]at y;simp only[qI]at y;have hM':JJ (qt Y Z (some ⟨168,11,false,[c.V]⟩)) (Z+1) (U 11) m:=hM.keep (by omega) fun id hid n e=>zm _ _ _ _ (by omega)
     obtain⟨x,Y',Z',F,hX,U9,MM,X,hxs⟩:=Cb and 143 (.inl ⟨rfl,rfl⟩) hM' (.inl rfl:JJ _ _ (.sl 11 (z6 (vj c).1)) (vj c).1) (fun id n k e e2=>by cases e2) (R6.small (by unfold zx;omega)) (yX.small hs2 (by unfold zx;omega));have G:∀j,j<Z->(∀n,U 11≠.own j 0 n)->Y' j=Y j:=fun j hj q=>by rw[MM j (by omega) q (fun n e=>by cases e),zm _ _ _ _ (by omega)]
     have U7:=Yq and m (vj c).1;obtain⟨idA2,I,R,E⟩:=C.at_ (by omega);injection R with R
     subst R;simp only[Jv,xN.V]at sS J F;simp[M,N,H,A,B,h42,h43,h44,W,hel,J,sS,D,F,hwk];exact⟨by omega,by omega,by rw[G 0 (by omega) (hM.box f (by decide))];exact f,by rw[G 1 (by omega) (hM.box d (by decide))];exact d,.inr ⟨idA,by omega,rfl,by rw[G idA I (hM.box E (by simp))];exact E⟩,K.keep (by omega) (fun id hid n e=>G id hid fun n'=>pT id n n' e),Q,_,hX,kx and R6 hs2,by omega,fun id n n' e e2=>by have:=K.lt e;have:=X _ _ e2;omega,y⟩
   ·obtain rfl:k=l.length:=by omega
    rw[zq]at y;simp only[YI]at y;rw[y]at hj;simp only at hj;obtain⟨x,Y',Z',F,hX,U9,MM,X,hxs⟩:=Cb or 144 (.inr ⟨rfl,rfl⟩) K hM pT (hgo.small (by unfold zx;omega)) (R6.small (by unfold zx;omega));have U7:=Yq or o m;obtain⟨idA2,I,R,E⟩:=C.at_ (by omega);injection R with R
    subst R;simp[M,N,H,A,B,h42,h43,h44,F,hwi];exact⟨by omega,U4,by omega,by rw[MM 0 (by omega) (K.box f (by decide)) (hM.box f (by decide))];exact f,by rw[MM 1 (by omega) (K.box d (by decide)) (hM.box d (by decide))];exact d,.inr ⟨idA,by omega,by rw[U4],by rw[MM idA I (K.box E (by simp)) (hM.box E (by simp))];exact E⟩,_,hX,hxs,kx or hgo R6,by omega,hj⟩
  ·obtain rfl:i=done.length:=by omega
   rw[zq]at hj;simp only[Vk]at hj;rw[hj]at b;simp only at b;have S:=K.len;by_cases h100:(100:Int)<o.length
   ·rw[zf h100]at b;simp[M,N,A,B,S,h100,f,d,rY,b,z6,qo,f106]
   rw[zc h100]at b;simp[M,N,A,B,S,h100];obtain⟨w,hw8⟩:=jj (U 8);rw[hw8]at K Q;refine zT (fun j U Y Z=>U 2=.ref 0 0 0/\U 3=.ref 1 0 0/\U 8=w/\U 66=w/\U 67=int o.length/\U 68=int j/\6<=Z/\Y 0=some ⟨132,1,false,[[.nil]]⟩/\Y 1=some ⟨30,1,false,[[int 0]]⟩/\JJ Y Z w o) o.length
    ⟨by simp[M],by simp[N],by simp[hw8],by simp[hw8],by simp,by simp,z,f,d,K⟩ ?_
   clear M N H A B z f d C K hi hw8 U Y Z S;rintro j U Y Z hjl ⟨M,N,h8,h66,h67,h68,z,f,d,K⟩;by_cases hltj:j<o.length
   ·have hwj:=qH j;rcases K with rfl|⟨rfl,rfl⟩|⟨id,hid,rfl,hb⟩
    ·exact absurd rfl (Q _ _)
    ·simp at hltj
    ·obtain⟨s,hs⟩:=jj (o[j]);have UR:=hgo s (by rw[<-hs];exact zk hltj);have hel:(z6 o).length=o.length:=by simp[z6]
     have J:∀h:j<(z6 o).length,(z6 o)[j]=s.V:=fun h=>by simp[z6,hs]
     have hset:(z6 o).set j s.V=z6 o:=by
      have h':j<(z6 o).length:=by omega
      rw[<-J h'];exact List.set_getElem_self h'
     have hcp:∀Y Z,qA [.g jo] (FSt idS) [.agg s.V] Y Z=some (.agg s.V,Y,Z):=fun Y Z=>Ol idS s (.agg s.V) Y Z ⟨UR.1.small,UR.2.small⟩ (by simp[qN.V,Cut.V]) (by simp[qN.V,Cut.V]) (by simp[qN.V,Cut.V])
     have m1:¬id=Z:=by omega
     simp only[qN.V,Cut.V,qX,kj]at J hcp hset;have i0:¬0=id:=fun e=>by rw[<-e]at hb;rw[hb]at f;simp at f
     have i1:¬1=id:=fun e=>by rw[<-e]at hb;rw[hb]at d;simp at d
     have n0:¬0=Z:=by omega
     have n1:¬1=Z:=by omega
     simp[M,N,h8,h66,h67,h68,hltj,hel,hb,J,hcp,m1,hwj,hset];exact⟨by omega,by omega,by simp[i0,n0,f],by simp[i1,n1,d],.inr (.inr ⟨id,by omega,by rw[hel],by simp⟩)⟩
   ·obtain rfl:j=o.length:=by omega
    rcases K with rfl|⟨rfl,rfl⟩|⟨id,hid,rfl,hb⟩
    ·exact absurd rfl (Q _ _)
    ·simp[M,N,h8,h66,h67,h68,f,d,rY,b,qo,z6,f106]
    ·have i0:¬id=0:=fun e=>by rw[e]at hb;rw[hb]at f;simp at f
     have i1:¬id=1:=fun e=>by rw[e]at hb;rw[hb]at d;simp at d
     have hfx:=JY o;simp only[Sh.oG,O.sl.injEq,true_and]at hfx;simp[M,N,h8,h66,h67,h68,f,d,hb,i0,i1,rY,b,qo,hfx,f106]
theorem Vl:zg prog 106 (zi false [] (Vn rY)):=
 xl (fn:=f106) zbY (qE func106) false [] _ fun args r h w S vs a=>by obtain⟨l,rfl,Y,rfl⟩:=zK h;obtain⟨b,c,d⟩:=mH l Y;exact⟨_,b,a,by simp[f106],c,d⟩
def Jf(op:Int):Bool:=xb op 2 6||op==12
def WW(op:Int):Bool:=xb op 7 11
def jU(op:Int):Bool:=xb op 3 6
noncomputable abbrev Cwi:Ctx:=zW prog [(58,zi false [] (F3 xb))]
theorem Fo:AM.Good Cwi (fun g=>[58].contains g):=qx mixed ⟨Qq,fun _=>zr _ _,trivial⟩
def rZ(f:Int->Bool):zb->Option O
 |[.v (.int .i64 a)]=>some (q8 (f a))
 |_=>none
theorem XR{f:Int->Bool}{args:zb}{r:O}(h:rZ f args=some r):∃a,args=[int a]/\r=q8 (f a):=by
 unfold rZ at h;split at h
 ·injection h with h;exact⟨_,rfl,h.symm⟩
 ·cases h
@[simp]theorem zeU(f:Int->Bool)(a:Int)(Y:Hp)(Z:Nat):zi false [] (rZ f) [.v (.int .i64 a)] Y Z=some (q8 (f a),Y,Z):=yk rfl rfl (.inl rfl)
theorem Ce:zg prog 104 (zi false [] (rZ Jf)):=
 yj (fn:=f104) Fo (qE func104) false [] _ fun args r h=>by obtain⟨a,rfl,rfl⟩:=XR h;exact⟨by simp[f104],_,zn rfl (by simp[Jf,f104]),qq _⟩
theorem fN:zg prog 61 (zi false [] (rZ WW)):=
 yj (fn:=f61) Fo (qE func61) false [] _ fun args r h=>by obtain⟨a,rfl,rfl⟩:=XR h;exact⟨by simp[f61],_,zn rfl (by simp[WW,f61]),qq _⟩
theorem V1:zg prog 96 (zi false [] (rZ jU)):=
 yj (fn:=f96) Fo (qE func96) false [] _ fun args r h=>by obtain⟨a,rfl,rfl⟩:=XR h;exact⟨by simp[f96],_,zn rfl (by simp[jU,f96]),qq _⟩
noncomputable abbrev Cms (n:Nat):Ctx:=zW prog [(26,zi false [] (FCp (fun c=>.wq [int c.parts,int c.levels]) n))]
theorem ug(n:Nat)(c:zG)(h:c.parts<=zx/\c.parts<=n+1):zt (Cms n) f26 [.agg c.V]=some (.wq [int c.parts,int c.levels]):=by
 have q:=QX c;have f:=bw c;have r:=E5 c;have s:=bz c.args;obtain⟨t,x⟩:=h;unfold zx at t;refine zn rfl ?_;simp;refine zT (fun k U Y Z=>U 9=.sl 7 (c.args.map zG.V)/\U 10=int c.args.length/\U 11=int k/\U 2=int ((1+wI (c.args.take k):Nat):Int)/\U 3=int (yp (c.args.take k))) c.args.length
  ⟨by simp,by simp,by simp,by simp[wI],by simp[yp]⟩ ?_
 rintro k U Y Z y ⟨l,d,e,g,i⟩;by_cases a:k<c.args.length
 ·obtain⟨m,u⟩:=zeQ a;have z:=YE (zk a);have v:=qH k;have o:=rM c.args k;have j:=rM c.args (k+1);have b:=fun Y Z=>NZ (fun c=>.wq [int c.parts,int c.levels]) n c.args[k] Y Z ⟨by unfold zx;omega,by omega⟩
  have p:i6.wrap (((1+wI (c.args.take k):Nat):Int)+c.args[k].parts)=((1+wI (c.args.take (k+1)):Nat):Int):=by rw[wQ (by omega) (by omega),m];omega
  have w:(if(yp (c.args.take k))<c.args[k].levels then(c.args[k].levels:Int)else yp (c.args.take k))=(yp (c.args.take (k+1)):Int):=by rw[u];split<;>omega
  simp[g,i,l,d,e,a,b,v];exact⟨by omega,by rw[wQ (by omega) (by omega),m];omega,w⟩
 ·obtain rfl:k=c.args.length:=by omega
  rw[wJ]at g i;have p:i6.wrap ((yp c.args:Int)+1)=(c.levels:Int):=by rw[wQ (by omega) (by omega),f];omega
  simp[g,i,l,d,e,p,wc,f26];omega
theorem V2:∀n,zg prog 26 (zi false [] (FCp (fun c=>.wq [int c.parts,int c.levels]) n)):=by
 intro n
 induction n with
 |zero=>
  exact Yn ⟨_,func26,by kernel_rfl,by kernel_rfl⟩ fun args r h=>by obtain⟨c,_,⟨_,e⟩,_⟩:=zK h;have:=ek c;omega
 |succ n a=>have b:Gd (Cms n):=qc mixed ⟨a,trivial⟩;exact Z2 b func26 false [] fun c d=>⟨zE (ze 1) (by decide),_,ug n c d,qq _⟩
theorem pa(n:Nat):zg prog 26 (zi false [] (FC (fun c=>.wq [int c.parts,int c.levels]) n)):=rN (N0 _ n) (V2 zx)
def w1F(c:zG):Bool:=!(c.kind==4)&&(!c.attr.isEmpty||c.op != 0||decide (0<c.qZ.length)||!c.pat.isEmpty)
def w2F(c:zG):Bool:=c.kind != 5&&!c.name.isEmpty
def w3F(c:zG):Bool:=!xb c.kind 1 3&&decide (0<c.args.length)
def w4F(c:zG):Bool:=c.kind==4&&!Jf c.op&&decide (0<c.qZ.length)
def w5F(c:zG):Bool:=c.kind==4&&!WW c.op&&!c.pat.isEmpty
def w6F(c:zG):Bool:=c.kind==3&&(c.args.length:Int) != 1
def w7F(c:zG):Bool:=c.kind==4&&jU c.op&&(c.qZ.length:Int) != 1
def Zq(c:zG):Bool:=w1F c||w2F c||w3F c||w4F c||w5F c||w6F c||w7F c
noncomputable abbrev Cfo:Ctx:=zW prog [(58,zi false [] (F3 xb)),(104,zi false [] (rZ Jf)),(61,zi false [] (rZ WW)),(96,zi false [] (rZ jU))]
theorem zbZ:AM.Good Cfo (fun g=>[58,104,61,96].contains g):=qx mixed ⟨Qq,fun _=>zr _ _,Ce,fun _=>zr _ _,fN,fun _=>zr _ _,V1,fun _=>zr _ _,trivial⟩
@[simp]theorem zeV:kN Cfo 104:=jd (by rfl) (zr _ _)
@[simp]theorem zeW:kN Cfo 61:=jd (by rfl) (zr _ _)
@[simp]theorem zeX:kN Cfo 96:=jd (by rfl) (zr _ _)
theorem mI(c:zG)(h:c.cb<=zx):zt Cfo f59 [.agg c.V]=some (int (if Zq c=true then 3 else 0)):=by
 refine zn rfl ?_;have a:(!(c.kind==4)&&(!c.attr.isEmpty||c.op != 0||decide (0<c.qZ.length)||!c.pat.isEmpty))=w1F c:=rfl;have d:(c.kind != 5&&!c.name.isEmpty)=w2F c:=rfl;have f:(!xb c.kind 1 3&&decide (0<c.args.length))=w3F c:=rfl;have i:(c.kind==4&&!Jf c.op&&decide (0<c.qZ.length))=w4F c:=rfl;have k:(c.kind==4&&!WW c.op&&!c.pat.isEmpty)=w5F c:=rfl;have m:(c.kind==3&&(c.args.length:Int) != 1)=w6F c:=rfl;have o:(c.kind==4&&jU c.op&&(c.qZ.length:Int) != 1)=w7F c:=rfl;cases b:w1F c
 case true=>simp[a,b,Zq,f59]
 cases e:w2F c
 case true=>simp[a,b,d,e,Zq,f59]
 cases g:w3F c
 case true=>simp[a,b,d,e,f,g,Zq,f59]
 cases j:w4F c
 case true=>simp[a,b,d,e,f,g,i,j,Zq,f59]
 cases l:w5F c
 case true=>simp[a,b,d,e,f,g,i,j,k,l,Zq,f59]
 cases n:w6F c
 case true=>simp[a,b,d,e,f,g,i,j,k,l,m,n,Zq,f59]
 cases p:w7F c
 case true=>simp[a,b,d,e,f,g,i,j,k,l,m,n,o,p,Zq,f59]
 simp[a,b,d,e,f,g,i,j,k,l,m,n,o,p,Zq,f59]
theorem gV:zg prog 59 (GC fun c=>int (if Zq c=true then 3 else 0)):=
 yj (fn:=f59) zbZ (qE func59) false [] _ fun args r h=>by obtain⟨c,rfl,a,rfl⟩:=YD h;exact⟨by simp[f59],_,mI c a.1,qq _⟩
noncomputable def bE (p:Option zZ) (v:zZ):Bool:=match p with
 |none=>false
 |some p=>decide (0<=qQ p v)
def Cf(op:Int)(v:zZ):Bool:=v.kind==0||jU op&&v.kind != 2
noncomputable def ab (op:Int):Option zZ->List zZ->Int
 |_,[]=>0
 |p,v::l=>if v.check=0 then(if Cf op v=true then 6 else if bE p v=true then 8 else ab op (some v) l)else v.check
noncomputable def Z6 (op:Int) (l:List zZ):Int:=if(100:Int)<l.length then 2 else ab op none l
def QN(l:List zZ)(k:Nat):Option zZ:=if k=0 then none else l[k-1]?
noncomputable def FIv (f:Int->List zZ->O):zb->Option O:=qu (α:=Int×List zZ) (fun a=>[int a.1,.sl 5 (a.2.map zZ.V)]) (fun a=>JI a.2<=zx) (fun a=>f a.1 a.2)
theorem Ot(f:Int->List zZ->O)(op:Int)(l:List zZ)(Y:Hp)(Z:Nat)(h:JI l<=zx):zi false [] (FIv f) [int op,.sl 5 (l.map zZ.V)] Y Z=some (f op l,Y,Z):=
 Js (op,l) _ _ (by simp) (fun x y e=>by obtain⟨c,d⟩:=x;obtain⟨g,i⟩:=y;simp only[zl,zM]at e;obtain⟨b,a⟩:=e;injection a with _ a;rw[qS b,ej a]) h (.inr (by simp))
noncomputable abbrev Ccv2:Ctx:=zW prog [(45,GV fun v=>int v.check),(96,zi false [] (rZ jU)),(105,zi false [] (R0 zx))]
theorem Th:AM.Good Ccv2 (fun g=>[96,105].contains g):=qx mixed ⟨fI,by simp,V1,fun _=>zr _ _,VW zx,fun _=>zr _ _,trivial⟩
@[simp]theorem zdx:kN Ccv2 96:=jd (by rfl) (zr _ _)
theorem eI(op:Int)(l:List zZ)(h:JI l<=zx):zt Ccv2 f60 [int op,.sl 5 (l.map zZ.V)]=some (int (Z6 op l)):=by
 have A:=yE l;unfold zx at h;refine zn rfl ?_;by_cases c:(100:Int)<l.length
 ·have x:Z6 op l=2:=by unfold Z6;rw[zf c]
  simp[c,x,f60]
 have x:Z6 op l=ab op none l:=by unfold Z6;rw[zc c]
 rw[x];simp[c];refine zT (fun k U Y Z=>U 0=int op/\U 1=.sl 5 (l.map zZ.V)/\U 11=.sl 5 (l.map zZ.V)/\U 12=int l.length/\U 13=int k/\ab op none l=ab op (QN l k) (l.drop k)) l.length
  ⟨by simp,by simp,by simp,by simp,by simp,by simp[QN]⟩ ?_
 rintro k U Y Z L ⟨p,q,d,e,f,a⟩;by_cases b:k<l.length
 ·have M:=js (zk b);have B:=qH k;have i:=fun Y Z=>Yd (fun v=>int v.check) l[k] Y Z (by unfold zx;omega)
  rw[zh b]at a;simp only[ab]at a;have r:QN l (k+1)=some l[k]:=by simp[QN,b]
  have m:(l[k].kind==0||jU op&&l[k].kind != 2)=Cf op l[k]:=rfl;by_cases n:l[k].check=0
  case neg=>rw[zc n]at a;have y:=ZX n;simp[p,q,d,e,f,b,i,y,a,f60]
  rw[zf n]at a;cases g:Cf op l[k]
  case true=>rw[g,zf rfl]at a;simp[p,q,d,e,f,b,i,n,m,g,a,f60]
  rw[g,zc (by simp)]at a;by_cases H:k=0
  ·subst H;have I:bE (QN l 0) l[0]=false:=rfl;rw[I,zc (by simp)]at a;simp[p,q,d,e,f,b,i,n,m,g,B];exact⟨by omega,by rw[a,show QN l 1=some l[0]from r];simp⟩
  ·obtain⟨j,rfl⟩:∃j,k=j+1:=⟨k-1,by omega⟩;have u:j<l.length:=by omega
   have J:=js (zk u);have C:i6.wrap ((j:Int)+1-1)=(j:Int):=by rw[wQ (by omega) (by omega)];omega
   have s:=wX (j:Int);have D:((j:Int)+1).toNat=j+1:=by omega
   have E:0<(j:Int)+1:=by omega
   have F:0<=(j:Int)+1:=by omega
   have G:(j:Int)+1<l.length:=by omega
   have t:=fun Y Z=>YC zx l[j] l[j+1] Y Z ⟨by unfold zx;omega,by unfold zx;omega,by unfold zx;omega⟩
   have z:bE (QN l (j+1)) l[j+1]=decide (0<=qQ l[j] l[j+1]):=by simp[QN,u,bE]
   rw[z]at a;by_cases w:0<=qQ l[j] l[j+1]
   ·have o:decide (0<=qQ l[j] l[j+1])=true:=by simpa using w
    rw[zf o]at a;simp[p,q,d,e,f,b,u,i,n,m,g,B,C,s,D,E,F,G,t,w,a,f60]
   ·have o:¬decide (0<=qQ l[j] l[j+1])=true:=by simpa using w
    rw[zc o]at a;have K:=wX ((j:Int)+1+1);simp[p,q,d,e,f,b,u,i,n,m,g,K,C,s,D,E,F,G,t,w];exact⟨by omega,by rw[a,r]⟩
 ·obtain rfl:k=l.length:=by omega
  rw[zq]at a;simp only[ab]at a;simp[p,q,d,e,f,a,f60]
theorem cY:zg prog 60 (zi false [] (FIv fun op l=>int (Z6 op l))):=
 Z2 Th func60 false [] fun⟨op,l⟩ a=>⟨by simp[f60],_,eI op l a,qq _⟩
noncomputable def Y3 (op:Int) (s:za):Int:=if(500:Int)<s.length then 2 else if wa 32 126 s=true then(if op=11 then(xe s).2 else 0)else 1
noncomputable def FIs (f:Int->za->O):zb->Option O:=qu (α:=Int×za) (fun a=>[int a.1,str a.2]) (fun a=>a.2.length<=zx) (fun a=>f a.1 a.2)
theorem Ou(f:Int->za->O)(op:Int)(s:za)(Y:Hp)(Z:Nat)(h:s.length<=zx):zi false [] (FIs f) [int op,str s] Y Z=some (f op s,Y,Z):=
 Js (op,s) _ _ rfl (fun x y e=>by obtain⟨a,b⟩:=x;obtain⟨c,d⟩:=y;simp only[zl,zM]at e;rw[qS e.1,wR e.2]) h (.inr (by simp))
noncomputable abbrev Cpt:Ctx:=zW prog [(106,zi false [] (Vn rY))]
theorem zb0:Gd Cpt:=qc mixed ⟨Vl,trivial⟩
theorem cZ(op:Int)(s:za)(h:s.length<=zx):zt Cpt f62 [int op,str s]=some (int (Y3 op s)):=by
 unfold zx at h;refine zn rfl ?_;by_cases a:(500:Int)<s.length
 ·have b:Y3 op s=2:=by unfold Y3;rw[zf a]
  simp[a,b,f62]
 have i:=fun Y Z=>vI rY s Y Z (by unfold zx;omega)
 simp only[rY]at i;have b:Y3 op s=if wa 32 126 s=true then(if op=11 then(xe s).2 else 0)else 1:=by unfold Y3;rw[zc a]
 simp[a];refine zT (fun k U Y Z=>U 0=int op/\U 1=str s/\U 12=int s.length/\U 13=int k/\wa 32 126 s=wa 32 126 (s.drop k)) s.length ⟨by simp,by simp,by simp,by simp,by simp⟩ ?_;rintro k U Y Z q ⟨l,m,c,d,g⟩;by_cases e:k<s.length
 ·have p:=qH k;rw[Zk e]at g;have o:=VM 32 126 s[k];simp only[ZG]at o;cases n:pr 32 126 s[k]
  ·have g:wa 32 126 s=false:=by rw[g,n];rfl
   rw[g,zc (by simp)]at b;simp[l,m,c,d,e,b,o,n,f62]
  ·simp[l,m,c,d,e,o,n,p];exact⟨e,by rw[g,n];rfl⟩
 ·obtain rfl:k=s.length:=by omega
  have g:wa 32 126 s=true:=by rw[g,zq];rfl
  rw[g,zf rfl]at b;by_cases f:op=11
  ·rw[zf f]at b;subst f;simp[l,m,c,d,i,b,f62]
  ·rw[zc f]at b;have j:=yq f;simp[l,m,c,d,j,b,f62]
theorem bF:zg prog 62 (zi false [] (FIs fun op s=>int (Y3 op s))):=
 Z2 zb0 func62 false [] fun⟨op,s⟩ a=>⟨by simp[f62],_,cZ op s a,qq _⟩
def c7(c:zG):Bool:=!xb c.kind 1 5
def MK(c:zG):Bool:=c.kind==4&&!xb c.op 1 12
def aU(c:zG):Bool:=(c.kind==4&&!w8 c.attr)||(c.kind==5&&!w8 c.name)
def Fp(c:zG):Bool:=c.kind==4&&WW c.op
noncomputable def vr (c:zG):Int:=if(c7 c||MK c)=true then 4 else if Zq c=true then 3 else if aU c=true then 5 else if Z6 c.op c.qZ=0 then(if Fp c=true then Y3 c.op c.pat else 0)else Z6 c.op c.qZ
mutual
noncomputable def zG.fault:zG->Int
 | .mk k a o v p n l=>if vr (.mk k a o v p n l)=0 then xh l else vr (.mk k a o v p n l)
noncomputable def xh:List zG->Int
 |[]=>0
 |c::l=>if c.fault=0 then xh l else c.fault
end
theorem eJ(c:zG):c.fault=if vr c=0 then xh c.args else vr c:=by cases c;simp only[zG.fault];rfl
theorem V3{l:List zG}{k:Nat}(h:k<l.length):xh (l.drop k)=if l[k].fault=0 then xh (l.drop (k+1))else l[k].fault:=by rw[zh h,xh]
noncomputable abbrev Ov (n:Nat):Ctx:=zW prog [(27,zi false [] (FC (fun c=>int c.fault) n)),(58,zi false [] (F3 xb)),(59,GC fun c=>int (if Zq c=true then 3 else 0)),(44,zi false [] (FS w8)),
 (60,zi false [] (FIv fun op l=>int (Z6 op l))),(61,zi false [] (rZ WW)),(62,zi false [] (FIs fun op s=>int (Y3 op s)))]
@[simp]theorem zdy(n:Nat):kN (Ov n) 58:=jd (by rfl) (zr _ _)
@[simp]theorem zdz(n:Nat):kN (Ov n) 44:=jd (by rfl) (zr _ _)
@[simp]theorem zdA(n:Nat):kN (Ov n) 61:=jd (by rfl) (zr _ _)
theorem gW(n:Nat)(c:zG)(h:c.cb<=zx/\c.cb<=n+1):zt (Ov n) f27 [.agg c.V]=some (int c.fault):=by
 have M:=xG c;have N:=ju c.args;obtain⟨L,R⟩:=h;have x:=eJ c;have i:=fun Y Z=>xc (fun c=>int (if Zq c=true then 3 else 0)) c Y Z L
 have r:=fun Y Z=>Ot (fun op l=>int (Z6 op l)) c.op c.qZ Y Z (by omega)
 have D:=fun Y Z=>Ou (fun op s=>int (Y3 op s)) c.op c.pat Y Z (by omega)
 have j:c.attr.length<=zx:=by omega
 have m:c.name.length<=zx:=by omega
 unfold zx at L;refine zn rfl ?_;have v:(!xb c.kind 1 5)=c7 c:=rfl;have y:(c.kind==4&&!xb c.op 1 12)=MK c:=rfl;have E:((c.kind==4&&!w8 c.attr)||(c.kind==5&&!w8 c.name))=aU c:=rfl;have H:(c.kind==4&&WW c.op)=Fp c:=rfl;cases q:c7 c
 case true=>simp[v,q,x,vr,f27]
 cases t:MK c
 case true=>simp[v,q,y,t,x,vr,f27]
 cases w:Zq c
 case true=>simp[v,q,y,t,i,w,x,vr,f27]
 cases z:aU c
 case true=>simp[v,q,y,t,i,w,j,m,E,z,x,vr,f27]
 by_cases A:Z6 c.op c.qZ=0
 case neg=>have I:=ZX A;simp[v,q,y,t,i,w,j,m,E,z,r,A,I,x,vr,f27]
 have o:∀(C:vr c=0),c.fault=xh c.args:=fun C=>by rw[x,zf C]
 cases F:Fp c
 case false=>
  have C:vr c=0:=by simp[vr,q,t,w,z,A,F]
  have p:=o C;simp[v,q,y,t,i,w,j,m,E,z,r,A,H,F];refine zT (fun k U Y Z=>U 73=.sl 7 (c.args.map zG.V)/\U 74=int c.args.length/\U 75=int k/\xh c.args=xh (c.args.drop k)) c.args.length ⟨by simp,by simp,by simp,by simp⟩ ?_;rintro k U Y Z P ⟨e,f,g,b⟩;by_cases d:k<c.args.length
  ·have Q:=kg (zk d);have J:=qH k;have a:=fun Y Z=>Wa (fun c=>int c.fault) n c.args[k] Y Z ⟨by unfold zx;omega,by omega⟩
   rw[V3 d]at b;by_cases u:c.args[k].fault=0
   ·rw[zf u]at b;simp[e,f,g,d,a,u,J];exact⟨by omega,b⟩
   ·rw[zc u]at b;have B:=ZX u;simp[e,f,g,d,a,B,p,b,f27]
  ·obtain rfl:k=c.args.length:=by omega
   rw[zq]at b;have b:xh c.args=0:=by rw[b];rfl
   simp[e,f,g,p,b,f27]
 case true=>
  by_cases G:Y3 c.op c.pat=0
  case neg=>have K:=ZX G;simp[v,q,y,t,i,w,j,m,E,z,r,A,H,F,D,G,K,x,vr,f27]
  have C:vr c=0:=by simp[vr,q,t,w,z,A,F,G]
  have p:=o C;simp[v,q,y,t,i,w,j,m,E,z,r,A,H,F,D,G];refine zT (fun k U Y Z=>U 73=.sl 7 (c.args.map zG.V)/\U 74=int c.args.length/\U 75=int k/\xh c.args=xh (c.args.drop k)) c.args.length ⟨by simp,by simp,by simp,by simp⟩ ?_;rintro k U Y Z P ⟨e,f,g,b⟩;by_cases d:k<c.args.length
  ·have Q:=kg (zk d);have J:=qH k;have a:=fun Y Z=>Wa (fun c=>int c.fault) n c.args[k] Y Z ⟨by unfold zx;omega,by omega⟩
   rw[V3 d]at b;by_cases u:c.args[k].fault=0
   ·rw[zf u]at b;simp[e,f,g,d,a,u,J];exact⟨by omega,b⟩
   ·rw[zc u]at b;have B:=ZX u;simp[e,f,g,d,a,B,p,b,f27]
  ·obtain rfl:k=c.args.length:=by omega
   rw[zq]at b;have b:xh c.args=0:=by rw[b];rfl
   simp[e,f,g,p,b,f27]
theorem eK:∀n,zg prog 27 (zi false [] (FC (fun c=>int c.fault) n)):=by
 intro n
 induction n with
 |zero=>exact iD ⟨_,func27,by kernel_rfl,by kernel_rfl⟩
 |succ n a=>
  have b:AM.Good (Ov n) (fun g=>[58,44,61].contains g):=qx mixed ⟨a,by simp,Qq,fun _=>zr _ _,gV,by simp,Yb,fun _=>zr _ _,cY,by simp,fN,fun _=>zr _ _,bF,by simp,trivial⟩;exact yj (fn:=f27) b (qE func27) false [] _ fun args r h=>by obtain⟨c,rfl,d,rfl⟩:=YD h;exact⟨zE (ze 1) (by decide),_,gW n c d,qq _⟩
noncomputable def zG.check (c:zG):Int:=if(decide ((200:Int)<c.parts)||decide ((20:Int)<c.levels))=true then 2 else c.fault
noncomputable abbrev Ccch:Ctx:=zW prog [(27,GC fun c=>int c.fault),(26,GC fun c=>.wq [int c.parts,int c.levels])]
theorem KJ:zg prog 11 (GC fun c=>int c.check):=
 yj (fn:=f11) (qc mixed ⟨eK zx,pa zx,trivial⟩:AM.Good Ccch _) (qE func11) false [] _ fun args r h=>by
  obtain⟨c,rfl,a,rfl⟩:=YD h;have b:=fun Y Z=>xc (fun c=>int c.fault) c Y Z a.1
  have d:=fun Y Z=>xc (fun c=>.wq [int c.parts,int c.levels]) c Y Z a.1
  refine⟨by simp[f11],_,zn rfl ?_,qq _⟩;cases e:(decide ((200:Int)<c.parts)||decide ((20:Int)<c.levels))
  ·simp[b,d,e,f11,zG.check]
  ·simp[b,d,e,f11,zG.check]
theorem x4(st:St):xy [] st:=fun t a=>by cases a
theorem Z7{s:Tmp}{L:List Tmp}{st:St}{id i j:Nat}{blk:kn}(h:st.U s=.ref id i j)(c:id<st.Z)(d:st.Y id=some blk)(e:blk.arr=false)(f:xy L st)(hs:s<zB:=by decide):xy (s::L) st:=fun t b=>by
 rcases zv.1 b with rfl|b
 ·refine⟨⟨fun id' o n a=>(by rw[h]at a;cases a),fun id' i' j' a=>?_⟩,fun g=>absurd hs (zhA.2 g)⟩;rw[h]at a;injection a with a _ _
  subst a;exact⟨c,blk,d,e⟩
 ·exact f t b
theorem XT{s:Tmp}{L:List Tmp}{st:St}{x:zb}(h:st.U s=.wq x)(c:xy L st)(hs:s<zB:=by decide):xy (s::L) st:=fun t b=>by
 rcases zv.1 b with rfl|b
 ·exact⟨⟨fun id' o n a=>(by rw[h]at a;cases a),fun id' i' j' a=>by rw[h]at a;cases a⟩,fun d=>absurd hs (zhA.2 d)⟩
 ·exact c t b
structure XS (v:zZ) (o3 o4:O) (Y:Hp) (Z:Nat):Prop where
 b0:Y 0=some ⟨52,5,false,[[int v.kind,int v.n,str v.s,o3,o4]]⟩
 b1:Y 1=some ⟨52,5,false,[[int 0,int 0,.v (.string ⟨#[]⟩),.nil,.nil]]⟩
 s3:qU Y Z 52 5 o3 (v.items.map zZ.V)
 s4:qU Y Z 78 6 o4 (v.fields.map ya)
 d3:∀id m,id<2->o3≠.own id 0 m
 d4:∀id m,id<2->o4≠.own id 0 m
 d:∀id m m',o3=.own id 0 m->o4≠.own id 0 m'
 iS:2<=Z
theorem XS.more{v:zZ}{a c:O}{Y:Hp}{Z:Nat}(h:XS v a c Y Z)(b:Option kn):XS v a c (qt Y Z b) (Z+1):=by have:=h.iS;exact⟨by rw[zm _ _ _ _ (by omega)];exact h.b0,by rw[zm _ _ _ _ (by omega)];exact h.b1,h.s3.more b,h.s4.more b,h.d3,h.d4,h.d,by omega⟩
theorem c8{α:Type}(f:Nat->α)(k:Nat)(x:α)(h:f k=x):qt f k x=f:=by
 funext i;simp only[qt];split
 ·rename_i e;subst e;exact h.symm
 ·rfl
noncomputable abbrev Cxc (n:Nat):Ctx:=ZO prog [(30,zi false [] (FV (fun v=>.agg v.V) n)),(28,yh [] (kf 52 5)),(63,yh [] (kf 78 6))] 1 [1,7,10] [28,63]
theorem zb1(n:Nat):QU (Cxc n) (fun g=>[30].contains g) 30 f30:=qE func30
theorem Fq(n:Nat)(v:zZ)(h:v.vb<=zx/\v.vb<=n+1)(N Q:O)(J:Xz 5 (v.items.map zZ.V) N)(K:Xz 6 (v.fields.map ya) Q) :
  ∃r0,zt (Cxc n) f30 [.agg [int v.kind,int v.n,str v.s,N,Q]]=some r0/\qg r0 (.agg v.V):=by
 have hvb:=xD v;have hl1:=yE v.items;have hl2:=jt v.fields;obtain⟨ha,hb⟩:=h;have G:=fun Y Z=>QV (e:=52) J (by simp;omega) Y Z
 have H:=fun Y Z=>QV (e:=78) K (by simp;omega) Y Z
 unfold zx at ha;refine wW rfl ?_;simp[J.cell,K.cell];rw[jb (Z7 (id:=0) (i:=0) (j:=0) (by simp) (by simp) (by simp;rfl) rfl (XT (by simp;rfl) (XT (by simp;rfl) (x4 _))))];obtain⟨g,f3,l,S⟩:∃o f m,kC 52 5 (v.items.map zZ.V) N 2=(o,f,m):=⟨_,_,_,rfl⟩;have U8:2<=l:=by have:=cH 52 5 (v.items.map zZ.V) N 2;rw[S]at this;exact this
 obtain⟨q,f4,n4,T⟩:∃o f m,kC 78 6 (v.fields.map ya) Q l=(o,f,m):=⟨_,_,_,rfl⟩;have hn4:l<=n4:=by have:=cH 78 6 (v.fields.map ya) Q l;rw[T]at this;exact this
 have q3:g=.nil\/g=.own 2 0 (v.items.map zZ.V).length:=by have:=XO 52 5 (v.items.map zZ.V) N 2;rw[S]at this;exact this
 have q4:q=.nil\/q=.own l 0 (v.fields.map ya).length:=by have:=XO 78 6 (v.fields.map ya) Q l;rw[T]at this;exact this
 have L:∀Y id,id<2->f3 Y id=Y id:=fun Y id hid=>by have:=Wq (e:=52) (s:=5) (es:=v.items.map zZ.V) (y:=N) (Z:=2) Y hid;rw[S]at this;exact this
 have E:∀Y id,id<l->f4 Y id=Y id:=fun Y id hid=>by have:=Wq (e:=78) (s:=6) (es:=v.fields.map ya) (y:=Q) (Z:=l) Y hid;rw[T]at this;exact this
 have r:∀Y,qU (f3 Y) l 52 5 g (v.items.map zZ.V)/\∀m,g≠.own 0 0 m/\g≠.own 1 0 m:=fun Y=>by have:=YB (e:=52) J Y 2;rw[S]at this;exact⟨this,fun m=>by rcases q3 with rfl|rfl<;>simp⟩
 have w:∀Y,qU (f4 Y) n4 78 6 q (v.fields.map ya)/\∀m id,id<l->q≠.own id 0 m:=fun Y=>by have:=YB (e:=78) K Y l;rw[T]at this;exact⟨this,fun m id hid=>by rcases q4 with rfl|rfl<;>simp<;>omega⟩
 have W:=fun Y=>L Y 0 (by omega)
 have X:=fun Y=>E Y 0 (by omega)
 have c3:g.wH=true:=by rcases q3 with rfl|rfl<;>rfl
 have c4:q.wH=true:=by rcases q4 with rfl|rfl<;>rfl
 have hcs3:g.cells=[g]:=by rcases q3 with rfl|rfl<;>rfl
 have hcs4:q.cells=[q]:=by rcases q4 with rfl|rfl<;>rfl
 have MB:Yt prog 23 g=some (int v.items.length):=by have:=(r fun _=>none).1.len (P:=prog) IA;simpa using this
 have h31:=fun Y=>L Y 1 (by omega)
 have h41:=fun Y=>E Y 1 (by omega)
 have z:∀id m,g=.own id 0 m->id<l:=fun id m hid=>by
  rcases(r fun _=>none).1 with⟨h,_⟩|⟨id',B,F,_⟩
  ·rw[h]at hid;cases hid
  ·rw[F]at hid;injection hid with hid _ _;omega
 have a:∀C:Hp,C 1=some ⟨52,5,false,[[int 0,int 0,.v (.string ⟨#[]⟩),.nil,.nil]]⟩->XS v g q (qt (f4 (f3 C)) 0 (some ⟨52,5,false,[[int v.kind,int v.n,str v.s,g,q]]⟩)) n4:=by
  intro C B;refine⟨by simp,by rw[zm _ _ _ _ (by omega),h41,h31,B],?_,?_,fun id m hid R=>?_,fun id m hid=>(w C).2 m id (by omega),fun id m m' R=>(w C).2 m' id (z id m R),by omega⟩
  ·refine(r C).1.same hn4 fun id m hid=>?_
   have M:¬id=0:=by rintro rfl;exact((r C).2 m).1 hid
   rw[zm _ _ _ _ M,E _ _ (z id m hid)]
  ·refine(w (f3 C)).1.same (ze _) fun id m hid=>?_
   have M:¬id=0:=by rintro rfl;exact(w C).2 m 0 (by omega) hid
   rw[zm _ _ _ _ M]
  ·have:=(r C).2 m
   match id,hid with
   | 0,_=>exact this.1 R
   | 1,_=>exact this.2 R
 simp[G,S,W,H,T,X,hcs3,hcs4,c3,c4,MB];refine zT (fun k U Y Z=>U 1=.ref 0 0 0/\U 2=.ref 1 0 0/\U 16=g/\U 17=int v.items.length/\U 18=int k/\XS v g q Y Z) v.items.length
  ⟨by simp,by simp,by simp,by simp,by simp,by simpa using a _ (by simp)⟩ ?_
 clear a z h31 h41 G H r w L E W X MB;rintro k U Y Z hk ⟨B,F,c,t,u,a⟩;by_cases b:k<v.items.length
 ·have hm:=js (zk b);have hw:=qH k;have p:=fun Y Z=>Yc (fun v=>.agg v.V) n v.items[k] Y Z ⟨by unfold zx;omega,by omega⟩
  obtain⟨id,i1,I,i3⟩:=a.s3.at_ (by simp;omega);have n0:¬id=0:=by rintro rfl;exact a.d3 0 _ (by omega) I
  have n1:¬id=1:=by rintro rfl;exact a.d3 1 _ (by omega) I
  have n2:¬id=Z:=by omega
  have l:¬0=Z:=by have:=a.iS;omega
  have A:(v.items.map zZ.V).set k v.items[k].V=v.items.map zZ.V:=by
   apply QF;intro j;rw[dD];split
   ·rename_i e;subst e;simp[b]
   ·rfl
  have hf:∀Y,qa Y (.agg v.items[k].V)=some (.agg v.items[k].V,Y):=fun Y=>ZR Y _
  have D:=a.b0;rw[I]at c D;simp[B,F,c,t,u,b,i3,hw,n0,n2,l,D,p,A];refine⟨b,by rw[I];simp,?_⟩;have h5:=a.more (some ⟨52,5,false,[v.items[k].V]⟩);rw[c8 _ id _ (by rw[zm _ _ _ _ n2];exact i3)];exact h5
 ·obtain rfl:k=v.items.length:=by omega
  have D:=a.b0;have MC:Yt prog 50 q=some (int v.fields.length):=by have:=a.s4.len (P:=prog) el50;simpa using this
  simp[B,F,c,t,u,D,MC];refine zT (fun k U Y Z=>U 1=.ref 0 0 0/\U 2=.ref 1 0 0/\U 31=q/\U 32=int v.fields.length/\U 33=int k/\XS v g q Y Z) v.fields.length
   ⟨by simp[B],by simp[F],by simp,by simp,by simp,by simpa using a⟩ ?_
  clear B F c t u a D MC b hk U Y Z;rintro k U Y Z hk ⟨B,F,c,t,u,a⟩;by_cases b:k<v.fields.length
  ·have hm:=vx (zk b);have hw:=qH k;have p:=fun Y Z=>Yc (fun v=>.agg v.V) n v.fields[k].2 Y Z ⟨by unfold zx;omega,by omega⟩
   obtain⟨id,i1,I,i3⟩:=a.s4.at_ (by simp;omega);have n0:¬id=0:=by rintro rfl;exact a.d4 0 _ (by omega) I
   have n2:¬id=Z:=by omega
   have l:¬0=Z:=by have:=a.iS;omega
   have A:(v.fields.map ya).set k (str v.fields[k].1::v.fields[k].2.V)=v.fields.map ya:=by
    apply QF;intro j;rw[dD];split
    ·rename_i e;subst e;simp[b]
    ·rfl
   have D:=a.b0;rw[I]at c D;simp[B,F,c,t,u,b,i3,hw,n0,n2,l,D,p,A];refine⟨b,by rw[I];simp,?_⟩;have h5:=a.more (some ⟨78,6,false,[str v.fields[k].1::v.fields[k].2.V]⟩);rw[c8 _ id _ (by rw[zm _ _ _ _ n2];exact i3)];exact h5
  ·obtain rfl:k=v.fields.length:=by omega
   have D:=a.b0;have b1:=a.b1;simp[B,F,c,t,u,D,b1,f30,c3,c4];have s3:=a.s3.same (Y':=qt Y 1 (some ⟨52,5,false,[[int v.kind,int v.n,str v.s,g,q]]⟩)) (ze Z) fun id m hid=>zm _ _ _ _ (by rintro rfl;exact a.d3 1 m (by omega) hid)
   obtain⟨z3,hpA,g1,g2,g3⟩:=s3.gone;have s4:=a.s4.same (Y':=hpA) (ze Z) fun id m hid=>by rw[g3 id (fun m' R=>a.d id m' m R hid),zm _ _ _ _ (by rintro rfl;exact a.d4 1 m (by omega) hid)]
   obtain⟨z4,hpB,k1,k2,_⟩:=s4.gone;refine⟨.agg [int v.kind,int v.n,str v.s,z3,z4],?_,?_⟩
   ·simp only[AM.freeze,qa,qY];have f1:∀(Y:Hp) (x:Value),wu Y (.v x)=some (.v x,Y):=fun _ _=>rfl
    simp only[f1,g1,k1];rfl
   ·rw[vJ];exact qP.agg (.cons (.refl _) (.cons (.refl _) (.cons (.refl _) (.cons (.YV g2) (.cons (.YV k2) .nil)))))
theorem Cg:∀n,zg prog 30 (zi false [] (FV (fun v=>.agg v.V) n)):=by
 intro n
 induction n with
 |zero=>exact iA ⟨_,func30,by kernel_rfl,by kernel_rfl⟩
 |succ n k=>
  have l:AM.Good (Cxc n) (fun g=>[30].contains g):=JO mixed ⟨k,fun _=>zr _ _,Ky,by simp,tJ,by simp,trivial⟩ ⟨by simp,fun _=>Ks _ _,fun _=>Ks _ _,trivial⟩;exact xl (fn:=f30) l (zb1 n) false [] _ fun args r h w S vs m=>by
   obtain⟨v,rfl,o,rfl⟩:=Jt h;obtain⟨u,p,q⟩:=ZI m;subst p;obtain⟨c,d,e⟩:=Z3 q (j:=3) (s:=5) (es:=v.items.map zZ.V) (by simp);obtain⟨f,i,a⟩:=Z3 e (j:=4) (s:=6) (es:=v.fields.map ya) (by rw[yn (by omega)];simp);have b:(v.V.set 3 c).set 4 f=[int v.kind,int v.n,str v.s,c,f]:=by rw[vJ];rfl
   rw[b]at a;obtain⟨t,x,y⟩:=Fq n v o c f d i;exact⟨_,t,.cons a .nil,zE (ze 1) (by decide),x,y⟩
structure yu where
 key:List UInt8
 attrs:List (List UInt8×zZ)
def yu.V(x:yu):zb:=[str x.key,.sl 6 (x.attrs.map ya)]
def yu.cb(x:yu):Nat:=x.key.length+dI x.attrs
theorem mJ(x:yu):x.cb=x.key.length+dI x.attrs:=rfl
theorem mK{a b:za×zZ}(h:ya a=ya b):a=b:=by simp only[ya,zl]at h;exact Prod.ext (wR h.1) (Qs h.2)
theorem mL{a b:yu}(h:a.V=b.V):a=b:=by obtain⟨k,l⟩:=a;obtain⟨e,l'⟩:=b;simp only[yu.V,zl,zM]at h;obtain⟨d,c⟩:=h;injection c with _ c;rw[wR d,vw (fun _ _=>mK) c]
def He(a:za):Bool:=!w8 a||a==[107,101,121]
def V4:Option za->List (za×zZ)->Int
 |_,[]=>0
 |p,(a,v)::l=>if He a then 5 else if kP p a then 8 else if v.check=0 then(if v.kind=0 then 6 else V4 (some a) l)else v.check
theorem Ch{l:List (za×zZ)}{k:Nat}(h:k<l.length)(p:Option za):V4 p (l.drop k)=if He l[k].1 then 5 else if kP p l[k].1 then 8 else if l[k].2.check=0 then(if l[k].2.kind=0 then 6 else V4 (some l[k].1) (l.drop (k+1)))else l[k].2.check:=by rw[zh h,V4]
def yu.fault(x:yu):Int:=if xv x.key then(if(50:Int)<x.attrs.length then 2 else V4 none x.attrs)else 3
noncomputable def FX (out:yu->O):zb->Option O:=qu (α:=yu) (fun x=>[.agg x.V]) (fun x=>x.cb<=zx) out
theorem fO(Y:Hp)(x:yu):qa Y (.agg x.V)=some (.agg x.V,Y):=by simp[yu.V]
theorem mM(x:yu):O.noOwn (.agg x.V)=true:=by simp[yu.V]
theorem Ti(out:yu->O)(x:yu)(Y:Hp)(Z:Nat)(h:x.cb<=zx):zi false [] (FX out) [.agg x.V] Y Z=some (out x,Y,Z):=
 yk (Y1:=Y) (show zw Y [.agg x.V]=some ([.agg x.V],Y) by simp only[zw,fO])
  (qG (V:=fun x:yu=>[O.agg x.V]) (a:=x) (fun a b e=>by simp only[zl,zM,O.agg.injEq]at e;exact mL e) h) (.inr (by simp only[q9,mM,Zn,zhq]))
noncomputable abbrev Ccc:Ctx:=zW prog [(43,zi false [] (FS xv)),(44,zi false [] (FS w8)),(45,GV fun v=>int v.check)]
theorem pb(x:yu)(h:x.cb<=zx):zt Ccc f19 [.agg x.V]=some (int x.fault):=by
 have I:=mJ x;have J:=jt x.attrs;have p:x.key.length<=zx:=by omega
 unfold zx at h;refine zn rfl ?_;rw[yu.fault];cases F:xv x.key
 ·simp[yu.V,p,F,f19]
 by_cases H:(50:Int)<x.attrs.length
 ·simp[yu.V,p,F,H,f19]
 simp[yu.V,p,F,H];refine zT (fun k U Y Z=>U 1=.ref 0 0 0/\U 15=.sl 6 (x.attrs.map ya)/\U 16=int x.attrs.length/\U 17=int k/\1<=Z/\Y 0=some ⟨29,2,false,[[str x.key,.sl 6 (x.attrs.map ya)]]⟩/\V4 none x.attrs=V4 (vg x.attrs k) (x.attrs.drop k)) x.attrs.length
  ⟨by simp,by simp,by simp,by simp,by simp,by simp,by simp[vg]⟩ ?_
 rintro k U Y Z P ⟨m,d,e,f,K,s,b⟩;have t:¬0=Z:=by omega
 by_cases c:k<x.attrs.length
 ·have Q:=vx (zk c);have R:=qH k;have i:x.attrs[k].1.length<=zx:=by unfold zx;omega
  have a:=fun Y Z=>Yd (fun v=>int v.check) x.attrs[k].2 Y Z (by unfold zx;omega)
  have en:(!w8 x.attrs[k].1||x.attrs[k].1==[107,101,121])=He x.attrs[k].1:=rfl;rw[Ch c]at b;cases n:He x.attrs[k].1
  case true=>simp[m,d,e,f,c,i,en,n,b,f19]
  have w:vg x.attrs (k+1)=some x.attrs[k].1:=by simp[vg,c]
  simp only[n,zO,wx]at b;by_cases L:k=0
  ·subst L;simp only[vg,kP,qI,zO,wx]at b;by_cases l:x.attrs[0].2.check=0
   ·rw[zf l]at b;by_cases g:x.attrs[0].2.kind=0
    ·rw[zf g]at b;simp[m,d,e,f,c,i,en,n,a,l,g,b,f19]
    ·rw[zc g]at b;have q:=yq g;have M:=wX 1;simp[m,d,e,f,c,i,en,n,a,l,q,M]
     and_intros<;>first|omega|(rw[b];rw[w];simp;done)|simp[t,s]
   ·rw[zc l]at b;have r:=ZX l;simp[m,d,e,f,c,i,en,n,a,r,b,f19]
  ·obtain⟨j,rfl⟩:∃j,k=j+1:=⟨k-1,by omega⟩;have y:j<x.attrs.length:=by omega
   have z:i6.wrap ((j:Int)+1-1)=(j:Int):=by rw[wQ (by omega) (by omega)];omega
   have o:=wX (j:Int);have A:((j:Int)+1).toNat=j+1:=by omega
   have B:0<(j:Int)+1:=by omega
   have C:0<=(j:Int)+1:=by omega
   have D:(j:Int)+1<x.attrs.length:=by omega
   have N:=wX ((j:Int)+1+1);have E:(Op.bytesLess x.attrs[j+1].1 x.attrs[j].1||x.attrs[j+1].1==x.attrs[j].1)=gM x.attrs[j+1].1 x.attrs[j].1:=rfl;have G:vg x.attrs (j+1)=some x.attrs[j].1:=by simp[vg,y]
   simp only[G,kP]at b;cases u:gM x.attrs[j+1].1 x.attrs[j].1
   case true=>simp only[u,qI]at b;simp[m,d,e,f,c,y,i,en,n,a,s,t,z,o,A,B,C,D,E,u,b,f19]
   simp only[u,zO,wx]at b;by_cases l:x.attrs[j+1].2.check=0
   ·rw[zf l]at b;by_cases g:x.attrs[j+1].2.kind=0
    ·rw[zf g]at b;simp[m,d,e,f,c,y,i,en,n,a,s,t,z,o,A,B,C,D,E,u,l,g,b,f19]
    ·rw[zc g]at b;have q:=yq g;simp[m,d,e,f,c,y,i,en,n,a,s,t,z,o,A,B,C,D,E,u,l,q,N]
     and_intros<;>first|omega|(rw[b];rw[w])|simp[t,s]
   ·rw[zc l]at b;have r:=ZX l;simp[m,d,e,f,c,y,i,en,n,a,s,t,z,o,A,B,C,D,E,u,r,b,f19]
 ·obtain rfl:k=x.attrs.length:=by omega
  rw[zq]at b;have b:V4 none x.attrs=0:=by rw[b];rfl
  simp[m,d,e,f,b,f19]
theorem mN:zg prog 19 (zi false [] (FX fun x=>int x.fault)):=
 Z2 (qc mixed ⟨VN,Yb,fI,trivial⟩:AM.Good Ccc _) func19 false [] fun x a=>⟨zE (ze 1) (by decide),_,pb x a,qq _⟩
theorem uh(a b:UInt8):a<b\/a=b\/b<a:=by
 rcases Nat.lt_trichotomy a.toNat b.toNat with h|h|h
 ·exact .inl (vP.2 h)
 ·exact .inr (.inl (Qi.1 h))
 ·exact .inr (.inr (vP.2 h))
theorem bG(a:UInt8):¬a<a:=fun h=>Nat.lt_irrefl _ (vP.1 h)
theorem mO{a b:UInt8}(h:a<b):¬b<a:=fun c=>Nat.lt_asymm (vP.1 h) (vP.1 c)
theorem Ow{a b c:UInt8}(h:a<b)(d:b<c):a<c:=vP.2 (Nat.lt_trans (vP.1 h) (vP.1 d))
theorem Jg:∀a b:za,yB a b<0↔Op.bytesLess a b=true
 |[],[]=>by simp[yB,Lib.compareBytes,Op.bytesLess]
 |[],_::_=>by simp[yB,Lib.compareBytes,Op.bytesLess]
 |_::_,[]=>by simp[yB,Lib.compareBytes,Op.bytesLess]
 |a::x,b::y=>by
  have d:=Jg x y;unfold yB at d⊢;rcases uh a b with h|rfl|h
  ·simp[Lib.compareBytes,Op.bytesLess,h]
  ·simp[Lib.compareBytes,Op.bytesLess,bG,d]
  ·have c:¬a=b:=fun e=>bG b (e ▸ h)
   simp[Lib.compareBytes,Op.bytesLess,h,mO h,c]
theorem kI:∀a b:za,yB a b=0↔a=b
 |[],[]=>by simp[yB,Lib.compareBytes]
 |[],_::_=>by simp[yB,Lib.compareBytes]
 |_::_,[]=>by simp[yB,Lib.compareBytes]
 |a::x,b::y=>by
  have d:=kI x y;unfold yB at d⊢;rcases uh a b with h|rfl|h
  ·have c:¬a=b:=fun e=>bG b (e ▸ h)
   simp[Lib.compareBytes,h,c]
  ·simp[Lib.compareBytes,bG,d]
  ·have c:¬a=b:=fun e=>bG b (e ▸ h)
   simp[Lib.compareBytes,h,mO h,c]
theorem Q0:∀{a b c:za},Op.bytesLess a b=true->Op.bytesLess b c=true->Op.bytesLess a c=true
 |_,[],_,h,_=>by simp[Op.bytesLess]at h
 |_,_::_,[],_,h=>by simp[Op.bytesLess]at h
 |[],_::_,_::_,_,_=>by simp[Op.bytesLess]
 |a::x,b::y,c::z,e,d=>by
  simp only[Op.bytesLess,qF,qi,zC,yH]at e d⊢;rcases e with e|⟨rfl,e⟩
  ·rcases d with d|⟨rfl,d⟩
   ·exact .inl (Ow e d)
   ·exact .inl e
  ·rcases d with d|⟨rfl,d⟩
   ·exact .inl d
   ·exact .inr ⟨rfl,Q0 e d⟩
theorem Qx:∀{a b:za},gM a b=false->Op.bytesLess b a=true
 |[],[],h=>by simp[gM]at h
 |[],_::_,h=>by simp[gM,Op.bytesLess]at h
 |_::_,[],_=>by simp[Op.bytesLess]
 |a::x,b::y,h=>by
  simp only[gM,Op.bytesLess,wy,yW,Bool.and_eq_false_iff,yy]at h;obtain⟨⟨d,c⟩,f⟩:=h;simp only[Op.bytesLess,qF,qi,zC,yH];rcases uh a b with g|rfl|g
  ·exact absurd g d
  ·refine .inr ⟨rfl,Qx ?_⟩;rcases c with c|c
   ·exact absurd rfl c
   ·have:¬x=y:=fun e=>f (by rw[e])
    simp[gM,c,this]
  ·exact .inl g
def Zv(f:Nat->Bool)(lo hi:Nat):Nat:=if h:lo<hi then(if f ((lo+hi)/2)then Zv f ((lo+hi)/2+1) hi else Zv f lo ((lo+hi)/2))else lo
termination_by hi-lo
decreasing_by all_goals omega
theorem XU{f:Nat->Bool}{lo hi:Nat}(h:lo<hi):Zv f lo hi=if f ((lo+hi)/2)then Zv f ((lo+hi)/2+1) hi else Zv f lo ((lo+hi)/2):=by rw[Zv,zgA h]
theorem c9{f:Nat->Bool}{lo hi:Nat}(h:¬lo<hi):Zv f lo hi=lo:=by rw[Zv,dif_neg h]
theorem r8{f:Nat->Bool}{n m:Nat}(i:∀k,k<m->f k=true)(j:∀k,m<=k->k<n->f k=false):∀{lo hi:Nat},lo<=m->m<=hi->hi<=n->Zv f lo hi=m:=by
 intro lo hi
 induction lo,hi using Zv.induct (f:=f)with
 |case1 lo hi a c d=>
  intro e g h;rw[Zv,zgA a,zf c];refine d ?_ g h;apply Nat.succ_le_of_lt;refine Nat.lt_of_not_le fun b=>?_
  rw[j _ b (by omega)]at c;cases c
 |case2 lo hi a c d=>
  intro e g h;rw[Zv,zgA a,zc c];refine d e ?_ (by omega);refine Nat.le_of_not_lt fun b=>?_
  exact c (i _ b)
 |case3 lo hi a=>intro e g _;rw[Zv,dif_neg a];omega
noncomputable def WX (l:List za) (s:za) (k:Nat):Bool:=match l[k]? with
 |some x=>decide (yB x s<0)
 |none=>false
noncomputable def Kf (l:List za) (s:za):Nat×Bool:=(Zv (WX l s) 0 l.length,match l[Zv (WX l s) 0 l.length]? with
 |some x=>yB x s==0
 |none=>false)
theorem Fs{l:List za}{s:za}(h:(Kf l s).2=true):l[(Kf l s).1]?=some s:=by
 unfold Kf at h⊢;simp only at h⊢;split at h
 ·rename_i x a;rw[a,(kI x s).1 (by simpa using h)]
 ·cases h
theorem zb2{l:List za}{s:za}(h:(Kf l s).2=true):(Kf l s).1<l.length:=(zd.1 (Fs h)).1
def dK(l:List za):Prop:=l.Pairwise fun a b=>Op.bytesLess a b=true
theorem V5(a:za):Op.bytesLess a a=false:=by
 cases h:Op.bytesLess a a with
 |false=>rfl
 |true=>have b:=(Jg a a).2 h;have c:=(kI a a).2 rfl;omega
theorem Ft{l:List za}{s:za}(f:dK l){j:Nat}(g:l[j]?=some s):Kf l s=(j,true):=by
 obtain⟨a,b⟩:=zd.1 g;have i:Zv (WX l s) 0 l.length=j:=by
  refine r8 (n:=l.length) (fun k d=>?_) (fun k d c=>?_) (xq _) (Nat.le_of_lt a) (ze _)
  ·have:=Qd.1 f k j (by omega) a d;rw[b]at this;simp[WX,show k<l.length by omega,(Jg _ _).2 this]
  ·rcases Nat.lt_or_eq_of_le d with h|rfl
   ·have:=Qd.1 f j k a c h;rw[b]at this;have e:¬yB l[k] s<0:=fun m=>by have:=Q0 this ((Jg _ _).1 m);rw[V5]at this;cases this
    simp[WX,c,e]
   ·have e:¬yB s s<0:=by rw[(kI s s).2 rfl];omega
    simp[WX,a,b,e]
 unfold Kf;rw[i,g];simp[(kI s s).2 rfl]
end Go.Q
namespace Go.AM
def wB{S α:Type}(f:S->α->Bool×S):S->List α->Bool×S
 |s,[]=>(false,s)
 |s,a::l=>if(f s a).1=true then(true,(f s a).2)else wB f (f s a).2 l
theorem r9{S α:Type}(f:S->α->Bool×S):∀(s:S) (l m:List α),wB f s (l++m)=if(wB f s l).1=true then(true,(wB f s l).2)else wB f (wB f s l).2 m
 |s,[],m=>by simp[wB]
 |s,a::l,m=>by
  simp only[qX,wB];split
  ·simp
  ·exact r9 f _ l m
def ky(succ:Nat->List Nat):Nat->List Int->Nat->Bool×List Int
 | 0,st,_=>(false,st)
 |n+1,st,i=>if st[i]?=some 0 then((wB (ky succ n) (st.set i 1) (succ i)).1,(wB (ky succ n) (st.set i 1) (succ i)).2.set i 2)else(decide (st[i]?=some 1),st)
def Zt(st:List Int):Nat:=st.count 0
theorem count_set{st:List Int}{i:Nat}{v:Int}(h:st[i]?=some 0)(b:v≠0):Zt (st.set i v)+1=Zt st:=by
 unfold Zt
 induction st generalizing i with
 |nil=>simp at h
 |cons a l c=>
  cases i with
  |zero=>simp at h;subst h;simp[b]
  |succ i=>have:=c (i:=i) (by simpa using h);simp only[List.set_cons_succ,List.count_cons]at this⊢;omega
theorem ui{st:List Int}{i:Nat}{v:Int}(b:v≠0):Zt (st.set i v)<=Zt st:=by
 unfold Zt
 induction st generalizing i with
 |nil=>simp
 |cons a l c=>
  cases i with
  |zero=>simp[List.count_cons,b]
  |succ i=>have:=c (i:=i);simp only[List.set_cons_succ,List.count_cons]at this⊢;omega
structure Kept (st st':List Int):Prop where
 len:st'.length=st.length
 wh:Zt st'<=Zt st
 black:∀j:Nat,st[j]?=some 2->st'[j]?=some 2
 RE:∀j:Nat,st'[j]?=some 1↔st[j]?=some 1
 qZ:(∀v∈st,v=0\/v=1\/v=2)->∀v∈st',v=0\/v=1\/v=2
theorem Kept.refl(st:List Int):Kept st st:=⟨rfl,ze _,fun _ h=>h,fun _=>Iff.rfl,fun h=>h⟩
theorem Kept.trans{a b c:List Int}(h:Kept a b)(g:Kept b c):Kept a c:=
 ⟨g.len.trans h.len,zE g.wh h.wh,fun j d=>g.black j (h.black j d),fun j=>(g.RE j).trans (h.RE j),fun e=>g.qZ (h.qZ e)⟩
theorem YJ{f:List Int->Nat->Bool×List Int}(b:∀st i,Kept st (f st i).2):∀(l:List Nat) (st:List Int),Kept st (wB f st l).2
 |[],st=>Kept.refl st
 |a::l,st=>by
  simp only[wB];split
  ·exact b st a
  ·exact(b st a).trans (YJ b l _)
theorem vk(succ:Nat->List Nat):∀(n:Nat) (st:List Int) (i:Nat),Kept st (ky succ n st i).2
 | 0,st,i=>Kept.refl st
 |n+1,st,i=>by
  simp only[ky];split
  ·rename_i c;have k:i<st.length:=(zd.1 c).1;have b:=YJ (vk succ n) (succ i) (st.set i 1);obtain⟨r,g⟩:=jj ((wB (ky succ n) (st.set i 1) (succ i)).2);rw[g]at b;simp only[g];have l:r.length=st.length:=by rw[b.len,X8]
   refine⟨by rw[X8,l],?_,fun j d=>?_,fun j=>?_,fun m v e=>?_⟩
   ·have o:=b.wh;have p:=count_set c (v:=1) (by decide);have q:=ui (st:=r) (i:=i) (v:=2) (by decide);omega
   ·by_cases a:i=j
    ·subst a;rw[c]at d;simp at d
    ·rw[yn a];exact b.black j (by rw[yn a];exact d)
   ·by_cases a:i=j
    ·subst a;rw[Zm (by omega),c];simp
    ·rw[yn a,b.RE,yn a]
   ·have f:=b.qZ (fun v e=>by
     rcases jW e with h|rfl
     ·exact m v h
     ·exact .inr (.inl rfl))
    rcases jW e with h|rfl
    ·exact f v h
    ·exact .inr (.inr rfl)
  ·exact Kept.refl st
inductive Q5 (E:Nat->Nat->Prop):Nat->Nat->Prop
 |one {a b:Nat}:E a b->Q5 E a b
 |tail {a b c:Nat}:Q5 E a b->E b c->Q5 E a c
theorem Q5.trans{E:Nat->Nat->Prop}{a b c:Nat}(h:Q5 E a b)(g:Q5 E b c):Q5 E a c:=by
 induction g with
 |one e=>exact .tail h e
 |tail _ e d=>exact .tail d e
theorem Q5.head{E:Nat->Nat->Prop}{a c:Nat}(h:Q5 E a c):∃b,E a b/\(b=c\/Q5 E b c):=by
 induction h with
 |one e=>exact⟨_,e,.inl rfl⟩
 |tail _ e d=>
  obtain⟨b,f,h2⟩:=d;refine⟨b,f,.inr ?_⟩;rcases h2 with rfl|h2
  ·exact .one e
  ·exact .tail h2 e
theorem Ox{E:Nat->Nat->Prop}{a:Nat}(h:Acc (fun x y=>E y x) a):¬Q5 E a a:=by
 induction h with
 |intro x _ c=>
  intro d;obtain⟨y,b,h2⟩:=d.head;rcases h2 with rfl|h2
  ·exact c y b d
  ·exact c y b (.tail h2 b)
theorem fP(succ:Nat->List Nat):∀(n:Nat) (st:List Int) (i:Nat),(∀v∈st,v=0\/v=1\/v=2)->Zt st<n->i<st.length->(∀a,∀b∈succ a,b<st.length)->(∀j:Nat,st[j]?=some 2->Acc (fun x y=>x∈succ y) j)->(ky succ n st i).1=false ->
  (∀j:Nat,(ky succ n st i).2[j]?=some 2->Acc (fun x y=>x∈succ y) j)/\(ky succ n st i).2[i]?=some 2
 | 0,st,i,_,E,_,_,_,_=>by omega
 |n+1,st,i,D,E,hi,hs,hb,e=>by
  simp only[ky]at e⊢;split at e
  ·rename_i f;rw[zf f];simp only at e⊢;have o:i<st.length:=hi;have F:=count_set f (v:=1) (by decide);have z:∀v∈st.set i 1,v=0\/v=1\/v=2:=fun v G=>by
    rcases jW G with h|rfl
    ·exact D v h
    ·exact .inr (.inl rfl)
   have A:∀j:Nat,(st.set i 1)[j]?=some 2->Acc (fun x y=>x∈succ y) j:=fun j g=>by
    by_cases c:i=j
    ·subst c;rw[Zm o]at g;simp at g
    ·rw[yn c]at g;exact hb j g
   have B:∀(l:List Nat) (s:List Int),(∀v∈s,v=0\/v=1\/v=2)->Zt s<n->s.length=st.length->(∀b∈l,b<st.length)->(∀j:Nat,s[j]?=some 2->Acc (fun x y=>x∈succ y) j)->(wB (ky succ n) s l).1=false ->
     (∀j:Nat,(wB (ky succ n) s l).2[j]?=some 2->Acc (fun x y=>x∈succ y) j)/\∀b∈l,(wB (ky succ n) s l).2[b]?=some 2:=by
    intro l
    induction l with
    |nil=>intro s _ _ _ _ k _;exact⟨k,fun b hb=>by cases hb⟩
    |cons a l H=>
     intro s p q m r k d;simp only[wB]at d⊢;split at d
     ·simp at d
     ·rename_i t;rw[zc t];have u:=vk succ n s a;obtain⟨w,C⟩:=fP succ n s a p q (by rw[m];exact r a (by simp)) (fun x b hb=>by rw[m];exact hs x b hb) k (by simpa using t);obtain⟨I,J⟩:=H _ (u.qZ p) (DW u.wh q) (u.len.trans m) (fun b hb=>r b (by simp[hb])) w d;refine⟨I,fun b hb=>?_⟩;rcases zv.1 hb with rfl|hb
      ·exact(YJ (vk succ n) l _).black _ C
      ·exact J b hb
   obtain⟨w,C⟩:=B (succ i) (st.set i 1) z (by omega) (by rw[X8]) (hs i) A e;have u:=YJ (vk succ n) (succ i) (st.set i 1);refine⟨fun j g=>?_,by rw[Zm (by rw[u.len,X8];exact o)]⟩;by_cases c:i=j
   ·subst c;exact⟨_,fun b hb=>w b (C b hb)⟩
   ·rw[yn c]at g;exact w j g
  ·rename_i f;rw[zc f];simp only at e⊢;refine⟨hb,?_⟩;have K:st[i]?=some st[i]:=zj hi;have L:=D _ (zk hi);rw[K]at f e⊢;rcases L with h|h|h
   ·rw[h]at f;exact(f rfl).elim
   ·rw[h]at e;simp at e
   ·rw[h]
theorem mP(succ:Nat->List Nat):∀(n:Nat) (st:List Int) (i:Nat),(∀g:Nat,st[g]?=some 1->Q5 (fun a b=>b∈succ a) g i)->(ky succ n st i).1=true->∃c,Q5 (fun a b=>b∈succ a) c c
 | 0,st,i,_,h=>by simp[ky]at h
 |n+1,st,i,p,h=>by
  simp only[ky]at h;split at h
  ·rename_i r;simp only at h;have t:i<st.length:=(zd.1 r).1;have m:∀(l:List Nat) (s:List Int),(∀g:Nat,s[g]?=some 1↔(st.set i 1)[g]?=some 1)->(∀b∈l,b∈succ i)->(wB (ky succ n) s l).1=true->∃c,Q5 (fun a b=>b∈succ a) c c:=by
    intro l
    induction l with
    |nil=>intro s _ _ e;simp[wB]at e
    |cons a l u=>
     intro s f j e;simp only[wB]at e;split at e
     ·rename_i v;refine mP succ n s a (fun g d=>?_) v;have d:=(f g).1 d;have q:a∈succ i:=j a (by simp);by_cases k:i=g
      ·subst k;exact .one q
      ·rw[yn k]at d;exact .tail (p g d) q
     ·exact u _ (fun g=>((vk succ n s a).RE g).trans (f g)) (fun b o=>j b (by simp[o])) e
   exact m (succ i) (st.set i 1) (fun _=>Iff.rfl) (fun _ o=>o) h
  ·simp at h;exact⟨i,p i h⟩
theorem eL{α:Type}{p q:α->Bool}:∀{l:List α},(∀x∈l,p x=true->q x=true)->(∃x∈l,q x=true/\p x=false)->l.countP p<l.countP q
 |[],_,⟨x,b,_⟩=>by cases b
 |a::l,h,⟨x,b,d,e⟩=>by
  have f:l.countP p<=l.countP q:=List.countP_mono_left fun y c=>h y (by simp[c])
  rcases zv.1 b with rfl|b
  ·rw[List.countP_cons,List.countP_cons,d,e];simp;omega
  ·have:=eL (l:=l) (fun y c=>h y (by simp[c])) ⟨x,b,d,e⟩;rw[List.countP_cons,List.countP_cons];have g:=h a (by simp);cases Y:p a
   ·simp only[zO,wx];split<;>omega
   ·rw[g Y];simp;omega
open Classical in
noncomputable def Hf (E:Nat->Nat->Prop) (N i:Nat):Nat:=(List.range N).countP fun j=>decide (Q5 E i j)
theorem Oy(E:Nat->Nat->Prop)(N i:Nat):Hf E N i<=N:=by have:=List.countP_le_length (p:=fun j=>@decide (Q5 E i j) (Classical.propDecidable _)) (l:=List.range N);rwa [List.length_range]at this
open Classical in
theorem Oz{E:Nat->Nat->Prop}{N i j:Nat}(b:j<N)(a:E i j)(c:¬Q5 E j j):Hf E N j<Hf E N i:=by
 refine eL (fun k _ d=>?_) ⟨j,yg.2 b,?_,?_⟩
 ·exact DV ((Q5.one a).trans (xM d))
 ·exact DV (.one a)
 ·exact decide_eq_false c
structure AR {α:Type} (next:α->List α) (start out queue:List α):Prop where
 nodup:out.Nodup
 strt:∀a∈start,a∈out\/a∈queue
 step:∀a∈out,∀b∈next a,b∈out\/b∈queue
 only:∀(Q:α->Prop),(∀a∈start,Q a)->(∀a b,Q a->b∈next a->Q b)->(∀a∈out,Q a)/\∀a∈queue,Q a
theorem AR.begin{α:Type}(next:α->List α)(start:List α):AR next start [] start:=
 ⟨.nil,fun a h=>.inr h,(fun a h=>by cases h),fun Q h _=>⟨(fun a h=>by cases h),h⟩⟩
theorem AR.skip{α:Type}{next:α->List α}{start out queue:List α}{a:α}(h:AR next start out (a::queue))(e:a∈out):AR next start out queue:=by
 refine⟨h.nodup,fun b d=>?_,fun b d c i=>?_,fun Q f g=>⟨(h.only Q f g).1,fun b d=>(h.only Q f g).2 b (by simp[d])⟩⟩
 ·rcases h.strt b d with h|h
  ·exact .inl h
  ·rcases zv.1 h with rfl|h
   ·exact .inl e
   ·exact .inr h
 ·rcases h.step b d c i with h|h
  ·exact .inl h
  ·rcases zv.1 h with rfl|h
   ·exact .inl e
   ·exact .inr h
theorem AR.take{α:Type}{next:α->List α}{start out e:List α}{a:α}(h:AR next start out (a::e))(m:a ∉ out):AR next start (out++[a]) (e++next a):=by
 have f:∀b,b∈out\/b∈a::e->b∈out++[a]\/b∈e++next a:=fun b d=>by
  simp only[zF,zv,ir,or_false]at d⊢;rcases d with d|d|d
  ·exact .inl (.inl d)
  ·exact .inl (.inr d)
  ·exact .inr (.inl d)
 refine⟨?_,fun b d=>f b (h.strt b d),fun b d c g=>?_,fun Q n i=>?_⟩
 ·rw[List.nodup_append];refine⟨h.nodup,by simp,fun x o y j=>?_⟩;rintro rfl;simp at j;subst j;exact m o
 ·rcases zF.1 d with d|d
  ·exact f c (h.step b d c g)
  ·simp at d;subst d;exact .inr (zF.2 (.inr g))
 ·obtain⟨p,k⟩:=h.only Q n i;have l:Q a:=k a (by simp);refine⟨fun b d=>?_,fun b d=>?_⟩
  ·rcases zF.1 d with d|d
   ·exact p b d
   ·simp at d;subst d;exact l
  ·rcases zF.1 d with d|d
   ·exact k b (by simp[d])
   ·exact i a b l d
inductive K8 {α:Type} (next:α->List α) (start:List α):α->Prop
 |here {a:α}:a∈start->K8 next start a
 |there {a b:α}:K8 next start a->b∈next a->K8 next start b
theorem AR.done{α:Type}{next:α->List α}{start out:List α}(h:AR next start out [])(a:α):a∈out↔K8 next start a:=by
 constructor
 ·exact(h.only (K8 next start) (fun _=>.here) (fun _ _=>.there)).1 a
 ·intro b
  induction b with
  |here c=>exact(h.strt _ c).resolve_right (by simp)
  |there _ d e=>exact(h.step _ e _ d).resolve_right (by simp)
def Cj(F:Nat->(Nat->Bool)->Bool):Nat->Nat->Bool
 | 0,_=>false
 |n+1,i=>F i (Cj F n)
theorem sa{F:Nat->(Nat->Bool)->Bool}{succ:Nat->List Nat}{rk:Nat->Nat}(hF:∀i f g,(∀j∈succ i,f j=g j)->F i f=F i g)(a:∀i,∀j∈succ i,rk j<rk i):∀(r i m k:Nat),rk i<=r->r<m->r<k->Cj F m i=Cj F k i
 |r,i,m,k,h,d,e=>by
  obtain⟨m,rfl⟩:∃q,m=q+1:=⟨m-1,by omega⟩;obtain⟨k,rfl⟩:∃q,k=q+1:=⟨k-1,by omega⟩;simp only[Cj];refine hF i _ _ fun j b=>?_
  have:=a i j b;obtain⟨c,rfl⟩:∃q,r=q+1:=⟨r-1,by omega⟩;exact sa hF a c j m k (by omega) (by omega) (by omega)
theorem Tj{F:Nat->(Nat->Bool)->Bool}{succ:Nat->List Nat}{rk:Nat->Nat}{N:Nat}(hF:∀i f g,(∀j∈succ i,f j=g j)->F i f=F i g)(a:∀i,∀j∈succ i,rk j<rk i)(b:∀i,rk i<=N)(i:Nat):Cj F (N+1) i=F i (Cj F (N+1)):=by
 show F i (Cj F N)=_;refine hF i _ _ fun j c=>?_
 have d:=a i j c;have e:=b i;exact sa hF a (rk j) j N (N+1) (ze _) (by omega) (by omega)
end Go.AM
