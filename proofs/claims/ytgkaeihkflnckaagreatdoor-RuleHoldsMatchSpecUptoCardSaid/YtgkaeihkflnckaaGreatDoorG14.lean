/- Lemmas. -/
import Derived.Shelf.SlSortCmp.WholeK
import Derived.Shelf.SlSortCmp.NoneTotal
import Derived.Test.YtgkaeihkflnckaaGreatDoorProg
import Derived.Test.YtgkaeihkflnckaaGreatDoorG13
set_option maxRecDepth 8000
set_option maxHeartbeats 4000000
open Go Proofs Proofs.YtgkaeihkflnckaaGreatDoor Proofs.Tryz RowKit AM SpanLaw Q Zz
namespace Go.Q
noncomputable abbrev Cus:Ctx:=zR prog [(20,hFz DL),(21,Vs xF false)]
theorem zda:Gd Cus:=zU mixed ⟨fQ,Xu,trivial⟩
theorem K3{l:List qd}(c:l.length<=100){a:List za}(b:Vis (wH l) l.length [] (a.map (jj l)) (KW l a)){V:List Nat}(h:V.Perm (KW l a)):V.length<=100:=by have:=R2 l.length (KW l a) b.nd b.lt;rw[h.length_eq];omega
theorem zaq(l:List qd)(c:qe)(e:Ye l)(hl:x4 l<=zu)(hc:c.cb<=zu)(hn:∀n∈c.names,w7 l n=true){code:Code}(L:f18.body=some code) :
  Wp True Cus f18.ntmps code ⟨j9 [.sl 10 (l.map qd.V),.sl 7 [c.V]],fun _=>none,0⟩ (Jt Cus.P f18 (xx (.sl 1 (zy (QQ l c))))):=by
 have z:=zda;have hk:=e.known;have hll:=vG l;have hlim:zu=2097152:=rfl;have A:=Ka e.len hk hn;injection L with L
 subst L;refine Wp.cut z (fun U Y Z=>U 0=.sl 10 (l.map qd.V)/\U 1=.sl 7 [c.V]) (by kernel_rfl) (by simp) ?_;rintro U Y Z ⟨f,a⟩;refine Wp.cut z (fun U Y Z=>U 0=.sl 10 (l.map qd.V)/\U 1=.sl 7 [c.V]/\∃m b,m≠b/\m<Z/\b<Z/\U 5=.ref b 0 0/\o5 m b [] Y) (by kernel_rfl) ?_ ?_
 ·simp[f,a];exact⟨Z,Z+1,by omega,by omega,by omega,rfl,by rw[zx _ _ _ _ (by omega)];simp[pR,QL],by simp⟩
 clear f a U Y Z;rintro U Y Z ⟨f,a,m,b,W,X,hb,g,hR⟩;refine Wp.seq (Wp.region ?_);show QH True Cus _ _ (List.range' 0 3++(3::[])) _ _;refine QH.VA z 0 3 (by decide) (by decide) ?_;simp[f,a,g];refine QH.zgq rfl (by decide) ⟨_,func44,by kernel_rfl,by kernel_rfl⟩ (vs:=[.sl 10 (l.map qd.V),.sl 7 [c.V],iM b]) (by simp[ya,AM.get,iM]) (R:=EvtR l c m b [] Y Z) (fun w S G us hi hz=>gY (C:=Cevt) (pf:=fun _=>true) (code:=_) ⟨func44,by kernel_rfl,rfl,by kernel_rfl⟩ (zc9 l c e hl hc hn m b W [] Y Z X hb hR rfl) hi hz (by simp[f44])) ?_;rintro x Y1 nx1 ⟨rfl,hnx1,⟨V0,hV0,M⟩,hf1⟩;refine QH.nil ?_;simp only[Bz,Is];have hVn:=A.nd;obtain⟨I,B⟩:=jc (cg l (QC [] c.yq) V0);have hK0n:I.Nodup:=by rw[<-B];exact IA _ _ (AE _ _ (by simp))
 have hK0m:∀n,n∈I↔(∃t∈c.yq,t.attr=n)\/∃i∈KW l c.names,∃t∈Z5 l i,t.attr=n:=fun n=>by rw[<-B,D8,oC];simp[hV0.mem_iff]
 have hK0l:I.length<=zu+100*zu:=by have a:=Ea hl V0 (QC [] c.yq);have o:=oF c.yq [];have h3:=ZI _ c (zf _);have h4:=zK zu (K3 e.len A hV0);rw[B]at a;simp only[yV]at o;omega
 rw[B]at M;obtain⟨id,Y2,Sr,e1,i1,i2,i3,f2⟩:=oD l c hl hc hk hn (y:=.sl 7 [c.V]) (Y:=Y1) (Y1:=Y1) nx1 (by simp[wi]);refine Wp.any (fun p Y' Z'=>p 0=.sl 10 (l.map qd.V)/\p 1=.sl 7 [c.V]/\p 5=.ref b 0 0/\Y'=Y1/\Z'=nx1) (by simp[put,f,a,g]) ?_;clear f a g hR U;rintro U Y' Z' ⟨f,a,g,rfl,rfl⟩;refine Wp.seq ?_;refine Wp.A0 z 3 2 (fun N U Y Z=>U 0=.sl 10 (l.map qd.V)/\U 5=.ref b 0 0/\m<Z/\b<Z/\∃V K,N=Q7 V/\o5 m b K Y/\K.Nodup/\K.length<=I.length+V.length/\∀n,n∈K↔n∈I\/(n=b9/\∃i∈V,hasK l i)) rfl (by decide) unMI rfl (by decide) rfl (by decide) ?_;simp[f,a,e1];have hR2:o5 m b I (qv Y2 id none):=(o5.mk (by rw[f2 m (by omega)];exact M.set) (by rw[f2 b (by omega)];exact M.box):o5 m b I Y2).qv _ (by omega) (by omega);refine⟨_,i3,rfl,⟨g,by omega,by omega,[],by simp[Q7],I,hR2,hK0n,by simp,by simp⟩,?_,?_⟩
 ·rintro N lft k pv U Y Z d f g X hb V rfl K T D hKl E hs;have q:[O.v k,pv]∈Q7 (KW l c.names):=d.mem_iff.2 (by simp);obtain⟨i,hi,he⟩:=oE q;simp only[zk,O.v.injEq,zI]at he;obtain⟨rfl,rfl⟩:=he;have r:=A.lt i hi;have hcm:=xe (zj r);have hmc:l[i].cb=1+l[i].name.length+QI l[i].ins+QI l[i].outs+l[i].cond.cb:=rfl;have t1:=Zg l[i].ins;have t2:=Zg l[i].outs;have hw:=wz ((l[i].ins.length:Int)+(l[i].outs.length:Int));have F:=T.box;refine Wp.of z (by kernel_rfl) ?_;by_cases h00:0<l[i].ins.length+l[i].outs.length
  ·have hpt:=Iz b9 T.set;have u:(0:Int)<(l[i].ins.length:Int)+l[i].outs.length:=by omega
   simp only[b9]at hpt;simp[f,g,hs,r,ye,qC,hw,u,F,hpt];refine⟨X,hb,V++[i],dS V i,Xy K b9,⟨by simp[b9],by rw[zx _ _ _ _ W.symm];exact F⟩,Iy D,?_,fun n=>?_⟩
   ·have:=D9 K b9;simp only[zL,zO,yV];omega
   ·rw[D5,E];have hki:hasK l i:=⟨l[i],zl r,h00⟩;constructor
    ·rintro ((h|⟨a,j,J,o⟩)|rfl)
     ·exact .inl h
     ·exact .inr ⟨a,j,by simp[J],o⟩
     ·exact .inr ⟨rfl,i,by simp,hki⟩
    ·rintro (h|⟨rfl,_⟩)
     ·exact .inl (.inl h)
     ·exact .inr rfl
  ·have u:¬(0:Int)<(l[i].ins.length:Int)+l[i].outs.length:=by omega
   simp[f,g,hs,r,ye,qC,hw,u];refine⟨X,hb,V++[i],dS V i,K,T,D,by simp only[zL,zO,yV];omega,fun n=>?_⟩;rw[E];constructor
   ·rintro (h|⟨a,j,J,o⟩)
    ·exact .inl h
    ·exact .inr ⟨a,j,by simp[J],o⟩
   ·rintro (h|⟨a,j,J,o⟩)
    ·exact .inl h
    ·simp only[zM,wM]at J;rcases J with J|rfl
     ·exact .inr ⟨a,j,J,o⟩
     ·obtain⟨s,H,hs2⟩:=o;rw[zl r]at H;injection H with H;subst H;exact absurd hs2 h00
 rintro N U Y Z d f g X hb V rfl K T D hKl E;have hVp:=fU d;have hVl:=K3 e.len A hVp;have hres:QQ l c=ju (c.yq.map qe.attr++(kG l c.names).flatMap fun n=>Xv (Zt (qQ n l))):=rfl;have hKu:∀n,n∈K↔n∈c.yq.map qe.attr++(kG l c.names).flatMap fun n=>Xv (Zt (qQ n l)):=fun n=>by rw[R1 e.up e.len hk hn,E,hK0m];simp[hVp.mem_iff,or_assoc]
 have F:=T.box;refine Wp.cut z (fun p Y' Z'=>p 5=.ref b 0 0/\p 7=.nil/\Y'=Y/\Z'=Z) (by kernel_rfl) (by simp[g]) ?_;clear f g U;rintro U Y Z ⟨g,h7,rfl,rfl⟩;refine Wp.seq ?_;refine Wp.A0 z 1 2 (fun N U Y Z=>∃S,N=QL S/\qT Y Z 9 1 (U 7) (zy S)) rfl (by decide) unMS rfl (by decide) rfl (by decide) ?_;simp[g,F];refine⟨_,T.set,rfl,⟨[],by simp[QL],by rw[h7];exact .inl ⟨rfl,by simp[zy]⟩⟩,?_,?_⟩
 ·rintro N lft k pv U Y Z d S rfl hO hs;have q:[O.v k,pv]∈QL K:=d.mem_iff.2 (by simp);obtain⟨s,hi,he⟩:=RZ q;simp only[zk,O.v.injEq,zI]at he;obtain⟨rfl,rfl⟩:=he;have hSl:S.length<=K.length:=by have:=d.length_eq;simp[pR,QL]at this;omega
  obtain⟨hp3,a,o,_⟩:=aa hO s (by omega);refine Wp.of z (by kernel_rfl) ?_;simp[hs,zp,zE,zo,a];exact⟨S++[s],by simp[QL],o⟩
 rintro N U Y Z d S rfl hO;have Q:=M3 d;have hSl:S.length=K.length:=Q.length_eq;obtain⟨hp3,a,o⟩:=oG (Z:=Z) hO (by omega);have hfin:xF S=QQ l c:=by rw[hres];exact GO (Q.nodup_iff.2 D) fun n=>Q.mem_iff.trans (hKu n)
 rw[hfin]at o;refine Wp.of z (by kernel_rfl) ?_;simp[a,f18];exact o.freeze _
noncomputable def FUs:zb->Option O:=ql (α:=List qd×qe) (fun a=>[.sl 10 (a.1.map qd.V),.sl 7 [a.2.V]]) (fun a=>Ye a.1/\x4 a.1+a.2.cb<zu/\∀n∈a.2.names,w7 a.1 n=true) fun a=>.sl 1 (zy (QQ a.1 a.2))
theorem IB{a b:List qd×qe}(e:[O.sl 10 (a.1.map qd.V),.sl 7 [a.2.V]]=[.sl 10 (b.1.map qd.V),.sl 7 [b.2.V]]):a=b:=by obtain⟨c,f⟩:=a;obtain⟨d,g⟩:=b;simp only[zk,zI,O.sl.injEq,true_and]at e;rw[xm (by rw[e.1]:O.sl 10 (c.map qd.V)=.sl 10 (d.map qd.V)),kU e.2]
theorem R3(l:List qd)(c:qe)(Y:Hp)(Z:Nat):zD (qv Y Z (some ⟨26,7,true,[c.V]⟩)) [.sl 10 (l.map qd.V),.own Z 0 1]=some ([.sl 10 (l.map qd.V),.sl 7 [c.V]],qv (qv Y Z (some ⟨26,7,true,[c.V]⟩)) Z none):=by simp
theorem IC(l:List qd)(c:qe)(Y:Hp)(Z:Nat)(h:Ye l/\x4 l+c.cb<zu/\∀n∈c.names,w7 l n=true):zh true [] FUs [.sl 10 (l.map qd.V),.own Z 0 1] (qv Y Z (some ⟨26,7,true,[c.V]⟩)) (Z+1)=some (.sl 1 (zy (QQ l c)),qv (qv Y Z (some ⟨26,7,true,[c.V]⟩)) Z none,Z+1):=by have hF:FUs [.sl 10 (l.map qd.V),.sl 7 [c.V]]=some (.sl 1 (zy (QQ l c))):=qF (V:=fun a:List qd×qe=>[O.sl 10 (a.1.map qd.V),.sl 7 [a.2.V]]) (a:=(l,c)) (fun _ _=>IB) h;unfold zh;rw[R3];have b:yg [] [O.sl 10 (l.map qd.V),.sl 7 [c.V]]=[O.sl 10 (l.map qd.V),.sl 7 [c.V]]:=rfl;simp only[b,hF];simp[O.flat,O.noOwn]
theorem Hh:zg prog 18 (zh true [] FUs):=
 Ys (C:=Cus) (pf:=fun _=>true) (fn:=f18) (code:=_) ⟨func18,by kernel_rfl,rfl,by kernel_rfl⟩ true [] _ fun args r h=>by obtain⟨⟨l,c⟩,rfl,⟨b,a,d⟩,rfl⟩:=zN h;exact⟨by simp[f18],zaq l c b (by simp only at a;omega) (by simp only at a;omega) d rfl⟩
noncomputable def Y3 (l:List qd) (c:qe) (a:List za):O:=.wG [.sl 1 (zy (if Zw l [c]=0 then a else[])),int (Zw l [c])]
noncomputable def oH (out:List qd->qe->O):zb->Option O:=ql (α:=List qd×qe) (fun a=>[.sl 10 (a.1.map qd.V),.agg a.2.V]) (fun a=>2*x4 a.1<=zu/\x4 a.1+a.2.cb<zu) fun a=>out a.1 a.2
theorem td(out:List qd->qe->O)(l:List qd)(c:qe)(Y:Hp)(Z:Nat)(h:2*x4 l<=zu)(d:x4 l+c.cb<zu):zh false [] (oH out) [.sl 10 (l.map qd.V),.agg c.V] Y Z=some (out l c,Y,Z):=
 Ja (l,c) _ _ (by simp[wi]) (fun a b e=>by obtain⟨f,g⟩:=a;obtain⟨i,j⟩:=b;simp only[zk,zI,O.agg.injEq]at e;rw[xm e.1,kU e.2]) ⟨h,d⟩ (.inr (by simp[wi,O.noOwn]))
theorem lr(f:Int):QN (.wG [.nil,int f]) (.wG [.sl 1 (zy []),int f]):=by
 refine⟨rfl,fun j a b c d=>?_⟩
 match j,c,d with
 | 0,c,d=>simp at c d;subst c;subst d;exact .inr ⟨rfl,1,rfl⟩
 | 1,c,d=>simp at c d;subst c;subst d;exact .inl rfl
 |j+2,c,d=>simp at c
noncomputable abbrev CUs:Ctx:=zR prog [(11,zh false [] ri),(18,zh true [] FUs)]
theorem M4(l:List qd)(c:qe)(h:2*x4 l<=zu)(i:x4 l+c.cb<zu):∃f,zq CUs Tryz.f6 [.sl 10 (l.map qd.V),.agg c.V]=some f/\QN f (Y3 l c (QQ l c)):=by
 have g:zu=2097152:=rfl;refine kh rfl ?_;have b:=fun Y Z=>Kb l c Y Z h (by omega)
 unfold Y3;by_cases a:Zw l [c]=0
 case neg=>have d:=Za a;rw[zc a];simp[zp,zE,zo,b,d,xx,Tryz.f6];exact lr _
 rw[a]at b⊢;obtain⟨e,j,k⟩:=oz a;have m:=fun Y Z=>IC l c Y Z ⟨e,i,k⟩
 rw[zd rfl];simp[zp,zE,zo,b,m,xx,Tryz.f6];exact qb _
theorem Hi:zg prog 6 (zh false [] (oH fun l c=>Y3 l c (QQ l c))):=
 xy (C:=CUs) (zU mixed ⟨K2,Hh,trivial⟩) func6 false [] fun⟨l,c⟩ ⟨a,b⟩=>⟨by simp[Tryz.f6],M4 l c a b⟩
noncomputable abbrev CNm:Ctx:=zR prog [(11,zh false [] ri),(20,hFz DL),(21,Vs xF false)]
theorem zdb:Gd CNm:=zU mixed ⟨K2,fQ,Xu,trivial⟩
theorem R4(l:List qd)(c:qe)(h:2*x4 l<=zu)(X:x4 l+c.cb<zu){code:Code}(f:Tryz.f8.body=some code) :
  Wp True CNm Tryz.f8.ntmps code ⟨j9 [.sl 10 (l.map qd.V),.agg c.V],fun _=>none,0⟩ (Jt CNm.P Tryz.f8 (xx (Y3 l c (kG l c.names)))):=by
 have E:zu=2097152:=rfl;have g:=zdb;have t:=fun Y Z=>Kb l c Y Z h (by omega)
 injection f with f;subst f;unfold Y3;refine Wp.cut g (fun U Y Z=>U 0=.sl 10 (l.map qd.V)/\U 3=.ref 0 0 0/\Y=qv (fun _=>none) 0 (some ⟨26,7,false,[c.V]⟩)/\Z=1) (by kernel_rfl) (by simp) ?_;rintro U Y Z ⟨b,m,rfl,rfl⟩;by_cases u:Zw l [c]=0
 case neg=>
  have w:=Za u;rw[zc u];refine Wp.cut g (fun _ _ _=>False) (by kernel_rfl) ?_ fun _ _ _ h=>h.elim
  simp[b,m,zp,zE,zo,t,w,xx,Tryz.f8];exact lr _
 rw[u]at t⊢;rw[zd rfl];obtain⟨a,I,x⟩:=oz u;refine Wp.cut g (fun U Y Z=>U 0=.sl 10 (l.map qd.V)/\U 3=.ref 0 0 0/\Y 0=some ⟨26,7,false,[c.V]⟩/\Z=2) (by kernel_rfl) (by simp[b,m,zp,zE,zo,t]) ?_;clear b m t U;rintro U Y Z ⟨b,m,y,rfl⟩;refine Wp.cut g (fun j J K=>j 0=U 0/\j 3=U 3/\j 7=.nil/\J=Y/\K=2) (by kernel_rfl) (by simp) ?_;rintro L Y1 Z ⟨F,G,M,rfl,rfl⟩;rw[b]at F;rw[m]at G;clear b m U;refine Wp.seq ?_;have d:=Ka a.len a.known x;obtain⟨id,Y2,N,Q,i1,i2,R,f2⟩:=oD l c (by omega) (by omega) a.known x (3) (R3 l c Y1 2);refine Wp.A0 g 4 2 (fun z U Y Z=>U 0=.sl 10 (l.map qd.V)/\∃V,z=Q7 V/\qT Y Z 9 1 (U 7) (zy (V.map (Xs l)))) rfl (by decide) unMI rfl (by decide) rfl (by decide) ?_;simp[F,G,y,zp,zE,zo,Q];refine⟨_,R,rfl,⟨[],by simp[Q7],by rw[M];exact .inl ⟨rfl,by simp[zy]⟩⟩,?_,?_⟩
 ·rintro z S k T U Y Z e b V rfl A hs;have p:[O.v k,T]∈Q7 (KW l c.names):=e.mem_iff.2 (by simp);obtain⟨i,hi,H⟩:=oE p;simp only[zk,O.v.injEq,zI]at H;obtain⟨rfl,rfl⟩:=H;have q:=d.lt i hi;have W:=R2 _ _ d.nd d.lt;have B:V.length<=100:=by have n:=e.length_eq;have o:=a.len;simp[fP,Q7]at n;omega
  have C:Xs l i=l[i].name:=by unfold Xs;rw[zl q]
  obtain⟨D,n,o,_⟩:=aa A l[i].name (by simp;omega);refine Wp.of g (by kernel_rfl) ?_;simp at n o;simp[b,hs,q,ye,zp,zE,zo,n];exact⟨V++[i],dS V i,by simp[C];exact o⟩
 rintro z U Y Z e b V rfl A;have r:=fU e;have B:=K3 a.len d r;obtain⟨D,n,o⟩:=oG (Z:=Z) A (by simp;omega);have s:=sU a.up a.len a.known x r;rw[show xF (V.map (Xs l))=kG l c.names from s]at o;refine Wp.of g (by kernel_rfl) ?_;simp[n,Tryz.f8];exact o.zaH _ _
theorem Eb:zg prog 8 (zh false [] (oH fun l c=>Y3 l c (kG l c.names))):=
 Ys (C:=CNm) (pf:=fun _=>true) (fn:=Tryz.f8) (code:=_) ⟨func8,by kernel_rfl,rfl,by kernel_rfl⟩ false [] _ fun args r h=>by obtain⟨⟨l,c⟩,rfl,⟨a,b⟩,rfl⟩:=zN h;exact⟨by simp[Tryz.f8],R4 l c a b rfl⟩
end Go.Q
namespace Go.Proofs
open Go.Shelf
end Go.Proofs
namespace Go.Q
def ru(Y:Hp)(Z:Nat)(v:O):Prop:=(∀id o n,v≠.own id o n)/\∀id i j,v=.ref id i j->id<Z/\∃blk,Y id=some blk/\blk.arr=false
@[simp]theorem zf3(Y:Hp)(Z:Nat)(x:zb):ru Y Z (.wG x):=⟨(fun _ _ _ e=>by cases e),(fun _ _ _ e=>by cases e)⟩
theorem oI{Y:Hp}{Z id i j:Nat}{blk:kv}(a:id<Z)(b:Y id=some blk)(c:blk.arr=false):ru Y Z (.ref id i j):=
 ⟨(fun _ _ _ e=>by cases e),fun id' i' j' e=>by injection e with e;subst e;exact⟨a,blk,b,c⟩⟩
theorem R5{L:List Tmp}{st:St}(b:∀s∈L,s<zB)(h:∀s∈L,ru st.Y st.Z (st.U s)):Z6 L st:=fun s hs=>⟨h s hs,fun a=>absurd (b s hs) (Nat.not_lt.2 a)⟩
theorem ru.keep{Y a:Hp}{Z b:Nat}{v:O}(h:ru Y Z v)(k:Z<=b)(d:∀id blk,id<Z->Y id=some blk->blk.arr=false->a id=some blk):ru a b v:=
 ⟨h.1,fun id i j e=>by obtain⟨f,blk,g,c⟩:=h.2 id i j e;exact⟨by omega,blk,d id blk f g c,c⟩⟩
end Go.Q
namespace Go.AM
theorem qT.other{Y d:Hp}{Z f g b l i:Nat}{v w:O}{xs ys:List zb}(h:qT Y Z b i w ys)(m:qT Y Z g l v xs)(c:g≠b)(q:Z<=f)(o:∀j,j<Z->(∀n,v≠.own j 0 n)->d j=Y j):qT d f b i w ys:=by
 rcases h with⟨rfl,rfl⟩|⟨id,hid,rfl,k⟩
 ·exact .inl ⟨rfl,rfl⟩
 ·refine .inr ⟨id,by omega,rfl,?_⟩;rw[o id hid fun n e=>?_]
  ·exact k
  ·rcases m with⟨rfl,_⟩|⟨p,_,rfl,a⟩
   ·cases e
   ·injection e with e;subst e;rw[k]at a;injection a with a;exact c (by have:=zr kv.e a;simpa using this.symm)
end Go.AM
namespace Go.Q
noncomputable abbrev Crte (n:Nat):Ctx:=zR prog [(90,zh false [] (FC (fun c=>.sl 7 (c.yq.map qe.V)) n))]
theorem Ec(n:Nat)(c:qe)(h:c.cb<=zu/\c.cb<=n+1):∃D,zq (Crte n) f90 [.agg c.V]=some D/\QN D (.sl 7 (c.yq.map qe.V)):=by
 have G:=Zm c;have H:=jf c.args;have q:=ZI _ c (zf _);obtain⟨I,N⟩:=h;unfold zu at I;have g:∀k,(ko (c.args.take k)).length<=c.cb:=fun k=>by
  have e:ko c.args=ko (c.args.take k)++ko (c.args.drop k):=by rw[<-b8,kb]
  have:=zr List.length e;rw[dJ,zL]at q;rw[zL]at this;omega
 refine kh rfl ?_;obtain⟨r,a⟩:=jc (if c.kind=4 then[c]else[]);have E:r.length<=1:=by rw[<-a];split<;>simp
 refine jI (fun U Y Z=>U 1=.ref 0 0 0/\Y=qv (fun _=>none) 0 (some ⟨26,7,false,[c.V]⟩)/\Z=1) (by simp) ?_;rintro U Y Z ⟨b,rfl,rfl⟩;refine jI (fun U Y Z=>U 3=.nil/\U 1=.ref 0 0 0/\Y=qv (fun _=>none) 0 (some ⟨26,7,false,[c.V]⟩)/\Z=1) (by simp[b]) ?_;clear b U;rintro U Y Z ⟨s,b,rfl,rfl⟩;refine jI (fun U Y Z=>U 1=.ref 0 0 0/\0<Z/\Y 0=some ⟨26,7,false,[c.V]⟩/\qT Y Z 26 7 (U 3) (r.map qe.V)) ?_ ?_
 ·by_cases p:c.kind=4
  ·rw[zd p]at a;have i:=fun Y Z=>qT.jd (P:=prog) (t:=24) (c:=c.V) (qT.nil Y Z 26 7) TD TE TF TG rfl (by omega) (by simp[maxLen]) (by simp)
   simp only[Zl]at i;simp[b,s,p,zp,zE,zo,i];rw[<-a];exact .inr ⟨_,by omega,rfl,by simp⟩
  ·rw[zc p]at a;have u:=wU p;simp[b,s,u];rw[<-a];exact .inl ⟨rfl,rfl⟩
 clear b s U;rintro U Y Z ⟨b,v,j,f⟩;simp[b,j];refine zP (fun k U Y Z=>U 14=.sl 7 (c.args.map qe.V)/\U 15=int c.args.length/\U 16=int k/\qT Y Z 26 7 (U 3) ((r++ko (c.args.take k)).map qe.V)) c.args.length
  ⟨by simp,by simp,by simp,by simpa[ko]using f⟩ ?_
 clear b v j f U Y Z;rintro k U Y Z Q ⟨l,m,o,f⟩;by_cases d:k<c.args.length
 ·have J:=qG k;obtain⟨x,w⟩:=jc (c.args[k]);have y:x∈c.args:=by rw[<-w];exact zj d
  have K:=kj y;have L:=ZI _ x (zf _);have M:=fun Y Z=>Zd (fun c=>.sl 7 (c.yq.map qe.V)) n x Y Z ⟨by unfold zu;omega,by omega⟩
  have R:=g k;have z:=f.more (some ⟨26,7,false,[x.V]⟩);obtain⟨S,T,W,A,B,_⟩:=z.Jo (P:=prog) (t:=24) (ys:=x.yq.map qe.V) TD TE TF TG rfl (by omega) (by simp[maxLen];omega) (by simp;omega);have F:=DB d;rw[w]at F;simp[l,m,o,d,w,M,A,J];refine⟨by omega,?_⟩;rw[F];simpa using B
 ·obtain rfl:k=c.args.length:=by omega
  rw[wF]at f;have C:=f.freeze Z;simp[l,m,o,f90];rw[dJ,a];simpa using C
theorem AF:∀n,zg prog 90 (zh false [] (FC (fun c=>.sl 7 (c.yq.map qe.V)) n)):=by
 intro n
 induction n with
 |zero=>exact cE ⟨_,func90,by kernel_rfl,by kernel_rfl⟩
 |succ n a=>
  have b:Gd (Crte n):=zU mixed ⟨a,trivial⟩;exact wW (fn:=f90) b (qD func90) false [] _ fun args r h=>by obtain⟨c,rfl,d,rfl⟩:=Q0 h;exact⟨by simp[f90],Ec n c d⟩
end Go.Q
namespace Go.AM
theorem M5{Y:Hp}{Z r s f g:Nat}{v w:O}{xs ys:List zb}(t:qT Y Z r f v xs)(u:qT Y Z s g w ys)(n:r≠s):xx (.wG [.sl f xs,.sl g ys]) (.wG [v,w]) Y Z:=by
 have c:∀a b:O,(a=.sl f xs\/a=.nil/\xs=[])->(b=.sl g ys\/b=.nil/\ys=[])->QN (.wG [a,b]) (.wG [.sl f xs,.sl g ys]):=fun a b x m=>by
  refine⟨rfl,fun j p q Y d=>?_⟩
  match j,Y,d with
  | 0,Y,d=>simp at Y d;subst Y;subst d;exact x.imp id fun h=>⟨h.1,f,by rw[h.2]⟩
  | 1,Y,d=>simp at Y d;subst Y;subst d;exact m.imp id fun h=>⟨h.1,g,by rw[h.2]⟩
  |j+2,Y,d=>simp at Y
 rcases t with⟨rfl,rfl⟩|⟨i,hi,rfl,m⟩<;>rcases u with⟨rfl,rfl⟩|⟨k,y,rfl,l⟩
 ·exact⟨.wG [.nil,.nil],by simp,c _ _ (.inr ⟨rfl,rfl⟩) (.inr ⟨rfl,rfl⟩)⟩
 ·exact⟨.wG [.nil,.sl g ys],by simp[l],c _ _ (.inr ⟨rfl,rfl⟩) (.inl rfl)⟩
 ·exact⟨.wG [.sl f xs,.nil],by simp[m],c _ _ (.inl rfl) (.inr ⟨rfl,rfl⟩)⟩
 ·have o:k≠i:=by rintro rfl;rw[m]at l;injection l with l;exact n (by have:=zr kv.e l;simpa using this)
  exact⟨.wG [.sl f xs,.sl g ys],by simp[m,l,o],c _ _ (.inl rfl) (.inl rfl)⟩
end Go.AM
namespace Go.Q
theorem Xz{Y:Hp}{Z:Nat}{v:O}{l:List za}(c:qT Y Z 9 1 v (zy l))(d:l.length<=zu):zh true [1] (LU (fun l=>.sl 1 (zy (ju l))) fun l=>l.length<=zu) [v] Y Z=some (.sl 1 (zy (ju l)),Zl v Y,Z):=by
 have hs:LU (fun l=>.sl 1 (zy (ju l))) (fun l=>l.length<=zu) [.sl 1 (zy l)]=some (.sl 1 (zy (ju l))):=qF (V:=fun l:List za=>[O.sl 1 (zy l)]) (a:=l) (fun a b e=>by
  simp only[zk,zI]at e;injection e with _ e
  exact ji e) d
 rcases c with⟨rfl,f⟩|⟨id,hid,rfl,g⟩
 ·have hd:l=[]:=by simpa[zy]using f
  subst hd;exact yA (Y1:=Y) rfl hs (.inr rfl)
 ·have h:zD Y [.own id 0 (zy l).length]=some ([.sl 1 (zy l)],qv Y id none):=by
   simp[g]
   try rw[qx (by simp)]
  unfold zh;rw[h];have i:yg [1] [O.sl 1 (zy l)]=[O.sl 1 (zy l)]:=rfl;simp only[i,hs];simp[O.flat,O.noOwn,Zl]
theorem Hj(l:List qd)(a:List za):aq (kG l a):=by obtain⟨out,b⟩:=dI l a _ [] a (.begin _ _) (zf _);rw[<-dH b,ZH ((j5 out _).nodup_iff.2 b.nodup)];exact X5 b.nodup
theorem zar{l:List qd}(a:Ye l){b:List za}(c:∀n∈b,w7 l n=true):(kG l b).length<=100:=by have d:=Ka a.len a.known c;rw[<-sU a.up a.len a.known c (List.Perm.refl _),zdh,vB];exact K3 a.len d (List.Perm.refl _)
def o0(l:List qd)(R:List za):List qe:=R.flatMap fun n=>(Zt (qQ n l)).cond.yq
def M6(l:List qd)(R:List za):List za:=R.flatMap fun n=>(Zt (qQ n l)).ins++(Zt (qQ n l)).outs
theorem te{α a:Type}(f:α->List a){R:List α}{k:Nat}(h:k<R.length):(R.take (k+1)).flatMap f=(R.take k).flatMap f++f R[k]:=by rw[qq h,List.flatMap_append];simp
theorem oJ{α c:Type}(f:α->List c){B:Nat}(b:∀a,(f a).length<=B):∀R:List α,(R.flatMap f).length<=R.length*B
 |[]=>by simp
 |a::R=>by have d:=b a;have e:=oJ f b R;simp only[List.flatMap_cons,zL,zO,qI];omega
theorem oK{l:List qd}(h:x4 l<=zu)(n:za):(Zt (qQ n l)).cond.yq.length<=zu/\((Zt (qQ n l)).ins++(Zt (qQ n l)).outs).length<=zu/\(Zt (qQ n l)).cond.cb<=zu:=by
 have a:=It l n h;refine⟨zw (ZI _ _ (zf _)) a,?_,a⟩;by_cases b:∃y∈l,y.name=n
 ·obtain⟨j,c,d,_⟩:=XV b;rw[d];have i:=xe (zj c);have f:l[j].cb=1+l[j].name.length+QI l[j].ins+QI l[j].outs+l[j].cond.cb:=rfl;have k:=Zg l[j].ins;have m:=Zg l[j].outs;show(l[j].ins++l[j].outs).length<=zu;rw[zL];omega
 ·rw[Jh fun y g e=>b ⟨y,g,e⟩];simp[Zt,fY]
noncomputable def atP (l:List qd) (c:qe):O:=.wG [.sl 7 ((c.yq++o0 l (kG l c.names)).map qe.V),.sl 1 (zy (M6 l (kG l c.names)))]
noncomputable abbrev Crat:Ctx:=WU prog [(90,zh false [] (FC (fun c=>.sl 7 (c.yq.map qe.V)) zu)),(22,zh false [] RQ),(47,zh true [1] (LU (fun l=>.sl 1 (zy (ju l))) fun l=>l.length<=zu)),(42,zh false [] (Gf (fun l s=>W8 (qQ s l)) fun l _=>l.length<=zu))] 14 [13,50,53] []
theorem zas:Gd Crat:=mq mixed ⟨AF zu,by simp,JF,by simp,KY,by simp,Zh,by simp,trivial⟩ (by simp[eG])
theorem rj(l:List qd)(c:qe)(W:Ye l)(hl:x4 l+c.cb<=zu)(hn:∀n∈c.names,w7 l n=true):∃r0,zq Crat f46 [.sl 10 (l.map qd.V),.sl 7 [c.V]]=some r0/\QN r0 (atP l c):=by
 have hlim:zu=2097152:=rfl;have hll:=vG l;have htl:=ZI _ c (zf _);have G:=Hj l c.names;have r:=zar W hn;refine kh rfl ?_;unfold atP;obtain⟨R,hR⟩:=jc (kG l c.names);have g2:=fun Y Z=>fT l c Y Z hl
 rw[hR]at g2 G r⊢;have Q:=fun Y Z=>Zd (fun c=>.sl 7 (c.yq.map qe.V)) zu c Y Z ⟨by omega,by omega⟩
 simp;refine zP (fun k U Y Z=>U 0=.sl 10 (l.map qd.V)/\U 7=.nil/\ru Y Z (U 50)/\ru Y Z (U 53)/\U 15=.sl 7 [c.V]/\U 16=int 1/\U 17=int k/\qT Y Z 26 7 (U 6) ((if k=0 then[]else c.yq).map qe.V)/\qT Y Z 9 1 (U 8) (zy (if k=0 then[]else R))) 1
  ⟨by simp,by simp,by simp,by simp,by simp,by simp,by simp,by simp;exact .inl ⟨rfl,rfl⟩,by simp;exact .inl ⟨rfl,by simp[zy]⟩⟩ ?_
 rintro k U Y Z X ⟨E,h7,e,f,u,v,w,b,d⟩;by_cases H:k=0
 ·subst H;rw[zd rfl]at b d;have hw1:IntKind.i64.wrap 1=1:=by decide
  have m:=b.more (some ⟨26,7,false,[c.V]⟩);have k8:=d.more (some ⟨26,7,false,[c.V]⟩);obtain⟨v6,g,nx6,S,O6,n6,x⟩:=m.ed (P:=prog) (t:=24) (ys:=c.yq.map qe.V) TD TE TF TG rfl (by omega) (by simp[maxLen];omega) (by simp;omega);have q8:=k8.other m (by decide) n6 x;have T:g Z=some ⟨26,7,false,[c.V]⟩:=by rw[x Z (by omega) (xS m (by simp;rfl) rfl)];simp
  obtain⟨v8,I,nx8,a8,O8,n8,J⟩:=q8.ed (P:=prog) (t:=33) (ys:=zy R) eD HH Ll Lm rfl (by omega) (by simp[maxLen,qC];omega) (by simp[qC];omega);have F:=O6.other q8 (by decide) n8 J;simp[E,h7,u,v,w,Q,g2,S,a8,T,hw1];refine⟨e.keep (by omega) fun id blk hid o h=>?_,f.keep (by omega) fun id blk hid o h=>?_,by simpa using F,by simpa[zy]using O8⟩
  all_goals
   have K:qv Y Z (some (⟨26,7,false,[c.V]⟩:kv)) id=some blk:=by rw[zx _ _ _ _ (by omega)];exact o
   have z2:g id=some blk:=by rw[x id (by omega) (xS m K h)];exact K
   rw[J id (by omega) (xS q8 z2 h)];exact z2
 obtain rfl:k=1:=by omega
 rw[zc (by omega)]at b d;have gn:=Xz d (by omega);rw[ML G]at gn;have F:qT (Zl (U 8) Y) Z 26 7 (U 6) (c.yq.map qe.V):=b.other d (by decide) (zf _) fun j _ hj=>yM d Y j hj
 have kk:∀id blk,id<Z->Y id=some blk->blk.arr=false->Zl (U 8) Y id=some blk:=fun id blk _ T h=>by rw[yM d Y id (xS d T h)];exact T
 simp[u,v,w,gn];refine zP (fun k U Y Z=>U 0=.sl 10 (l.map qd.V)/\ru Y Z (U 50)/\ru Y Z (U 53)/\U 32=.sl 1 (zy R)/\U 33=int R.length/\U 34=int k/\qT Y Z 26 7 (U 6) ((c.yq++o0 l (R.take k)).map qe.V)/\qT Y Z 9 1 (U 7) (zy (M6 l (R.take k)))) R.length
  ⟨by simp[E],by simp;exact e.keep (zf _) kk,by simp;exact f.keep (zf _) kk,by simp,by simp[qC],by simp,by simpa[o0]using F,by simp[h7,M6,zy];exact .inl ⟨rfl,rfl⟩⟩ ?_
 clear b d gn F kk e f E h7 u v w X H U Y Z;rintro k U Y Z hk ⟨E,e,f,y,z,A,b,B⟩;by_cases p:k<R.length
 ·have hw:=qG k;obtain⟨a,h⟩:=jc (R[k]);have hga:(zy R)[k]?=some [str a]:=by simp[zy,p,h]
  have L:=fun Y Z=>XW (fun l s=>W8 (qQ s l)) (fun l _=>l.length<=zu) l a Y Z (by omega)
  obtain⟨b1,b2,b3⟩:=oK (l:=l) (by omega) a;have lt1:=oJ (fun n=>(Zt (qQ n l)).cond.yq) (fun n=>(oK (l:=l) (by omega) n).1) (R.take k);have lt2:=oJ (fun n=>(Zt (qQ n l)).ins++(Zt (qQ n l)).outs) (fun n=>(oK (l:=l) (by omega) n).2.1) (R.take k);have M:(R.take k).length*zu<=100*zu:=zK _ (by rw[yF];omega);have t1:o0 l (R.take (k+1))=o0 l (R.take k)++(Zt (qQ a l)).cond.yq:=by unfold o0;rw[te _ p,h]
  have t2:M6 l (R.take (k+1))=M6 l (R.take k)++((Zt (qQ a l)).ins++(Zt (qQ a l)).outs):=by unfold M6;rw[te _ p,h]
  obtain⟨s,hs⟩:=jc (Zt (qQ a l));have o1:W8 (qQ a l)=.wG [.agg s.V,qS (qQ a l).isSome]:=by rw[<-hs];rfl
  rw[hs]at b1 b2 b3 t1 t2;simp only[o1]at L;have l1:(o0 l (R.take k)).length<=100*zu:=zw lt1 M;have l2:(M6 l (R.take k)).length<=100*zu:=zw lt2 M;rw[zL]at b2;have Q:=fun Y Z=>Zd (fun c=>.sl 7 (c.yq.map qe.V)) zu s.cond Y Z ⟨b3,b3⟩
  have m:=b.more (some ⟨48,10,false,[s.V]⟩);have k7:=B.more (some ⟨48,10,false,[s.V]⟩);obtain⟨v6,g,nx6,S,O6,n6,x⟩:=m.ed (P:=prog) (t:=24) (ys:=s.cond.yq.map qe.V) TD TE TF TG rfl (by omega) (by simp[maxLen];omega) (by simp;omega);have q7:=k7.other m (by decide) n6 x;have q:g Z=some ⟨48,10,false,[s.V]⟩:=by rw[x Z (by omega) (xS m (by simp;rfl) rfl)];simp
  obtain⟨v7,hp7,nx7,a7,O7,n7,f7⟩:=q7.ed (P:=prog) (t:=33) (ys:=zy s.ins) eD HH Ll Lm rfl (by omega) (by simp[maxLen,qC];omega) (by simp[qC];omega);have F:=O6.other q7 (by decide) n7 f7;have C:hp7 Z=some ⟨48,10,false,[s.V]⟩:=by rw[f7 Z (by omega) (xS q7 q rfl)];exact q
  obtain⟨v8,I,nx8,a8,O8,n8,J⟩:=O7.ed (P:=prog) (t:=33) (ys:=zy s.outs) eD HH Ll Lm rfl (by omega) (by simp[maxLen,qC];omega) (by simp[qC];omega);have q6':=F.other O7 (by decide) n8 J;have D:I Z=some ⟨48,10,false,[s.V]⟩:=by rw[J Z (by omega) (xS O7 C rfl)];exact C
  have kp:∀id blk,id<Z->Y id=some blk->blk.arr=false->g id=some blk:=fun id blk hid o hba=>by
   have K:qv Y Z (some (⟨48,10,false,[s.V]⟩:kv)) id=some blk:=by rw[zx _ _ _ _ (by omega)];exact o
   rw[x id (by omega) (xS m K hba)];exact K
  simp only[ye,wi]at Q S;simp[E,y,z,A,p,h,L,Q,S,ye];rw[Vn (R5 (by decide) (by
   intro s' N;simp at N;rcases N with rfl|rfl|rfl
   ·exact oI (id:=Z) (i:=0) (j:=0) (by simp;omega) (by simp;exact q) rfl
   ·simp;exact e.keep (by omega) kp
   ·simp;exact f.keep (by omega) kp))]
  simp[E,y,z,A,q,C,D,ye,a7,a8,hw];refine⟨by omega,oI (by omega) D rfl,oI (by omega) D rfl,?_,?_⟩
  ·rw[t1];simpa using q6'
  ·rw[t2];simpa[zy]using O8
 ·obtain rfl:k=R.length:=by omega
  rw[wF]at b B;simp[y,z,A,f46];simpa using M5 b B (by decide)
noncomputable def FAlt:zb->Option O:=ql (α:=List qd×qe) (fun a=>[.sl 10 (a.1.map qd.V),.sl 7 [a.2.V]]) (fun a=>Ye a.1/\x4 a.1+a.2.cb<=zu/\∀n∈a.2.names,w7 a.1 n=true) fun a=>atP a.1 a.2
theorem M7(l:List qd)(c:qe)(Y:Hp)(Z:Nat)(h:Ye l/\x4 l+c.cb<=zu/\∀n∈c.names,w7 l n=true):zh false [] FAlt [.sl 10 (l.map qd.V),.sl 7 [c.V]] Y Z=some (atP l c,Y,Z):=
 Ja (l,c) _ _ (by simp) (fun _ _=>IB) h (.inr (by simp[O.noOwn]))
theorem oL:zg prog 46 (zh false [] FAlt):=
 xy zas func46 false [] fun⟨l,c⟩ ⟨a,b,d⟩=>⟨by simp[f46],rj l c a b d⟩
theorem zbx{l:List za}(h:aq l):l.Nodup:=List.nodup_iff_pairwise_ne.2 (h.imp fun{a b} c e=>by subst e;rw[J3]at c;cases c)
theorem lu:∀(l:List qd) (R:List za),R.Nodup->(o0 l R).length<=x4 l
 |[],R,_=>by
  have:o0 [] R=[]:=by unfold o0;rw[List.flatMap_eq_nil_iff];intro m _;rfl
  rw[this];exact vA _
 |s::l,R,c=>by
  have hs:x4 (s::l)=s.cb+x4 l:=by simp[x4]
  have d:s.cb=1+s.name.length+QI s.ins+QI s.outs+s.cond.cb:=rfl;have j:=ZI _ s.cond (zf _);have a:∀b:List za,s.name ∉ b->o0 (s::l) b=o0 l b:=fun b h=>by
   unfold o0;rw[List.flatMap_def,List.flatMap_def];congr 1;refine x1 fun m f=>?_
   have:¬s.name=m:=fun e=>h (e ▸ f)
   simp[qQ,this]
  by_cases h:s.name∈R
  ·have Y:(o0 (s::l) R).length=(o0 (s::l) (s.name::R.erase s.name)).length:=((List.perm_cons_erase h).flatMap_right _).length_eq;have g:s.name ∉ R.erase s.name:=fun i=>((c.mem_erase_iff).1 i).1 rfl
   have k:=lu l (R.erase s.name) (c.erase _);have e:o0 (s::l) (s.name::R.erase s.name)=s.cond.yq++o0 (s::l) (R.erase s.name):=by
    have:Zt (qQ s.name (s::l))=s:=by simp[qQ,Zt]
    simp[o0,this]
   rw[Y,e,a _ g,zL,hs];omega
  ·rw[a R h,hs];have:=lu l R c;omega
theorem M8{a b:List za}(h:∀n,n∈a↔n∈b):ju a=ju b:=fN _ _ (X7 a) (X7 b) fun n=>(Vg.trans (h n)).trans Vg.symm
theorem Ed(l:List qd)(c:qe):ju ((c.yq++o0 l (kG l c.names)).map qe.attr++if(M6 l (kG l c.names)).length=0 then[]else[b9])=QQ l c:=by
 refine M8 fun n=>?_
 have f:(n∈(if(M6 l (kG l c.names)).length=0 then[]else[b9]))↔n=b9/\∃m∈kG l c.names,0<(Zt (qQ m l)).ins.length+(Zt (qQ m l)).outs.length:=by
  have d:(M6 l (kG l c.names)).length=0↔¬∃m∈kG l c.names,0<(Zt (qQ m l)).ins.length+(Zt (qQ m l)).outs.length:=by
   rw[qy];unfold M6;rw[List.flatMap_eq_nil_iff];constructor
   ·rintro h ⟨m,a,b⟩;have:=zr List.length (h m a);rw[zL,yV]at this;omega
   ·intro h m a;refine jb ?_;rw[zL];exact yC fun e=>h ⟨m,a,by omega⟩
  by_cases b:(M6 l (kG l c.names)).length=0
  ·rw[zd b];simp only[K9,false_iff,not_and];exact fun _=>d.1 b
  ·rw[zc b];simp only[wM];exact⟨fun h=>⟨h,yC fun e=>b (d.2 e)⟩,fun h=>h.1⟩
 have g:∀s:qd,n∈Xv s↔(∃t∈s.cond.yq,t.attr=n)\/(n=b9/\0<s.ins.length+s.outs.length):=fun s=>by
  unfold Xv;by_cases b:s.ins.length+s.outs.length=0
  ·rw[zd b];simp[b]
  ·rw[zc b];have:0<s.ins.length+s.outs.length:=by omega
   simp[this]
 simp only[zM,f,qj,List.mem_flatMap,g,o0];constructor
 ·rintro (⟨t,(h|⟨m,a,h⟩),rfl⟩|⟨rfl,m,a,h⟩)
  ·exact .inl ⟨t,h,rfl⟩
  ·exact .inr ⟨m,a,.inl ⟨t,h,rfl⟩⟩
  ·exact .inr ⟨m,a,.inr ⟨rfl,h⟩⟩
 ·rintro (⟨t,h,rfl⟩|⟨m,a,(⟨t,h,rfl⟩|⟨rfl,h⟩)⟩)
  ·exact .inl ⟨t,.inl h,rfl⟩
  ·exact .inl ⟨t,.inr ⟨m,a,h⟩,rfl⟩
  ·exact .inr ⟨rfl,m,a,h⟩
noncomputable abbrev Crus:Ctx:=zR prog [(46,zh false [] FAlt),(47,zh true [1] (LU (fun l=>.sl 1 (zy (ju l))) fun l=>l.length<=zu))]
theorem AG(l:List qd)(c:qe)(r:Ye l)(E:x4 l+c.cb<zu)(A:∀n∈c.names,w7 l n=true):∃v,zq Crus f19 [.sl 10 (l.map qd.V),.sl 7 [c.V]]=some v/\QN v (.sl 1 (zy (QQ l c))):=by
 have w:zu=2097152:=rfl;refine kh rfl ?_;have m:=fun Y Z=>M7 l c Y Z ⟨r,by omega,A⟩
 have B:(c.yq++o0 l (kG l c.names)).length<zu:=by have F:=ZI _ c (zf _);have G:=lu l _ (zbx (Hj l c.names));rw[zL];omega
 have a:=Ed l c;unfold atP at m;obtain⟨T,s⟩:=jc (c.yq++o0 l (kG l c.names));obtain⟨o,t⟩:=jc (M6 l (kG l c.names));rw[s]at m a B;rw[t]at m a;simp[m];refine zP (fun k U Y Z=>U 7=.sl 1 (zy o)/\U 16=.sl 7 (T.map qe.V)/\U 17=int T.length/\U 18=int k/\qT Y Z 9 1 (U 5) (zy ((T.take k).map qe.attr))) T.length
  ⟨by simp,by simp,by simp,by simp,by simp;exact .inl ⟨rfl,by simp[zy]⟩⟩ ?_
 rintro k U Y Z H ⟨u,d,e,f,p⟩;by_cases i:k<T.length
 ·have C:=qG k;obtain⟨x,y⟩:=jc (T[k]);obtain⟨Y2,j,q,_⟩:=aa (p.more (some ⟨26,7,false,[x.V]⟩)) x.attr (by simp;omega);have D:(T.map qe.attr).take (k+1)=(T.map qe.attr).take k++[x.attr]:=by rw[qq (by simpa using i)];simp[y]
  have b:min k T.length=k:=by omega
  simp[b]at j q;simp[u,d,e,f,i,y,b,zp,zE,zo,j,C];refine⟨by omega,?_⟩;rw[D];exact q
 obtain rfl:k=T.length:=by omega
 rw[wF]at p;by_cases z:o.length=0
 ·rw[zd z,yU]at a;have h:=Xz p (by simp;omega);rw[a]at h;have g:¬0<o.length:=by omega
  simp[u,d,e,f,qC,g,h,xx,f19];exact qb _
 ·rw[zc z]at a;have g:0<o.length:=by omega
  obtain⟨Y2,j,q,_⟩:=aa p b9 (by simp;omega);have h:=Xz q (by simp;omega);rw[a]at h;simp[b9]at j h;simp[u,d,e,f,qC,g,zp,zE,zo,j,h,xx,f19];exact qb _
end Go.Q
namespace Go.Q
open Classical in
noncomputable def rl {α:Type} (a b:α):Bool:=decide (a=b)
open Classical in
theorem ab{α:Type}(a b:α):rl a b=true↔a=b:=by unfold rl;exact decide_eq_true_iff
theorem Ee{α:Type}(a:α):rl a a=true:=(ab a a).2 rfl
theorem zat{α g i:Type}{a b:α}{c d:g}{e f:i}(h:a=b↔c=d/\e=f):rl a b=(rl c d&&rl e f):=by rw[qh,zz,ab,ab,ab];exact h
theorem zau(a b:za):rl a b=(a==b):=by rw[qh,ab,yJ]
theorem R6{α:Type}(a b:α)(l m:List α):rl (a::l) (b::m)=(rl a b&&rl l m):=zat (by simp)
theorem zav{α:Type}{l m:List α}(h:l.length≠m.length):rl l m=false:=by
 cases a:rl l m
 ·rfl
 ·exact(h (zr List.length ((ab l m).1 a))).elim
theorem R7{α:Type}{a b:List α}{k:Nat}(c:k<a.length)(d:k<b.length):rl (a.drop k) (b.drop k)=(rl a[k] b[k]&&rl (a.drop (k+1)) (b.drop (k+1))):=by rw[ze c,ze d,R6]
end Go.Q
namespace Go.Q
theorem Ef(a b:List za)(s:a.length<=zu):zq C0 f10 [.sl 1 (zy a),.sl 1 (zy b)]=some (qS (rl a b)):=by
 unfold zu at s;refine zm rfl ?_;by_cases l:a.length=b.length
 case neg=>
  have d:((a.length:Int) != (b.length:Int))=true:=by simp;omega
  have m:rl a b=false:=zav l;simp[d,m,f10]
 have d:((a.length:Int) != (b.length:Int))=false:=by simp[l]
 simp[d];refine zP (fun k U Y Z=>U 0=.sl 1 (zy a)/\U 1=.sl 1 (zy b)/\U 12=int a.length/\U 13=int k/\rl a b=rl (a.drop k) (b.drop k)) a.length
  ⟨by simp,by simp,by simp,by simp,by simp⟩ ?_
 rintro k U Y Z u ⟨n,o,e,f,g⟩;by_cases h:k<a.length
 ·have c:k<b.length:=by omega
  have t:=qG k;obtain⟨p,r⟩:=jc (a[k]);obtain⟨q,i⟩:=jc (b[k]);rw[R7 h c,r,i,zau]at g;cases hd:(p==q)
  ·rw[hd,ZL]at g;have j:¬p=q:=by simpa using hd
   simp[n,o,e,f,h,c,r,i,j,hd,g,f10]
  ·rw[hd,jK]at g;have j:p=q:=by simpa using hd
   simp[n,o,e,f,h,c,r,i,j,t];exact⟨by omega,g⟩
 ·obtain rfl:k=a.length:=by omega
  rw[zn,l,zn,Ee]at g;simp[n,o,e,f,g,f10]
noncomputable def FTq:zb->Option O:=ql (α:=List za×List za) (fun a=>[.sl 1 (zy a.1),.sl 1 (zy a.2)]) (fun a=>a.1.length<=zu) (fun a=>qS (rl a.1 a.2))
theorem Eg(a b:List za)(Y:Hp)(Z:Nat)(h:a.length<=zu):zh false [] FTq [.sl 1 (zy a),.sl 1 (zy b)] Y Z=some (qS (rl a b),Y,Z):=
 Ja (a,b) _ _ rfl (fun x y e=>by obtain⟨f,g⟩:=x;obtain⟨i,j⟩:=y;simp only[zk,zI]at e;obtain⟨c,d⟩:=e;rw[ji (O.sl.inj c).2,ji (O.sl.inj d).2]) h (.inl rfl)
theorem AH:zg prog 10 (zh false [] FTq):=
 xy jG func10 false [] fun⟨a,b⟩ c=>⟨zw (zf 2) (by decide),_,Ef a b c,qb _⟩
theorem rm:zg prog 19 (zh true [] FUs):=
 xy (C:=Crus) (zU mixed ⟨oL,KY,trivial⟩) func19 true [] fun⟨l,c⟩ ⟨a,b,d⟩=>⟨by simp[f19],AG l c a b d⟩
noncomputable abbrev CrUs:Ctx:=zR prog [(15,zh false [] ri),(19,zh true [] FUs)]
theorem Hk(l:List qd)(c:qe)(h:2*x4 l<=zu)(i:x4 l+c.cb<zu):∃f,zq CrUs Tryz.f7 [.sl 10 (l.map qd.V),.agg c.V]=some f/\QN f (Y3 l c (QQ l c)):=by
 have g:zu=2097152:=rfl;refine kh rfl ?_;have b:=fun Y Z=>Kb l c Y Z h (by omega)
 unfold Y3;by_cases a:Zw l [c]=0
 case neg=>have d:=Za a;rw[zc a];simp[zp,zE,zo,b,d,xx,Tryz.f7];exact lr _
 rw[a]at b⊢;obtain⟨e,j,k⟩:=oz a;have m:=fun Y Z=>IC l c Y Z ⟨e,i,k⟩
 rw[zd rfl];simp[zp,zE,zo,b,m,xx,Tryz.f7];exact qb _
theorem Eh:zg prog 7 (zh false [] (oH fun l c=>Y3 l c (QQ l c))):=
 xy (C:=CrUs) (zU mixed ⟨W0,rm,trivial⟩) func7 false [] fun⟨l,c⟩ ⟨a,b⟩=>⟨by simp[Tryz.f7],Hk l c a b⟩
noncomputable abbrev CrNm:Ctx:=zR prog [(15,zh false [] ri),(22,zh false [] RQ)]
theorem Ei(l:List qd)(c:qe)(h:2*x4 l<=zu)(i:x4 l+c.cb<zu):∃e,zq CrNm Tryz.f9 [.sl 10 (l.map qd.V),.agg c.V]=some e/\QN e (Y3 l c (kG l c.names)):=by
 have f:zu=2097152:=rfl;refine kh rfl ?_;have a:=fun Y Z=>Kb l c Y Z h (by omega)
 have g:=fun Y Z=>fT l c Y Z (by omega)
 unfold Y3;by_cases b:Zw l [c]=0
 case neg=>have d:=Za b;rw[zc b];simp[zp,zE,zo,a,d,xx,Tryz.f9];exact lr _
 rw[b]at a⊢;rw[zd rfl];simp[zp,zE,zo,a,g,xx,Tryz.f9];exact qb _
theorem AJ:zg prog 9 (zh false [] (oH fun l c=>Y3 l c (kG l c.names))):=
 xy (C:=CrNm) (zU mixed ⟨W0,JF,trivial⟩) func9 false [] fun⟨l,c⟩ ⟨a,b⟩=>⟨by simp[Tryz.f9],Ei l c a b⟩
theorem M9(l:List qd)(c:qe)(a:x4 l+c.cb<zu):(QQ l c).length<=zu:=by rw[<-Ed];refine zw (GP _) ?_;have b:=ZI _ c (zf _);have d:=lu l _ (zbx (Hj l c.names));rw[zL,vB,zL];split<;>simp<;>omega
noncomputable abbrev Clh9:Ctx:=zR prog [(4,zh false [] RT),(5,zh false [] RT),(6,zh false [] (oH fun l c=>Y3 l c (QQ l c))),(7,zh false [] (oH fun l c=>Y3 l c (QQ l c))),(8,zh false [] (oH fun l c=>Y3 l c (kG l c.names))),(9,zh false [] (oH fun l c=>Y3 l c (kG l c.names))),(10,zh false [] FTq)]
theorem zaw:AM.Good Clh9 (fun g=>[10].contains g):=qw mixed ⟨D4,by simp,AA,by simp,Hi,by simp,Eh,by simp,Eb,by simp,AJ,by simp,AH,fun _=>zt _ _,trivial⟩
theorem Na:QZ Clh9 (fun g=>[10].contains g) 3 Tryz.f3:=qD func3
theorem R8(l:List qd)(c:qe)(x:qY)(h:2*x4 l<=zu)(a:x4 l+c.cb<zu)(k:x.cb+2<=zu):zq Clh9 Tryz.f3 [.sl 10 (l.map qd.V),.agg c.V,.agg x.V]=some (qS true):=by
 refine zm rfl ?_;have e:=fun Y Z=>M0 l c x Y Z h (by omega) k
 obtain⟨A,f⟩:=jc (if Zw l [c]=0 then QQ l c else[]);obtain⟨B,g⟩:=jc (if Zw l [c]=0 then kG l c.names else[]);have b:A.length<=zu:=by rw[<-f];split;exact M9 l c a;simp
 have d:B.length<=zu:=by rw[<-g];split;exact Iv l c (by omega);simp
 have i:=fun Y Z=>Eg A A Y Z b
 have j:=fun Y Z=>Eg B B Y Z d
 rw[Ee]at i j;have m:Y3 l c (QQ l c)=.wG [.sl 1 (zy A),int (Zw l [c])]:=by unfold Y3;rw[f]
 have n:Y3 l c (kG l c.names)=.wG [.sl 1 (zy B),int (Zw l [c])]:=by unfold Y3;rw[g]
 have o:∀Y Z,zh false [] (oH fun l c=>Y3 l c (QQ l c)) [.sl 10 (l.map qd.V),.agg c.V] Y Z=some (.wG [.sl 1 (zy A),int (Zw l [c])],Y,Z):=fun Y Z=>by rw[td _ l c Y Z h a,m]
 have p:∀Y Z,zh false [] (oH fun l c=>Y3 l c (kG l c.names)) [.sl 10 (l.map qd.V),.agg c.V] Y Z=some (.wG [.sl 1 (zy B),int (Zw l [c])],Y,Z):=fun Y Z=>by rw[td _ l c Y Z h a,n]
 simp only[qY.V,He]at e;simp[qY.V,e,o,p,i,j,Tryz.f3]
end Go.Q
namespace Go.AM
open Go.RowKit Go.WideShapes Go.ChangeShapes
def jP{H:Type}(P:Program):Nat->TypeId->DataW H->zb->Prop
 | 0,_,_,_=>False
 |n+1,t,d,a=>match P.underlying t with
  |some .bool=>∃b,d=.lit (.bool b)/\a=[.v (.bool b)]
  |some (.int k)=>∃i,d=.lit (.int k i)/\a=[.v (.int k i)]/\(Lit.int k i).wf=true
  |some .string=>∃s:ByteArray,d=.lit (.string s.data.toList)/\a=[.v (.string s)]/\s.size<=maxLen
  |some (.slice e)=>∃(es:List zb) (ds:List (DataW H)),((d=.nil/\ds=[])\/∃sp,d=.slice ds sp)/\a=[.sl (P.cellsOf e) es]/\es.length<=maxLen/\Zip (fun c y=>c.length=P.cellsOf e/\jP P n e y c) es ds
  |some (.struct g)=>∃ds:List (DataW H),d=.agg ds/\a.length=P.cellsOf t/\ds.length=g.size/\∀(i:Nat) f y,g[i]?=some f->ds[i]?=some y->jP P n f.type y ((a.drop f.offset).take (P.cellsOf f.type))
  |_=>False
section
variable{H:Type}{V:TypeId×Value->H}{P:Program}{w:World}{sp:Nat->Bool}{held:Bool}
theorem K4{T:List TypeId}(hT:iV P T=true):∀(I:Nat) (t:TypeId) (cs:List Value) (d:DataW H) (ps:List MemPlace),t∈T->DataW.trod V P w 0 sp held I t cs=some (d,ps) ->
  ∃l,Zip (fun x u=>wJ w (fun b=>b<w.heap.size) x u/\u.oneCell'=true) l cs/\cs.length=P.cellsOf t/\jP P I t d l
 | 0,t,cs,d,ps,_,h=>by simp[DataW.trod]at h
 |n+1,t,cs,d,ps,ht,h=>by
  have p:=zV.1 hT t ht;have one:∀{x:O} {u:Value},wJ w (fun b=>b<w.heap.size) x u->u.oneCell'=true->Zip (fun x u=>wJ w (fun b=>b<w.heap.size) x u/\u.oneCell'=true) [x] [u]:=fun E h2=>.cons ⟨E,h2⟩ .nil
  split at p
  ·rename_i A;obtain⟨b,rfl,z⟩:=DataW.trod_bool A h;simp only[Nd]at z;exact⟨[.v (.bool b)],one (.v rfl) rfl,by simpa using(by simpa using p:P.cellsOf t=1).symm,by unfold jP;rw[A];exact⟨b,z.1,rfl⟩⟩
  ·rename_i k A;obtain⟨i,rfl,z,hwf⟩:=DataW.trod_int A h;simp only[Nd]at z;exact⟨[.v (.int k i)],one (.v rfl) rfl,by simpa using(by simpa using p:P.cellsOf t=1).symm,by unfold jP;rw[A];exact⟨i,z.1,rfl,hwf⟩⟩
  ·rename_i A;obtain⟨s,rfl,z,hs⟩:=DataW.trod_string A h;simp only[Nd]at z;exact⟨[.v (.string s)],one (.v rfl) rfl,by simpa using(by simpa using p:P.cellsOf t=1).symm,by unfold jP;rw[A];exact⟨s,z.1,rfl,hs⟩⟩
  ·rename_i e A;simp only[zz,yJ,zT,List.contains_iff_mem]at p;obtain⟨⟨W,heT⟩,hce⟩:=p;rcases DataW.trod_slice A h with⟨rfl,z⟩|⟨a,len,cap,g,rest,m,hm,rfl,z,_,hlc,hcm,hel,X,_,_⟩
   ·simp only[Nd]at z;refine⟨[.sl (P.cellsOf e) []],one ?_ rfl,by simp[W],by unfold jP;rw[A];exact⟨[],[],.inl ⟨z.1,rfl⟩,rfl,by simp,.nil⟩⟩;exact wJ.sl (es:=[]) (s:=P.cellsOf e) (fun _ _=>undef) (by simp) (by simp) (by simp[maxLen]) (by simp) (by simp) (by simp)
   ·obtain rfl:m=n:=by omega
    simp only[Nd]at z;have hel':∀i (hi:i<len),∃B,w.cells? 0 (a.add (i*P.cellsOf e)) (P.cellsOf e)=some B/\DataW.trod V P w 0 sp held m e B=some (g[i]'(by omega)):=by
     intro i hi;have E:=X i hi;have h2:g[i]?=some (g[i]'(by omega)):=zl (by omega);rw[h2]at E;cases hc:w.cells? 0 (a.add (i*P.cellsOf e)) (P.cellsOf e)with
     |none=>simp[hc]at E
     |some B=>exact⟨B,rfl,by simpa[hc]using E⟩
    have hch:∀i,∃q:List Value×zb,∀hi:i<len,w.cells? 0 (a.add (i*P.cellsOf e)) (P.cellsOf e)=some q.1/\Zip (fun x u=>wJ w (fun b=>b<w.heap.size) x u/\u.oneCell'=true) q.2 q.1/\q.1.length=P.cellsOf e/\jP P m e (g[i]'(by omega)).1 q.2:=by
     intro i;by_cases hi:i<len
     ·obtain⟨B,g1,g3⟩:=hel' i hi;obtain⟨l,q1,q2,q3⟩:=K4 hT m e B (g[i]'(by omega)).1 (g[i]'(by omega)).2 heT (by rw[g3]);exact⟨(B,l),fun _=>⟨g1,q1,q2,q3⟩⟩
     ·exact⟨([],[]),fun h=>absurd h hi⟩
    let q:Nat->List Value×zb:=fun i=>Classical.choose (hch i)
    have hq:∀i (hi:i<len),w.cells? 0 (a.add (i*P.cellsOf e)) (P.cellsOf e)=some (q i).1/\Zip (fun x u=>wJ w (fun b=>b<w.heap.size) x u/\u.oneCell'=true) (q i).2 (q i).1/\(q i).1.length=P.cellsOf e/\jP P m e (g[i]'(by omega)).1 (q i).2:=fun i=>jr (hch i)
    have D:((List.range len).map fun i=>(q i).2).length=len:=by simp
    have J:∀(i:Nat) (c:zb),((List.range len).map fun i=>(q i).2)[i]?=some c->i<len/\c=(q i).2:=by
     intro i c hi;have o:i<len:=by have:=(zi.1 hi).1;simpa using this
     rw[qo,jZ o]at hi;simp at hi;exact⟨o,hi.symm⟩
    have key:wJ w (fun b=>b<w.heap.size) (.sl (P.cellsOf e) ((List.range len).map fun i=>(q i).2)) (.slice (some a) ((List.range len).map fun i=>(q i).2).length cap):=by
     refine .sl (fun i j=>((q i).1[j]?).getD undef) (by simp) (by rw[D];exact hlc) hcm (fun c hc=>?_) (fun i j c x hi K=>?_) (fun i j c x hi K=>?_)
     ·obtain⟨i,hi,rfl⟩:=qj.1 hc;have E:=hq i (yj.1 hi);rw[E.2.1.1,E.2.2.1]
     ·obtain⟨o,rfl⟩:=J i c hi;obtain⟨g1,L,g3,_⟩:=hq i o;have M:j<(q i).1.length:=by rw[<-L.1];exact(zi.1 K).1
      have C:(q i).1[j]?=some ((q i).1[j]):=zl M;obtain⟨_,g5,g6⟩:=World.cells?_some g1;have r:=g6 j (by omega);rw[ck]at r;rw[C]at r;refine⟨a,rfl,?_,?_,?_⟩
      ·have:=block_lt_of_cell r;rwa [QT]at this
      ·rw[r,C];rfl
      ·rw[C];exact(L.2 j x _ K C).2
     ·obtain⟨o,rfl⟩:=J i c hi;obtain⟨g1,L,g3,_⟩:=hq i o;have M:j<(q i).1.length:=by rw[<-L.1];exact(zi.1 K).1
      have C:(q i).1[j]?=some ((q i).1[j]):=zl M;rw[C];exact(L.2 j x _ K C).1
    rw[D]at key;refine⟨[.sl (P.cellsOf e) ((List.range len).map fun i=>(q i).2)],one key rfl,by simp[W],?_⟩;unfold jP;rw[A];refine⟨_,g.map (·.1),.inr ⟨_,z.1⟩,rfl,by rw[D];omega,by rw[D,vB,hel],fun i c y hi F=>?_⟩;obtain⟨o,rfl⟩:=J i c hi;have E:=hq i o;rw[qo,zl (by omega)]at F;simp only[zC,z6]at F;subst F;exact⟨by rw[E.2.1.1,E.2.2.1],E.2.2.2⟩
  ·rename_i fs A;simp only[zz,yJ,zV,List.contains_iff_mem]at p;obtain⟨N,hfT⟩:=p;obtain⟨xs,m,hm,z,hcl,hxl,hf⟩:=DataW.trod_struct A h;obtain rfl:m=n:=by omega
   simp only[Nd]at z;obtain⟨l,g1,L,g3⟩:=rL (P:=P) (R:=fun x u=>wJ w (fun b=>b<w.heap.size) x u/\u.oneCell'=true) (Q:=fun f l=>∀(i:Nat) y,fs[i]?=some f->(xs.map (·.1))[i]?=some y->jP P m f.type y l) fs.toList 0 (P.cellsOf t) cs N hcl (fun f G=>by
    obtain⟨i,hi⟩:=oR G;have S:=hf i f (by simpa using hi);have o:i<xs.length:=by rw[hxl];have:=(zi.1 hi).1;simpa using this
    rw[zl o]at S;obtain⟨l,q1,_,q3⟩:=K4 hT m f.type _ (xs[i]).1 (xs[i]).2 (hfT f G) S;refine⟨l,q1,fun k y hk F=>?_⟩;have hfk:=hf k f hk;rw[S]at hfk;rw[qo,<-hfk]at F;simp only[zC,z6]at F;subst F;exact q3)
   refine⟨l,⟨by omega,fun j x u K hu'=>L j x u K (by simpa using hu')⟩,hcl,?_⟩;unfold jP;rw[A];refine⟨xs.map (·.1),z.1,by omega,by rw[vB,hxl],fun i f y hi F=>?_⟩;have G:f∈fs.toList:=by
    have:fs.toList[i]?=some f:=by simpa using hi
    exact zG this
   have:=(g3 f G).2 i y hi F;simpa using this
  ·cases p
theorem oM{T:List TypeId}(g:iV P T=true){t:TypeId}{v:Value}{d:DataW H}{e:List MemPlace}{r:Reach}{base:Nat}{i:Array Field}(k:t∈T)(l:P.underlying t=some (.struct i))(m:Value.okWide P w r base t v)(h:DataW.Trod V P w 0 sp held t v d e) :
  ∃(n:Nat) (a:zb),jP P n t d a/\wJ w (fun b=>b<w.heap.size) (.agg a) v:=by
 obtain⟨n,o⟩:=h;obtain⟨a,f,y,p⟩:=K4 g n t v.cells.toList d e k o;obtain⟨cs,rfl,q⟩:=okWide_struct l m;exact⟨n,a,p,.agg (by have:=f.1;simpa[Value.cells]using this) (fun j s u x c=>(f.2 j s u x (by simpa[Value.cells]using c)).1)⟩
theorem R9{T:List TypeId}(x:iV P T=true){t:TypeId}{v:Value}{d:DataW H}{y:List MemPlace}{r:Reach}{base:Nat}(z:t∈T)(A:¬∃f,P.underlying t=some (.struct f))(i:Value.okWide P w r base t v)(h:DataW.Trod V P w 0 sp held t v d y) :
  ∃(n:Nat) (p:O),jP P n t d [p]/\wJ w (fun b=>b<w.heap.size) p v:=by
 obtain⟨n,B⟩:=h;obtain⟨j,e,k,g⟩:=K4 x n t v.cells.toList d y z B;have c:=zV.1 x t z;have m:P.cellsOf t=1:=by
  split at c
  ·simpa using c
  ·simpa using c
  ·simpa using c
  ·simp only[zz,yJ]at c;exact c.1.1
  ·rename_i f a;exact absurd ⟨f,a⟩ A
  ·cases c
 rw[m]at k
 match j,e,g with
 |[],e,g=>have:=e.1;rw[k]at this;simp at this
 |p::q::l,e,g=>have:=e.1;rw[k]at this;simp at this
 |[p],e,g=>
  obtain⟨u,o,C,D⟩:=Yk e;have s:v=u:=by
   cases v with
   |agg cs=>
    exfalso;split at c
    ·rename_i a;simp[Value.okWide,a,Cell.okWide,Cell.ok]at i
    ·rename_i a;simp[Value.okWide,a,Cell.okWide,Cell.ok]at i
    ·rename_i a;simp[Value.okWide,a,Cell.okWide,Cell.ok]at i
    ·rename_i a;simp[Value.okWide,a,Cell.okWide,Cell.ok]at i
    ·rename_i f a;exact A ⟨f,a⟩
    ·cases c
   |_=>simpa[Value.cells]using o
  subst s;exact⟨n,p,g,C⟩
end
end Go.AM
namespace Go.AM
def JG(P:Program)(t:TypeId):Option (List (TypeId×Nat×Nat)):=match P.underlying t with
 |some (.struct a)=>some (a.toList.map fun f=>(f.type,f.offset,P.cellsOf f.type))
 |_=>none
def ae{H:Type}(P:Program)(n:Nat)(pvs:zb):List (TypeId×Nat×Nat)->List (DataW H)->Prop
 |[],[]=>True
 |(t,o,c)::l,y::ds=>jP P n t y ((pvs.drop o).take c)/\ae P n pvs l ds
 |_,_=>False
section
variable{H:Type}{P:Program}{n:Nat}{t:TypeId}{d:DataW H}{pvs:zb}
theorem oN(n:Nat)(pvs:zb):∀(a:List Field) (ds:List (DataW H)),ds.length=a.length->(∀(i:Nat) f y,a[i]?=some f->ds[i]?=some y->jP P n f.type y ((pvs.drop f.offset).take (P.cellsOf f.type)))->ae P n pvs (a.map fun f=>(f.type,f.offset,P.cellsOf f.type)) ds
 |[],[],_,_=>trivial
 |f::a,y::ds,b,h=>⟨h 0 f y rfl rfl,oN n pvs a ds (by simpa using b) fun i f' c d e=>h (i+1) f' c (by simpa using d) (by simpa using e)⟩
theorem K5{l:List (TypeId×Nat×Nat)}(hs:JG P t=some l):∃a,P.underlying t=some (.struct a)/\l=a.toList.map fun f=>(f.type,f.offset,P.cellsOf f.type):=by
 unfold JG at hs;split at hs
 ·rename_i a b;injection hs with hs
  exact⟨a,b,hs.symm⟩
 ·cases hs
theorem QD{l:List (TypeId×Nat×Nat)}(hs:JG P t=some l)(h:jP P n t d pvs):∃(m:Nat) (ds:List (DataW H)),n=m+1/\d=.agg ds/\pvs.length=P.cellsOf t/\ae P m pvs l ds:=by
 obtain⟨a,b,rfl⟩:=K5 hs;cases n with
 |zero=>exact h.elim
 |succ m=>unfold jP at h;rw[b]at h;obtain⟨ds,c,e,g,j⟩:=h;exact⟨m,ds,rfl,c,e,oN m pvs a.toList ds (by simpa using g) fun i f y k o=>j i f y (by simpa using k) o⟩
theorem wL{o c:Nat}{l:List (TypeId×Nat×Nat)}{ds:List (DataW H)}(h:ae P n pvs ((t,o,c)::l) ds):∃y a,ds=y::a/\jP P n t y ((pvs.drop o).take c)/\ae P n pvs l a:=by
 cases ds with
 |nil=>exact h.elim
 |cons y a=>exact⟨y,a,rfl,h.1,h.2⟩
theorem WJ{ds:List (DataW H)}(h:ae P n pvs [] ds):ds=[]:=by
 cases ds with
 |nil=>rfl
 |cons y a=>exact h.elim
theorem zdc(a:P.underlying t=some .bool)(h:jP P n t d pvs):∃b,d=.lit (.bool b)/\pvs=[.v (.bool b)]:=by
 cases n with
 |zero=>exact h.elim
 |succ m=>unfold jP at h;rw[a]at h;exact h
theorem ag{k:IntKind}(a:P.underlying t=some (.int k))(h:jP P n t d pvs):∃i,d=.lit (.int k i)/\pvs=[.v (.int k i)]/\(Lit.int k i).wf=true:=by
 cases n with
 |zero=>exact h.elim
 |succ m=>unfold jP at h;rw[a]at h;exact h
theorem vd(a:P.underlying t=some .string)(h:jP P n t d pvs):∃l:za,d=.lit (.string l)/\pvs=[str l]/\l.length<=maxLen:=by
 cases n with
 |zero=>exact h.elim
 |succ m=>unfold jP at h;rw[a]at h;obtain⟨s,b,c,e⟩:=h;exact⟨s.data.toList,b,by rw[c],e⟩
theorem vZ{e:TypeId}(a:P.underlying t=some (.slice e))(h:jP P n t d pvs):∃(m:Nat) (es:List zb) (ds:List (DataW H)),n=m+1/\((d=.nil/\ds=[])\/∃sp,d=.slice ds sp)/\pvs=[.sl (P.cellsOf e) es]/\es.length<=maxLen/\Zip (fun c y=>c.length=P.cellsOf e/\jP P m e y c) es ds:=by
 cases n with
 |zero=>exact h.elim
 |succ m=>unfold jP at h;rw[a]at h;obtain⟨es,ds,b,f,g,i⟩:=h;exact⟨m,es,ds,rfl,b,f,g,i⟩
theorem xg{α:Type}{V:α->zb}{w:α->Nat}{b:DataW H->Nat}{R:zb->DataW H->Prop}(d:∀c y,R c y->∃a,c=V a/\w a<=b y):∀{es:List zb} {ds:List (DataW H)},Zip R es ds->∃l:List α,es=l.map V/\(l.map w).sum<=(ds.map b).sum
 |[],[],_=>⟨[],rfl,by simp⟩
 |[],_::_,h=>by have:=h.1;simp at this
 |_::_,[],h=>by have:=h.1;simp at this
 |c::es,y::ds,h=>by obtain⟨a,rfl,k⟩:=d c y (h.2 0 c y rfl rfl);obtain⟨l,rfl,m⟩:=xg d (es:=es) (ds:=ds) ⟨by have:=h.1;simpa using this,fun i e f g j=>h.2 (i+1) e f (by simpa using g) (by simpa using j)⟩;exact⟨a::l,rfl,by simp;omega⟩
end
end Go.AM
