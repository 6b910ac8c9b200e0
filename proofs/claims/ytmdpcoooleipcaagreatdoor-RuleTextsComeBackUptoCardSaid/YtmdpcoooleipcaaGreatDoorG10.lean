/- Lemmas. -/
import Derived.Maps.RangeRun
import Derived.Orders
import Derived.Shelf.Strings.Builder1
import Derived.Shelf.Strings.OnBuilder
import Derived.Shelf.Strings.Replace
import Derived.Shelf.Strings.Repeat
import Derived.Shelf.Strings.Trim
import Derived.Shelf.Strconv.Itoa3
import Derived.Shelf.Small.Wraps
import Derived.Ground.Names2Prog
import Derived.Test.YtmdpcoooleipcaaGreatDoorProg
import Derived.Test.YtmdpcoooleipcaaGreatDoorG9
set_option maxRecDepth 100000
set_option maxHeartbeats 4000000
open Go Proofs Proofs.YtmdpcoooleipcaaGreatDoor Proofs.Tryz RowKit AM SpanLaw Q Zz
namespace Go.Q
theorem iK{α:Type}{r:α->α->Prop}(e:∀x,¬r x x)(f:∀x y,r x y->¬r y x):∀{a b:List α},a.Perm b->a.Pairwise r->b.Pairwise (fun x y=>¬r y x)->b=a
 |[],b,Y,_,_=>List.Perm.eq_nil Y.symm
 |x::a,b,Y,c,d=>by
  cases b with
  |nil=>simpa using Y.length_eq
  |cons y b=>
   rw[oa]at c d;have g:y=x:=by
    rcases zJ.1 (Y.symm.subset (List.mem_cons_self (a:=y) (l:=b)))with h|h
    ·exact h
    ·have i:=c.1 y h;rcases zJ.1 (Y.subset (List.mem_cons_self (a:=x) (l:=a)))with h4|h4
     ·exact h4.symm
     ·exact absurd i (d.1 x h4)
   subst g;rw[iK e f (List.Perm.cons_inv Y) c.2 d.2]
open Classical in
noncomputable def GJ (x y:zb):Int:=if h:∃p:Val×Val,x=p.1.V/\y=p.2.V then qJ h.choose.1 h.choose.2 else 0
theorem VG(a b:Val):GJ a.V b.V=qJ a b:=by have h:∃p:Val×Val,a.V=p.1.V/\b.V=p.2.V:=⟨(a,b),rfl,rfl⟩;rw[GJ,dif_pos h,<-vE h.choose_spec.1,<-vE h.choose_spec.2]
def GK(x:zb):Prop:=∃a:Val,x=a.V/\a.vb<=zX
theorem GL:sr prog 48 5 GJ GK:=
 ⟨fun args w=>enters_of func48 (by kernel_rfl) rfl args w,_,ZY zX,fun x y _ _ d e=>by obtain⟨a,rfl,c⟩:=d;obtain⟨b,rfl,f⟩:=e;rw[VG];exact YT zX a b _ _ ⟨c,c,f⟩⟩
theorem nr:zh prog 55 (QT 5 48 GJ GK):=
 YB (by omega) ⟨_,func55,by decide,by kernel_rfl⟩ Tryz.ET GL
theorem sY(l:List Val):Z9 GJ (l.map Val.V) where
 irrefl x d:=by obtain⟨s,hs,rfl⟩:=zZ.1 d;rw[VG,Je.refl];omega
 trans x d y g z h e f:=by obtain⟨a,i,rfl⟩:=zZ.1 d;obtain⟨b,j,rfl⟩:=zZ.1 g;obtain⟨c,k,rfl⟩:=zZ.1 h;rw[VG]at e f⊢;exact Je.trans e f
 ntrans x d y g z h e f:=by obtain⟨a,i,rfl⟩:=zZ.1 d;obtain⟨b,j,rfl⟩:=zZ.1 g;obtain⟨c,k,rfl⟩:=zZ.1 h;rw[VG]at e f⊢;exact Je.ntrans e f
theorem fQ(l:List Val):∃m:List Val,vq GJ (l.map Val.V)=m.map Val.V/\m.Perm l/\m.Pairwise (fun a b=>¬qJ b a<0):=by
 obtain⟨m,f,d⟩:=VE (ZN (sY l));refine⟨m,d,f,?_⟩;have e:=Wu (sY l);rw[d,tl]at e;refine e.imp_of_mem fun{a b} g h c=>?_
 rw[VG]at c;omega
noncomputable def ke (l:List Val):List Val:=(fQ l).choose
theorem vc(l:List Val):vq GJ (l.map Val.V)=(ke l).map Val.V/\(ke l).Perm l/\(ke l).Pairwise (fun a b=>¬qJ b a<0):=(fQ l).choose_spec
theorem rq{l:List Val}(h:Dg l):ke l=l:=
 iK (r:=fun a b=>qJ a b<0) (fun x c=>by rw[Je.refl]at c;omega) (fun x y d e=>by have:=Je.trans d e;rw[Je.refl]at this;omega) (vc l).2.1.symm h (vc l).2.2
theorem nt{a b:List Val}(h:a.Perm b):kf a=kf b:=by
 induction h with
 |nil=>rfl
 |cons x _ c=>simp only[kf,c]
 |swap x y l=>simp only[kf];omega
 |trans _ _ d e=>rw[d,e]
theorem ru{l:List Val}(q:kf l<=zX){Y:Hp}{Z:Nat}{v:O}(f:qV Y Z 48 5 v (l.map Val.V)) :
  ∃Y',QT 5 48 GJ GK [v,.fn (.func 48) [] []] Y Z=some (.qS [],Y',Z)/\qV Y' Z 48 5 v ((ke l).map Val.V)/\∀id,(∀n,v≠.own id 0 n)->Y' id=Y id:=by
 have a:=(vc l).1;have g:=y7 l;rcases f with⟨rfl,h⟩|⟨id,hid,rfl,d⟩
 ·refine⟨Y,rfl,.inl ⟨rfl,?_⟩,fun _ _=>rfl⟩;rw[<-a,h];rfl
 ·by_cases e:l=[]
  ·subst e;have:ke []=[]:=by
    have:((ke []).map Val.V)=[]:=by rw[<-a];rfl
    simpa using this
   rw[this];exact⟨Y,rfl,.inr ⟨id,hid,rfl,d⟩,fun _ _=>rfl⟩
  ·have b:¬(l.map Val.V).length=0:=by simpa using e
   have c:((ke l).map Val.V).length=(l.map Val.V).length:=by rw[<-a,Wv (sY l)]
   have i:zX=268435456:=rfl;refine⟨qb Y id (some ⟨48,5,true,(ke l).map Val.V⟩),?_,.inr ⟨id,hid,by rw[c],by simp⟩,fun j k=>zc _ _ _ _ (by rintro rfl;exact k _ rfl)⟩;show(if(l.map Val.V).length=0 then _ else _)=_;rw[zg b,d];simp only;have m:((l.map Val.V).drop 0).take (l.map Val.V).length=l.map Val.V:=by rw[jd,js]
   have o:(l.map Val.V).drop (0+(l.map Val.V).length)=[]:=by rw[zo,zE]
   rw[m,o,zl ⟨rfl,rfl,rfl,by simp,by simp;omega,sY l,fun x p=>by obtain⟨s,hs,rfl⟩:=zZ.1 p;exact⟨s,rfl,by have:=kA hs;omega⟩⟩,a]
   simp
noncomputable def FFd (out:za×Val->za×Val->O):zb->Option O:=qD (α:=(za×Val)×(za×Val)) (fun a=>[.agg (q6 a.1),.agg (q6 a.2)]) (fun _=>True) (fun a=>out a.1 a.2)
theorem Dp(out:za×Val->za×Val->O)(a b:za×Val)(Y:Hp)(Z:Nat):zp false [] (FFd out) [.agg (q6 a),.agg (q6 b)] Y Z=some (out a b,Y,Z):=
 sn (a,b) _ _ (by simp[zt,zS,qe,qh]) (fun x y e=>by
  obtain⟨f,g⟩:=x;obtain⟨h,i⟩:=y;simp only[zn,z7,O.agg.injEq]at e;rw[QY (a:=f) (b:=h) (by simp[q6,e]),QY (a:=g) (b:=i) (by simp[q6,e])]) trivial (.inr (by have c:=ZF a.2;have d:=ZF b.2;simp only[O.noOwn]at c d;simp only[wC,VV,O.noOwn,AK,O.yy,Bool.false_or,c,d,Bool.and_true]))
noncomputable def GM (x y:zb):Int:=match(x[0]?:Option O),(y[0]?:Option O)with
 |some (O.v (.string a)),some (O.v (.string b))=>jb a.data.toList b.data.toList
 |_,_=>0
theorem VH(a b:za×Val):GM (q6 a) (q6 b)=jb a.1 b.1:=by simp[GM,q6]
noncomputable abbrev Ccg1:Ctx:=qp prog [(60,zp false [] (E5 jb))]
theorem GN:AM.Good Ccg1 (fun g=>[60].contains g):=qH mixed ⟨kZ,fun _=>zv _ _,trivial⟩
theorem GO{out:za×Val->za×Val->O}{args:zb}{r:O}(h:FFd out args=some r):∃a b,args=[.agg (q6 a),.agg (q6 b)]/\r=out a b:=by obtain⟨⟨a,b⟩,rfl,_,rfl⟩:=zQ h;exact⟨a,b,rfl,rfl⟩
theorem rv:zh prog 147 (zp false [] (FFd fun a b=>int (jb a.1 b.1))):=
 jo (fn:=f147) GN (wL func147) false [] _ fun args r h=>by obtain⟨a,b,rfl,rfl⟩:=GO h;exact⟨qm (zi 2) (by decide),_,zw rfl (by simp[q6,f147]),wy _⟩
def GP(x:zb):Prop:=∃a:za×Val,x=q6 a
theorem GQ:sr prog 147 6 GM GP:=
 ⟨fun args w=>enters_of func147 (by kernel_rfl) rfl args w,_,rv,fun x y _ _ c d=>by obtain⟨a,rfl⟩:=c;obtain⟨b,rfl⟩:=d;rw[VH];exact Dp _ a b _ _⟩
theorem nu:zh prog 146 (QT 6 147 GM GP):=
 YB (by omega) ⟨_,func146,by decide,by kernel_rfl⟩ Tryz.EU GQ
theorem sZ(l:List (za×Val)):Z9 GM (l.map q6) where
 irrefl x d:=by obtain⟨s,hs,rfl⟩:=zZ.1 d;rw[VH,vK.refl];omega
 trans x d y g z h e f:=by obtain⟨a,i,rfl⟩:=zZ.1 d;obtain⟨b,j,rfl⟩:=zZ.1 g;obtain⟨c,k,rfl⟩:=zZ.1 h;rw[VH]at e f⊢;exact vK.trans e f
 ntrans x d y g z h e f:=by obtain⟨a,i,rfl⟩:=zZ.1 d;obtain⟨b,j,rfl⟩:=zZ.1 g;obtain⟨c,k,rfl⟩:=zZ.1 h;rw[VH]at e f⊢;exact vK.ntrans e f
theorem fR(l:List (za×Val)):∃m:List (za×Val),vq GM (l.map q6)=m.map q6/\m.Perm l/\m.Pairwise (fun a b=>¬jb b.1 a.1<0):=by
 obtain⟨m,f,d⟩:=VE (ZN (sZ l));refine⟨m,d,f,?_⟩;have e:=Wu (sZ l);rw[d,tl]at e;refine e.imp_of_mem fun{a b} g h c=>?_
 rw[VH]at c;omega
noncomputable def zx (l:List (za×Val)):List (za×Val):=(fR l).choose
theorem ZC(l:List (za×Val)):vq GM (l.map q6)=(zx l).map q6/\(zx l).Perm l/\(zx l).Pairwise (fun a b=>¬jb b.1 a.1<0):=(fR l).choose_spec
theorem dM{l:List (za×Val)}(h:sb l):zx l=l:=
 iK (r:=fun a b=>jb a.1 b.1<0) (fun x d=>by rw[vK.refl]at d;omega) (fun x y e f=>by have:=vK.trans e f;rw[vK.refl]at this;omega) (ZC l).2.1.symm (h.imp fun{a b} c=>(iG a.1 b.1).2 c) (ZC l).2.2
theorem Dq{a b:List (za×Val)}(h:a.Perm b):QM a=QM b:=by
 induction h with
 |nil=>rfl
 |cons x _ c=>obtain⟨x,y⟩:=x;simp only[QM,c]
 |swap x y l=>obtain⟨x,f⟩:=x;obtain⟨y,g⟩:=y;simp only[QM];omega
 |trans _ _ d e=>rw[d,e]
theorem ry{l:List (za×Val)}(p:l.length<=zX){Y:Hp}{Z:Nat}{v:O}(f:qV Y Z 65 6 v (l.map q6)) :
  ∃Y',QT 6 147 GM GP [v,.fn (.func 147) [] []] Y Z=some (.qS [],Y',Z)/\qV Y' Z 65 6 v ((zx l).map q6)/\∀id,(∀n,v≠.own id 0 n)->Y' id=Y id:=by
 have a:=(ZC l).1;rcases f with⟨rfl,g⟩|⟨id,hid,rfl,d⟩
 ·refine⟨Y,rfl,.inl ⟨rfl,?_⟩,fun _ _=>rfl⟩;rw[<-a,g];rfl
 ·by_cases e:l=[]
  ·subst e;have:zx []=[]:=by
    have:((zx []).map q6)=[]:=by rw[<-a];rfl
    simpa using this
   rw[this];exact⟨Y,rfl,.inr ⟨id,hid,rfl,d⟩,fun _ _=>rfl⟩
  ·have b:¬(l.map q6).length=0:=by simpa using e
   have c:((zx l).map q6).length=(l.map q6).length:=by rw[<-a,Wv (sZ l)]
   have h:zX=268435456:=rfl;refine⟨qb Y id (some ⟨65,6,true,(zx l).map q6⟩),?_,.inr ⟨id,hid,by rw[c],by simp⟩,fun j i=>zc _ _ _ _ (by rintro rfl;exact i _ rfl)⟩;show(if(l.map q6).length=0 then _ else _)=_;rw[zg b,d];simp only;have k:((l.map q6).drop 0).take (l.map q6).length=l.map q6:=by rw[jd,js]
   have m:(l.map q6).drop (0+(l.map q6).length)=[]:=by rw[zo,zE]
   rw[k,m,zl ⟨rfl,rfl,rfl,by simp,by simp;omega,sZ l,fun x o=>by obtain⟨s,hs,rfl⟩:=zZ.1 o;exact⟨s,rfl⟩⟩,a]
   simp
end Go.Q
namespace Go.AM
variable{dr:Prop}
structure Hid (n1 i m:Nat) (g:List (List O)×Option (List O)) (w:World) (S:Nat->Prop) (G:Nat->GI) (Y:Hp) (Z:Nat):Prop where
 li:i<Z
 lm:m<Z
 s1:(G i).s=1
 new:n1<=(G i).g
 ai:Ym S G Y (G i).g
 am:Ym S G Y (G m).g
 obj:∃(en:Array MapEntry) (clock:Nat) (seen:Array Nat),w.heap[(G m).g]?=some (.map en clock)/\Stamped en clock/\w.heap[(G i).g]?=some (.mapIter (some (G m).g) clock seen clock) /\
  g.1.length=(leftOf en seen).toList.length/\(∀(j:Nat) (c:List O) (e:MapEntry),g.1[j]?=some c->(leftOf en seen).toList[j]?=some e->VY w S c e) /\
  ∀c,g.2=some c->∃e Tr,e∈en.toList/\seen=Array.push Tr e.born/\VY w S c e
abbrev GS:=List zb×Option zb
section
variable{C:Ctx}{pf:FuncId->Bool}{N i m:Nat}
def WpG(dr:Prop)(C:Ctx)(N i m:Nat)(c:Code)(st:St)(g:GS)(K:Exit->St->GS->Prop):Prop:=
 ∀(d:World) (j L:Nat->Prop) (k:Nat) (l:Nat->GI) (f:Nat) (a:Act) (w:World) (Q:Exit->Act->World->Prop) (S:Nat->Prop) (G:Nat->GI),f<=d.heap.size->xo dr C.P d j L N k l f st S G a w->Hid d.heap.size i m g w S G st.Y st.Z ->
  (∀e b n o h S' G',K e b n->xo dr C.P d j L N k l f b S' G' o h->Hid d.heap.size i m n h S' G' b.Y b.Z->Q e o h)->c.wpIn Fence.wide 0 C.P Q a w
def Dr(dr:Prop)(C:Ctx)(N i m:Nat)(y:Code)(K:Exit->St->GS->Prop)(e:Exit)(st:St)(g:GS):Prop:=match e with
 | .normal=>WpG dr C N i m y st g K
 |e=>K e st g
@[simp]theorem Uz(y:Code)(K:Exit->St->GS->Prop)(st:St)(g:GS):Dr dr C N i m y K .normal st g=WpG dr C N i m y st g K:=rfl
@[simp]theorem UA(y:Code)(K:Exit->St->GS->Prop)(st:St)(g:GS):Dr dr C N i m y K .ret st g=K .ret st g:=rfl
@[simp]theorem UC(y:Code)(K:Exit->St->GS->Prop)(j:Nat)(st:St)(g:GS):Dr dr C N i m y K (.exit j) st g=K (.exit j) st g:=rfl
def rz(id:Nat)(K:Exit->St->GS->Prop)(e:Exit)(st:St)(g:GS):Prop:=match e with
 | .exit j=>if j=id then K .normal st g else K (.exit j) st g
 |e=>K e st g
@[simp]theorem Sa(id:Nat)(K:Exit->St->GS->Prop)(st:St)(g:GS):rz id K .normal st g=K .normal st g:=rfl
@[simp]theorem Sb(id:Nat)(K:Exit->St->GS->Prop)(st:St)(g:GS):rz id K .ret st g=K .ret st g:=rfl
@[simp]theorem Sc(id j:Nat)(K:Exit->St->GS->Prop)(st:St)(g:GS):rz id K (.exit j) st g=if j=id then K .normal st g else K (.exit j) st g:=rfl
def rA(I:Nat->St->GS->Prop)(n:Nat)(K:Exit->St->GS->Prop)(e:Exit)(st:St)(g:GS):Prop:=match e with
 | .normal=>∃k,k<n/\I k st g
 |e=>K e st g
@[simp]theorem Sd(I:Nat->St->GS->Prop)(n:Nat)(K:Exit->St->GS->Prop)(st:St)(g:GS):rA I n K .normal st g=∃k,k<n/\I k st g:=rfl
@[simp]theorem Se(I:Nat->St->GS->Prop)(n:Nat)(K:Exit->St->GS->Prop)(st:St)(g:GS):rA I n K .ret st g=K .ret st g:=rfl
@[simp]theorem Sf(I:Nat->St->GS->Prop)(n j:Nat)(K:Exit->St->GS->Prop)(st:St)(g:GS):rA I n K (.exit j) st g=K (.exit j) st g:=rfl
def Qt(a:Array Oper):Nat->Array Bool->List (List Nat)
 | 0,_=>[[]]
 |f+1,b=>if(Region.ready .any a b).isEmpty=true then[[]]else(Region.ready .any a b).flatMap fun i=>(Qt a f (b.setIfInBounds i true)).map (i::·)
theorem fS(ops:Array Oper):∀(f t:Nat) (ls:Array Bool),Region.linearise.go .any ops f t ls []∈Qt ops f ls
 | 0,t,ls=>by simp[Region.linearise.go,Qt]
 |f+1,t,ls=>by
  simp only[Region.linearise.go];change (match(Region.ready .any ops ls)[t % (Region.ready .any ops ls).length]? with
   |some i=>Region.linearise.go .any ops f (t/(Region.ready .any ops ls).length) (ls.setIfInBounds i true) [i]
   |none=>[].reverse)∈Qt ops (f+1) ls
  unfold Qt;cases hi:(Region.ready .any ops ls)[t % (Region.ready .any ops ls).length]? with
  |none=>
   have hnil:Region.ready .any ops ls=[]:=by
    cases hr:Region.ready .any ops ls with
    |nil=>rfl
    |cons x xs=>rw[hr]at hi;have hlt:t % (x::xs).length<(x::xs).length:=Nat.mod_lt _ (by simp);simp at hi;simp at hlt;omega
   rw[hnil];simp
  |some i=>
   have hm:=zI hi;rw[zg (by intro he;rw[List.isEmpty_iff]at he;rw[he]at hm;cases hm)]
   simp only[];rw[linearise_go_acc,List.reverse_singleton,List.singleton_append];exact List.mem_flatMap.2 ⟨i,hm,zZ.2 ⟨_,fS ops f _ _,rfl⟩⟩
theorem Wp.gd(hm:C.P.follows .mixedOrders=true){id:Nat}{ops:Array Oper}{st:St}{K:Exit->St->Prop}(h:∀l∈Qt ops ops.size (Array.replicate ops.size false),KH dr C N ops l st (Zo K)):Wp dr C N (.region id ops true) st K:=
 fun w0 S0 L Z0 G0 n0 a w Q _ hs hQ=>wpIn_region_draw fun t=>by rw[hm];exact h _ (by simp only[Region.schedule,Bool.true_or,qa,Region.linearise];exact fS ops _ _ _) w0 S0 L Z0 G0 n0 a _ Q hs.drew fun st' a' w' hk hs'=>hQ .normal st' a' w' hk hs'
theorem KH.ord(c:j9 dr C pf){a:Array Oper}(l:List Nat){st:St}{K:St->Prop}(e:l.map (fun i=>a[i]?)=(l.filterMap fun i=>a[i]?).map some)(f:a.toList.all (fun o=>match o.dst with|some d=>decide (d<N)|none=>true)=true)(h:bV C a (l.filterMap fun i=>a[i]?) st K):KH dr C N a l st K:=by
 rw[<-yo l];refine KH.pre c e (qc.2 fun o g=>qc.1 f o ?_) ?_
 ·obtain⟨i,_,j⟩:=List.mem_filterMap.1 g;exact Array.mem_toList_iff.2 (ae j)
 ·obtain⟨b,k,m⟩:=h;exact⟨b,k,KH.nil m⟩
end
end Go.AM
namespace Go.Q
theorem nv{Y:Hp}{Z:Nat}{v:O}{l:List Val}(f:qV Y Z 48 5 v (l.map Val.V))(x:Val)(g:l.length<100000000000):∃Y2,yM prog (qb Y Z (some ⟨48,5,true,[x.V]⟩)) (Z+1) 22 22 v (.own Z 0 1)=some (.own (Z+1) 0 (l.length+1),Y2,Z+2)/\qV Y2 (Z+2) 48 5 (.own (Z+1) 0 (l.length+1)) ((l++[x]).map Val.V)/\∀j,j<Z->(∀n,v≠.own j 0 n)->Y2 j=Y j:=by
 have a:=f.jt (P:=prog) (t:=22) (c:=x.V) el22 sz48 by48 ze48 (by simp) (by omega) (by simp[maxLen];omega) (by simp;omega);have b:=qV.after (Y:=Y) (Z:=Z) (e:=48) (s:=5) (v:=v) (xs:=l.map Val.V) (c:=x.V) (tmp:=some ⟨48,5,true,[x.V]⟩);rw[yK]at a;refine⟨_,a,?_,fun j h d=>?_⟩
 ·rw[JI];simpa using b
 ·rw[wA _ _ _ _ (by omega),yf f _ j d,wA _ _ _ _ (by omega)]
theorem _root_.Go.AM.qV.cell{Y:Hp}{Z e s:Nat}{v:O}{xs:List zb}(h:qV Y Z e s v xs):v.we=true:=by rcases h with⟨rfl,_⟩|⟨_,_,rfl,_⟩<;>rfl
theorem dN{cs:zb}{Y:Hp}{Z:Nat}{v:O}{l:List Val}(b:qV Y Z 48 5 v (l.map Val.V))(a:Y 0=some (zN TJ cs))(k:Int)(Z':Nat):lZ TJ cs (.agg (Val.mk k 0 [] l []).V) (.agg [int k,int 0,str [],v,.nil]) Y Z':=by
 have c:=wc b a rfl;rcases b with⟨rfl,d⟩|⟨id,hid,rfl,f⟩
 ·have:l=[]:=by simpa using d
  subst this;exact qB rfl a xw rfl
 ·have g:AM.freeze Y (.agg [int k,int 0,str [],.own id 0 (l.map Val.V).length,.nil])=some (.agg [int k,int 0,str [],.sl 5 (l.map Val.V),.nil],qb Y id none):=by simp[AM.freeze,zS,qe,qh,f];exact qv (by simp)
  refine qB g ?_ xw ?_
  ·rw[zc _ _ _ _ (fun e=>c _ (by rw[<-e]))];exact a
  ·simp[tZ,b9,Lz,wa,Val.kind,Val.n,Val.s,Val.items,Val.fields]
theorem ny{cs:zb}{Y:Hp}{Z:Nat}{v:O}{l:List (za×Val)}(b:qV Y Z 65 6 v (l.map q6))(a:Y 0=some (zN TJ cs))(k:Int)(Z':Nat):lZ TJ cs (.agg (Val.mk k 0 [] [] l).V) (.agg [int k,int 0,str [],.nil,v]) Y Z':=by
 have c:=wc b a rfl;rcases b with⟨rfl,d⟩|⟨id,hid,rfl,f⟩
 ·have:l=[]:=by simpa using d
  subst this;exact qB rfl a xw rfl
 ·have g:AM.freeze Y (.agg [int k,int 0,str [],.nil,.own id 0 (l.map q6).length])=some (.agg [int k,int 0,str [],.nil,.sl 6 (l.map q6)],qb Y id none):=by simp[AM.freeze,zS,qe,qh,f];exact qv (by simp)
  refine qB g ?_ xw ?_
  ·rw[zc _ _ _ _ (fun e=>c _ (by rw[<-e]))];exact a
  ·simp[tZ,b9,Lz,wa,Val.kind,Val.n,Val.s,Val.items,Val.fields]
noncomputable abbrev Y6 (s:za) (k:Nat) (st:Jst):Val×Jst:=QV zx s k st
noncomputable def aO (k:Nat):AM.Spec:=mJ aU (fun s st _=>s.length-st.p<k) (fun s st _=>(Y6 s k st).2) (fun s st _=>.agg (Y6 s k st).1.V)
theorem XB{k:Nat}{s:za}{st:Jst}{Y:Hp}{id Z:Nat}(a:Y id=some (qG s st))(hs:s.length<=1048576)(Y':st.p<=s.length)(b:s.length-st.p<k):aO k [.ref id 0 0] Y Z=some (.agg (Y6 s k st).1.V,qb Y id (some (qG s (Y6 s k st).2)),Z):=vF kq (fun _=>rfl) () a hs Y' b
noncomputable def MJ (k:Nat):AM.Spec:=mJ aU (fun s st _=>yD s st=91/\s.length-st.p<=k) (fun s st _=>(vt s (Y6 s k) st).2) (fun s st _=>.agg (Val.mk 4 0 [] (vt s (Y6 s k) st).1 []).V)
theorem Ac{k:Nat}{s:za}{st:Jst}{Y:Hp}{id Z:Nat}(a:Y id=some (qG s st))(hs:s.length<=1048576)(Y':st.p<=s.length)(b:yD s st=91)(c:s.length-st.p<=k):MJ k [.ref id 0 0] Y Z=some (.agg (Val.mk 4 0 [] (vt s (Y6 s k) st).1 []).V,qb Y id (some (qG s (vt s (Y6 s k) st).2)),Z):=vF kq (fun _=>rfl) () a hs Y' ⟨b,c⟩
noncomputable def MK (k:Nat):AM.Spec:=mJ aU (fun s st _=>yD s st=123/\s.length-st.p<=k) (fun s st _=>(ZQ s (Y6 s k) st).2) (fun s st _=>.agg (Val.mk 5 0 [] [] (zx (ZQ s (Y6 s k) st).1)).V)
theorem Ad{k:Nat}{s:za}{st:Jst}{Y:Hp}{id Z:Nat}(a:Y id=some (qG s st))(hs:s.length<=1048576)(Y':st.p<=s.length)(b:yD s st=123)(c:s.length-st.p<=k):MK k [.ref id 0 0] Y Z=some (.agg (Val.mk 5 0 [] [] (zx (ZQ s (Y6 s k) st).1)).V,qb Y id (some (qG s (ZQ s (Y6 s k) st).2)),Z):=vF kq (fun _=>rfl) () a hs Y' ⟨b,c⟩
def nA(s:za)(f:Jst->Val×Jst):Prop:=∀st,st.p<=s.length->st.p<=(f st).2.p/\(f st).2.p<=s.length/\(f st).1.vb<=(f st).2.p-st.p+1
theorem VI(l:List Val)(x:Val):kf (l++[x])=kf l+x.vb:=by
 induction l with
 |nil=>simp[kf]
 |cons y l a=>simp only[qg,kf,a];omega
theorem nB(l:List (za×Val))(x:za×Val):QM (l++[x])=QM l+(x.1.length+x.2.vb):=by
 induction l with
 |nil=>simp[QM]
 |cons y l a=>obtain⟨b,c⟩:=y;simp only[qg,QM,a];omega
theorem Dt{s:za}{f:Jst->Val×Jst}(a:nA s f):∀(k:Nat) (l:List Val) (st:Jst),st.p<=s.length->st.p<=(oz s f k l st).2.p/\(oz s f k l st).2.p<=s.length/\kf (oz s f k l st).1<=kf l+((oz s f k l st).2.p-st.p)+1
 | 0,l,st,h=>by simp only[oz];exact⟨zi _,h,by omega⟩
 |k+1,l,st,h=>by
  rw[oz];split
  ·exact⟨zi _,h,by simp only;omega⟩
  ·obtain⟨j,d,m⟩:=a st h;obtain⟨n,e,_⟩:=kQ (s:=s) (st:=(f st).2) d;simp only;split
   ·rename_i g;have o:=ZR g.2 (by decide);obtain⟨i,b,_⟩:=kQ (s:=s) (st:=(xb s (f st).2).qL) (by simp only[Jst.qL];omega);have c:=Dt a k (l++[(f st).1]) _ b;rw[VI]at c;simp only[Jst.qL]at i b c⊢;omega
   ·have:=WD (s:=s) 93 e;rw[VI];simp only;omega
theorem Du{s:za}{f:Jst->Val×Jst}(b:nA s f){st:Jst}(h:st.p<s.length):st.p+1<=(vt s f st).2.p/\(vt s f st).2.p<=s.length/\kf (vt s f st).1<=(vt s f st).2.p-st.p:=by
 obtain⟨c,a,_⟩:=kQ (s:=s) (st:=st.qL) (by simp only[Jst.qL];omega);simp only[Jst.qL]at c a;unfold vt;simp only;split
 ·rename_i d;have e:=ZR d (by decide);simp only[Jst.qL]at e⊢;simp only[kf];omega
 ·have:=Dt b (s.length+1) [] (xb s st.qL) a;simp only[Jst.qL,kf]at this⊢;omega
theorem GR{s:za}{st:Jst}(h:st.p<s.length)(c:yD s st=45\/jM (yD s st)=true):st.p<=(JK s st).2.p/\(JK s st).2.p<=s.length:=by
 have a:st.p<=(if yD s st=45 then st.qL else st).p/\(if yD s st=45 then st.qL else st).p<=s.length:=by
  split
  ·simp only[Jst.qL];omega
  ·omega
 have b:=sE (s:=s) a.2;have d:=mm (s:=s) ((YH s (if yD s st=45 then st.qL else st)).1*1000) b.2.1;simp only[JK];omega
theorem iL{s:za}:∀(w:za) (st:Jst),st.p<=s.length->st.p<=(oy s w st).p/\(oy s w st).p<=s.length
 |[],st,h=>⟨zi _,h⟩
 |c::w,st,h=>by
  have a:=WD (s:=s) c h;rw[oy];split
  ·have:=iL w (xH s st c).2 a.2;omega
  ·exact a
theorem nC{s:za}{st:Jst}(seen:List za)(h:st.p<=s.length):st.p<=(K5 s seen st).p/\(K5 s seen st).p<=s.length/\(yR s st).1.length<=(K5 s seen st).p-st.p:=by
 have c:=VD (s:=s) h;have d:(xY s seen st).p=(yR s st).2.p:=by
  unfold xY;split
  ·rw[vl]
  ·rfl
 obtain⟨e,a,_⟩:=kQ (s:=s) (st:=xY s seen st) (by omega);have b:=WD (s:=s) 58 a;obtain⟨f,g,_⟩:=kQ (s:=s) (st:=(xH s (xb s (xY s seen st)) 58).2) b.2;unfold K5;omega
theorem Dv{s:za}{f:Jst->Val×Jst}(c:nA s f):∀(k:Nat) (seen:List za) (l:List (za×Val)) (st:Jst),st.p<=s.length->st.p<=(oA s f k seen l st).2.p/\(oA s f k seen l st).2.p<=s.length/\QM (oA s f k seen l st).1<=QM l+((oA s f k seen l st).2.p-st.p)+1
 | 0,seen,l,st,h=>by simp only[oA];exact⟨zi _,h,by omega⟩
 |k+1,seen,l,st,h=>by
  have a:=nC (s:=s) seen h;rw[oA];split
  ·exact⟨zi _,h,by simp only;omega⟩
  ·simp only;split
   ·exact⟨a.1,a.2.1,by simp only;omega⟩
   ·obtain⟨m,g,n⟩:=c _ a.2.1;obtain⟨o,i,_⟩:=kQ (s:=s) (st:=(f (K5 s seen st)).2) g;split
    ·rename_i b;have q:=ZR b.2 (by decide);obtain⟨j,d,_⟩:=kQ (s:=s) (st:=(xb s (f (K5 s seen st)).2).qL) (by simp only[Jst.qL];omega);have e:=Dv c k (seen++[(yR s st).1]) (l++[((yR s st).1,(f (K5 s seen st)).1)]) _ d;rw[nB]at e;simp only[Jst.qL]at j d e⊢;omega
    ·have:=WD (s:=s) 125 i;rw[nB];simp only;omega
theorem GU{s:za}{f:Jst->Val×Jst}(b:nA s f){st:Jst}(h:st.p<s.length):st.p+1<=(ZQ s f st).2.p/\(ZQ s f st).2.p<=s.length/\QM (ZQ s f st).1<=(ZQ s f st).2.p-st.p:=by
 obtain⟨c,a,_⟩:=kQ (s:=s) (st:=st.qL) (by simp only[Jst.qL];omega);simp only[Jst.qL]at c a;unfold ZQ;simp only;split
 ·rename_i d;have e:=ZR d (by decide);simp only[Jst.qL]at e⊢;simp only[QM];omega
 ·have:=Dv b (s.length+1) [] [] (xb s st.qL) a;simp only[Jst.qL,QM]at this⊢;omega
theorem bl(s:za):∀k,nA s (Y6 s k)
 | 0=>fun st h=>by simp only[Y6,QV];exact⟨zi _,h,by rw[xa];simp[zV,Val.s,Val.items,Val.fields,kf,QM]⟩
 |k+1=>fun st h=>by
  have g:=bl s k;have d:zV.vb=1:=by rw[xa];simp[zV,Val.s,Val.items,Val.fields,kf,QM]
  have c:∀a b:Int,(Val.mk a b [] [] []).vb=1:=fun a b=>by rw[xa];simp[Val.s,Val.items,Val.fields,kf,QM]
  unfold Y6;rw[QV];split
  ·simp only[vl,d];omega
  rename_i i;have e:st.p<s.length:=by omega
  split
  ·have:=iL (s:=s) [110,117,108,108] st h;simp only[d];omega
  split
  ·have:=iL (s:=s) [116,114,117,101] st h;simp only[c];omega
  split
  ·have:=iL (s:=s) [102,97,108,115,101] st h;simp only[c];omega
  split
  ·have:=VD (s:=s) h;rw[xa];simp only[Val.s,Val.items,Val.fields,kf,QM];omega
  split
  ·have:=Du (f:=QV zx s k) g e;rw[xa];simp only[Val.s,Val.items,Val.fields,QM,zf];omega
  split
  ·have:=GU (f:=QV zx s k) g e;have l:=Dq (ZC (ZQ s (QV zx s k) st).1).2.1;rw[xa];simp only[Val.s,Val.items,Val.fields,kf,zf];omega
  split
  ·rename_i j;have:=GR e j;simp only[JK,pj]at this⊢;rw[c];omega
  ·simp only[vl,d];omega
noncomputable abbrev Clj (k:Nat):Ctx:=qp prog [(145,Ua),(105,YJ),(143,B8),(77,aO k)]
theorem ML{k:Nat}(h:zh prog 77 (aO k)):AM.Good (Clj k) (fun g=>[105].contains g):=qH mixed ⟨ft,by simp,kP,fun _=>kL _ _,Jq,by simp,h,by simp,trivial⟩
def LiI(s:za)(k:Nat)(b:Jst)(n:Nat)(st:St):Prop:=st.X 0=.ref 0 0 0/\st.X 2=.ref 1 0 0/\st.X 3=.ref 2 0 0/\2<st.Z/\st.Y 1=some Zi/\∃v l a j,qV st.Y st.Z 48 5 v (l.map Val.V)/\st.Y 2=some ⟨48,5,false,[[int 4,int 0,str [],v,.nil]]⟩/\st.Y 0=some (qG s a)/\b.p+1<=a.p/\a.p<=s.length/\l.length<=a.p/\s.length-a.p+1=n/\n<=j/\oz s (Y6 s k) j l a=vt s (Y6 s k) b
abbrev vS(k:Int)(v w:O):Blk:=⟨48,5,false,[[int k,int 0,str [],v,w]]⟩
def LiQ(s:za)(a:Nat->O)(b:Jst)(c:Hp)(Z m:Nat)(Y2:Hp)(st:St):Prop:=st.X 0=.ref 0 0 0/\st.X 2=.ref 1 0 0/\st.X 3=.ref 2 0 0/\st.Z=Z+2/\st.Y=qb Y2 2 (some (vS 4 (.own (Z+1) 0 m) .nil))
theorem rB{k:Nat}(h:zh prog 77 (aO k)):zh prog 109 (MJ k):=
 yQ (C:=Clj k) func109 (by kernel_rfl) rfl TJ _ fun cs az cs' r hF=>by
  obtain⟨s,st,⟨⟩,rfl,rfl,hs,Y,⟨h91,SD⟩,rfl,rfl⟩:=xf hF;refine⟨by simp[aU,f109],?_⟩;clear hF;have A:=ML h;have hl0:=ZR h91 (by decide);have SV:=wY ((st.p:Int)+1);obtain⟨b,m⟩:=yX (xb s st.qL);have Q:st.qL.p<=s.length:=by simp only[Jst.qL];omega
  have D:=kQ (s:=s) Q;rw[m]at D;simp only[Jst.qL]at D;refine Wp.cut A (fun X Y Z=>X 0=.ref 0 0 0/\X 2=.ref 1 0 0/\Y 0=some (qG s st)/\Y 1=some Zi/\Z=2) (by kernel_rfl) (by simp[aU,qM,zN,zA,Zi,zc]) ?_;rintro X Y1 _ ⟨i,o,q,M,rfl⟩;refine Wp.cut A (fun c Y Z=>c 0=.ref 0 0 0/\c 2=.ref 1 0 0/\c 3=.ref 2 0 0/\Y 0=some (qG s st)/\Y 1=some Zi/\Y 2=some (vS 4 .nil .nil)/\Z=3) (by kernel_rfl) (by simp[i,o,q,M,zc,zU,qn]) ?_;clear i o q M X Y1;rintro X Y1 _ ⟨i,o,B,q,M,E,rfl⟩;refine Wp.cut A (fun c Y Z=>c 0=.ref 0 0 0/\c 2=.ref 1 0 0/\c 3=.ref 2 0 0/\Y 0=some (qG s st.qL)/\Y 1=some Zi/\Y 2=some (vS 4 .nil .nil)/\Z=3) (by kernel_rfl) ?_ ?_
  ·simp only[zN,zA,zd,zf,zo,Nat.reduceAdd]at q⊢;simp[i,o,B,q,M,E,SV,Jst.qL,zc]
  clear i o B q M E X Y1;rintro X Y1 _ ⟨i,o,B,q,M,E,rfl⟩;have g1:=xZ (id:=0) (Z:=3) q hs Q;rw[m]at g1;have lr:qb Y1 0 (some (qG s b)) 0=some (qG s b):=by simp
  have g2:=vG (Z:=3) lr hs D.2.1;by_cases F:yD s b=93
  ·have SU:=ZR F (by decide);have HT:=wY ((b.p:Int)+1);have hr:vt s (Y6 s k) st=([],b.qL):=by simp only[vt,m,zl F]
   rw[F]at g2;rw[hr];simp only[zN,zA,zd,zf,zo,Nat.reduceAdd]at g1 g2 q;refine Wp.seq (Wp.of A (by kernel_rfl) ?_);simp only[Zi]at M;simp[i,o,B,g1,g2,M,E,HT,zc,f109];exact qB rfl (by simp[zc,zN,zA,Jst.qL]) xw rfl
  have hne:(((yD s b).toNat:Int)==93)=false:=ee 93 F;have hr:oz s (Y6 s k) (s.length+1) [] b=vt s (Y6 s k) st:=by simp only[vt,m,zg F]
  refine Wp.cut A (fun c Y Z=>LiI s k st (s.length-b.p+1) ⟨c,Y,Z⟩) (by kernel_rfl) ?_ ?_
  ·simp[i,g1,g2,hne];exact⟨by simp[i],by simp[o],by simp[B],by simp,by simp[zc,M],.nil,[],b,s.length+1,.inl ⟨rfl,rfl⟩,by simp[zc,E],by simp,D.1,D.2.1,by simp,rfl,by omega,hr⟩
  clear i o B q lr M E g1 g2 X Y1;rintro X Y1 Z hI;refine Wp.seq (Wp.block (Wp.loop (LiI s k st) _ hI ?_));clear hI F hne hr D m X Y1 Z b;rintro n ⟨X,Y1,Z⟩ ⟨i,o,B,hnx,I,v,l,b,j,R,E,q,hge,hpl,hll,hn,hnj,H⟩;simp only at i o B hnx I R E q;have W:=wc R q rfl;have t:=wc R I rfl;have S:=wc R E rfl;obtain⟨j,rfl⟩:∃j',j=j'+1:=⟨j-1,by omega⟩;rw[oz]at H;have N:=q;simp only[zN,zA,zd,zf,zo,Nat.reduceAdd]at N;by_cases he:b.e=0
  case neg=>rw[zl he]at H;refine Wp.seq (Wp.of A (by kernel_rfl) ?_);simp[i,N,he,vr he];refine Wp.of A (by kernel_rfl) ?_;rw[<-H];have d:=I;simp only[Zi]at d;simp[o,B,E,d,R.cell,f109];exact dN (R.put t (some (vS 4 v .nil))) (by rw[zc _ _ _ _ (by decide)];exact q) 4 _
  rw[zg (by simpa using he)]at H;obtain⟨x,u,hx⟩:∃x u,Y6 s k b=(x,u):=⟨_,_,rfl⟩;have P:=bl s k b hpl;rw[hx]at H P;simp only at H P;have g:=XB (k:=k) (id:=0) (Z:=Z) q hs hpl (by omega);rw[hx]at g;simp only at g;obtain⟨Y2,a1,O2,f2⟩:=nv (R.put W (some (qG s u))) x (by omega);have b0:Y2 0=some (qG s u):=by rw[f2 0 (by omega) W];simp
  have b1:Y2 1=some Zi:=by rw[f2 1 (by omega) t,zc _ _ _ _ (by decide)];exact I
  have b2:Y2 2=some (vS 4 v .nil):=by rw[f2 2 (by omega) S,zc _ _ _ _ (by decide)];exact E
  refine Wp.cut A (fun c Y' Z'=>c 0=.ref 0 0 0/\c 2=.ref 1 0 0/\c 3=.ref 2 0 0/\Y'=Y1/\Z'=Z) (by kernel_rfl) (by simp[i,o,B,N,he]) ?_;clear i o B X;rintro X Y1 Z ⟨i,o,B,rfl,rfl⟩;refine Wp.block ?_;refine Wp.seq (Wp.mono (K:=fun e st=>e=.normal/\LiQ s X u Y1 Z (l.length+1) Y2 st) ?_ ?_)
  ·refine Wp.gd mixed ?_;rw[show Qt _ _ _=[[0,1,2,3,4,5,6,7],[0,2,1,3,4,5,6,7],[0,2,3,1,4,5,6,7],[0,2,3,4,1,5,6,7],[2,0,1,3,4,5,6,7],[2,0,3,1,4,5,6,7],[2,0,3,4,1,5,6,7],[2,3,0,1,4,5,6,7],[2,3,0,4,1,5,6,7],[2,3,4,0,1,5,6,7]]from by kernel_rfl];intro lst hl;simp only[zJ,yO,or_false]at hl;have n2:(2:Nat)≠Z:=by omega
   have n0:¬(0:Nat)=Z:=by omega
   rcases hl with rfl|rfl|rfl|rfl|rfl|rfl|rfl|rfl|rfl|rfl
   all_goals
    refine KH.ord A _ (by kernel_rfl) (by decide) ?_;simp[i,o,B,E,g,a1,b2,n2,n0,zc,zu,zP,zr,LiQ]
  rintro e ⟨σ1,f,y⟩ ⟨rfl,e0,e2,e3,NC,G⟩;simp only at e0 e2 e3 NC G;simp only[JC];have d0:f 0=some (qG s u):=by rw[G,zc _ _ _ _ (by decide)];exact b0
  have d1:f 1=some Zi:=by rw[G,zc _ _ _ _ (by decide)];exact b1
  have d2:f 2=some (vS 4 (.own (Z+1) 0 (l.length+1)) .nil):=by rw[G];simp
  have O3:qV f y 48 5 (.own (Z+1) 0 (l.length+1)) ((l++[x]).map Val.V):=by rw[G,NC];exact O2.put (fun n e=>by injection e with e;omega) _
  have NH:2<y:=by omega
  clear i o B R E q N I W t S g a1 O2 f2 b0 b1 b2 G X Y1 Y2 v;obtain⟨w,hw⟩:=yX (O.own (Z+1) 0 (l.length+1));rw[hw]at d2 O3;clear hw;obtain⟨bl1,NI,bl3,_⟩:=kQ (s:=s) (st:=u) P.2.1;obtain⟨a,NJ⟩:=yX (xb s u);have g3:=xZ (id:=0) (Z:=y) d0 hs P.2.1;rw[NJ]at g3 H bl1 NI bl3;have Ts:qb f 0 (some (qG s a)) 0=some (qG s a):=by simp
  have g4:=vG (Z:=y) Ts hs NI;have T:=wc O3 d0 rfl;have t:=wc O3 d1 rfl;have hvv:=d2;have d:=d1;simp only[Zi]at d;have g5:B8 [.ref 0 0 0,.v (.int .u8 93)] (qb f 0 (some (qG s a))) y=some (yW (xH s a 93).1,qb (qb f 0 (some (qG s a))) 0 (some (qG s (xH s a 93).2)),y):=YK 93 Ts hs NI;rw[wI]at g5;by_cases HU:a.e=0/\yD s a=44
  ·obtain⟨z,J⟩:=HU;rw[zl ⟨z,J⟩]at H;have hl2:=ZR J (by decide);have NK:=wY ((a.p:Int)+1);rw[J]at g4;have L:a.qL.p<=s.length:=by simp only[Jst.qL];omega
   have NL:qb f 0 (some (qG s a.qL)) 0=some (qG s a.qL):=by simp
   have g6:=xZ (id:=0) (Z:=y) NL hs L;rw[wI]at g6;obtain⟨k1,k2,_⟩:=kQ (s:=s) (st:=a.qL) L;obtain⟨NM,NN⟩:=yX (xb s a.qL);rw[NN]at g6 H k1 k2;simp only[Jst.qL]at k1;simp only[zN,zA,Jst.qL,zd,zf,zo,Nat.reduceAdd,yp,qz,z]at g3 g4 g6;refine Wp.of A (by kernel_rfl) ?_;simp[e0,g3,g4,g6,NK];have O4:=O3.put T (some (qG s NM));simp only[zN,zA,zd,zf,zo,Nat.reduceAdd]at O4;exact⟨s.length-NM.p+1,by omega,by simp[e0],by simp[e2],by simp[e3],NH,by simp[zc,d1],w,l++[x],NM,j,by simpa using O4,by simp[zc,d2],by simp[zN,zA],by omega,k2,by simp;omega,rfl,by omega,H⟩
  rw[zg HU]at H;rw[<-H];have U:∀Y Z,Y=qb f 0 (some (qG s (xH s a 93).2))->lZ TJ (zA s (xH s a 93).2) (.agg (Val.mk 4 0 [] (l++[x]) []).V) (.agg [int 4,int 0,str [],w,.nil]) (qb Y 1 (some (vS 4 w .nil))) Z:=fun Y Z e=>by subst e;have O4:=(O3.put T (some (qG s (xH s a 93).2))).put t (some (vS 4 w .nil));exact dN O4 (by rw[zc _ _ _ _ (by decide)];simp) 4 Z
  by_cases z:a.e=0
  ·have J:¬yD s a=44:=fun h=>HU ⟨z,h⟩
   have NO:(((yD s a).toNat:Int)==44)=false:=ee 44 J;simp only[zN,zA,Jst.qL,zd,zf,zo,Nat.reduceAdd,yp,qz,z]at g3 g4 g5;refine Wp.of A (by kernel_rfl) ?_;simp[e0,g3,g4,g5,NO];refine Wp.of A (by kernel_rfl) ?_;simp[e2,e3,d2,d,O3.cell,zc,f109];exact U _ _ rfl
  ·simp only[zN,zA,Jst.qL,zd,zf,zo,Nat.reduceAdd,yp,qz]at g3 g4 g5;refine Wp.of A (by kernel_rfl) ?_;simp[e0,g3,g4,g5,z,vr z];refine Wp.of A (by kernel_rfl) ?_;simp[e2,e3,d2,d,O3.cell,zc,f109];exact U _ _ rfl
abbrev Rg:=Int×Int×Int
structure Lyr where
 name:List UInt8
 Tt:List UInt8
 rest:Int
structure Hld where
 name:List UInt8
 Tt:List UInt8
 buckets:Int
 NP:List (List UInt8)
structure Phs where
 at_:Int
 za1:List Sp
structure Xp where
 name:List UInt8
 za2:List UInt8
 flag:List UInt8
 cond:Cnd
 Tt:List UInt8
 arms:List Rg
 zaB:List Phs
structure Bk where
 NP:List Lyr
 holds:List Hld
 exps:List Xp
end Go.Q
namespace Go.AM
section
variable(C:Ctx)(ρ:Operand->Option O)(Y:Hp)(Z:Nat)
@[simp]theorem OU(t:TypeId)(x i:Operand)(a:Bool):zF C ρ Y Z (.lookup t x i a)=(do let p <-ρ x;let q <-ρ i;let r <-Qc C.P Y t p q a;some (r,Y,Z)):=by simp only[zF];cases ρ x<;>cases ρ i<;>(try rfl);simp;cases Qc C.P Y t _ _ a<;>rfl
@[simp]theorem GW(t:TypeId)(m k x:Operand):zF C ρ Y Z (.mapUpdate t m k x)=(do let p <-ρ m;let q <-ρ k;let y <-ρ x;let h <-vY C.P Y t p q y;some (.qS [],h,Z)):=by simp only[zF];cases ρ m<;>cases ρ k<;>cases ρ x<;>(try rfl);simp;cases vY C.P Y t _ _ _<;>rfl
@[simp]theorem MM(t:TypeId):zF C ρ Y Z (.makeMap t none)=(do let _ <-KM C.P t;some (.mp Z,qb Y Z (some ⟨t,0,false,[]⟩),Z+1)):=by simp only[zF];cases KM C.P t<;>rfl
end
end Go.AM
namespace Go.Q
@[simp]theorem Sg(X:Nat->O):AM.get X (.const (.pointer none))=some (.v (.pointer none)):=rfl
def iM(l:List za):List zb:=l.map fun s=>[str s,yW true]
def Y7(l:List za):Blk:=⟨186,0,false,iM l⟩
theorem JE(s:za):∀(l:List za) (i:Nat),(s ∉ l->QO (.string ⟨s.toArray⟩) (iM l) i=some none)/\(s∈l->∃j,QO (.string ⟨s.toArray⟩) (iM l) i=some (some (j,yW true)))
 |[],i=>⟨fun _=>rfl,fun h=>by simp at h⟩
 |x::l,i=>by
  obtain⟨c,d⟩:=JE s l (i+1);by_cases a:s=x
  ·refine⟨fun h=>absurd (by simp[a]) h,fun _=>⟨i,?_⟩⟩;subst a;simp[iM,QO,Zt]
  ·have f:Zt (.string ⟨s.toArray⟩) (.string ⟨x.toArray⟩)=some false:=by simp only[Zt];congr 1;rw[wv];intro e;exact a (by simpa[tk]using e)
   have b:QO (.string ⟨s.toArray⟩) (iM (x::l)) i=QO (.string ⟨s.toArray⟩) (iM l) (i+1):=by simp only[iM,zL,QO,f]
   refine⟨fun h=>by rw[b];exact c fun g=>h (List.mem_cons_of_mem _ g),fun h=>?_⟩;rcases zJ.1 h with h|h
   ·exact absurd h a
   ·rw[b];exact d h
@[simp]theorem OV:KM prog 186=some (none,4):=by kernel_rfl
@[simp]theorem MN:KO prog 4=some (yW false):=by kernel_rfl
theorem Dw{Y:Hp}{id:Nat}{l:List za}(s:za)(h:Y id=some (Y7 l)):Qc prog Y 186 (.mp id) (str s) false=some (yW (decide (s∈l))):=by
 obtain⟨b,c⟩:=JE s l 0;by_cases a:s∈l
 ·obtain⟨j,d⟩:=c a;simp[Qc,lA,h,Y7,KN,d,a]
 ·simp[Qc,lA,h,Y7,KN,b a,a]
theorem GX{Y:Hp}{id:Nat}{l:List za}(s:za)(h:Y id=some (Y7 l))(hs:s ∉ l):vY prog Y 186 (.mp id) (str s) (yW true)=some (qb Y id (some (Y7 (l++[s])))):=by obtain⟨a,b⟩:=JE s l 0;simp[vY,h,Y7,KN,a hs];simp[iM]
theorem Dx{Y:Hp}{Z:Nat}{v:O}{l:List (za×Val)}(f:qV Y Z 65 6 v (l.map q6))(x:za×Val)(g:l.length<100000000000):∃Y2,yM prog (qb Y Z (some ⟨65,6,true,[q6 x]⟩)) (Z+1) 46 46 v (.own Z 0 1)=some (.own (Z+1) 0 (l.length+1),Y2,Z+2)/\qV Y2 (Z+2) 65 6 (.own (Z+1) 0 (l.length+1)) ((l++[x]).map q6)/\∀j,j<Z->(∀n,v≠.own j 0 n)->Y2 j=Y j:=by
 have a:=f.jt (P:=prog) (t:=46) (c:=q6 x) el46 sz65 by65 ze65 (by simp[q6]) (by omega) (by simp[maxLen];omega) (by simp;omega);have b:=qV.after (Y:=Y) (Z:=Z) (e:=65) (s:=6) (v:=v) (xs:=l.map q6) (c:=q6 x) (tmp:=some ⟨65,6,true,[q6 x]⟩);rw[yK]at a;refine⟨_,a,?_,fun j h d=>?_⟩
 ·rw[JI];simpa using b
 ·rw[wA _ _ _ _ (by omega),yf f _ j d,wA _ _ _ _ (by omega)]
theorem Ae{Y:Hp}{id:Nat}{l:List za}(s:za)(h:Y id=some (Y7 l))(hs:s∈l):∃b,vY prog Y 186 (.mp id) (str s) (yW true)=some (qb Y id (some b)):=by obtain⟨_,a⟩:=JE s l 0;obtain⟨j,c⟩:=a hs;exact⟨_,by simp[vY,h,Y7,KN,c];rfl⟩
theorem Si{s:za}{st:Jst}{c:UInt8}(h:st.e≠0):(xH s st c).2.e≠0:=by
 have:xH s st c=(false,st):=by unfold xH;rw[zg (fun a=>h a.1),Jst.fail,zg h]
 rw[this];exact h
theorem MO{s:za}{seen:List za}{st:Jst}(h:st.p<=s.length)(b:(K5 s seen st).e=0):(yR s st).1 ∉ seen:=by
 intro d;have Y:=VD (s:=s) h;have f:(xY s seen st).e≠0:=by
  unfold xY;rw[zl (by simpa using d)];unfold Jst.fail;split
  ·simp
  ·assumption
 have a:(xY s seen st).p<=s.length:=by
  unfold xY;split
  ·rw[vl];exact Y.2.1
  ·exact Y.2.1
 obtain⟨_,g,i,_⟩:=kQ (s:=s) (st:=xY s seen st) a;have j:=Si (s:=s) (st:=xb s (xY s seen st)) (c:=58) (by rw[i];exact f);have k:=WD (s:=s) 58 g;obtain⟨_,_,l,_⟩:=kQ (s:=s) (st:=(xH s (xb s (xY s seen st)) 58).2) k.2;exact j (by rw[<-l];exact b)
noncomputable abbrev Coj (k:Nat):Ctx:=qp prog [(106,YI),(145,Ua),(105,YJ),(143,B8),(108,GA),(77,aO k),(146,QT 6 147 GM GP)]
theorem MP{k:Nat}(h:zh prog 77 (aO k)):AM.Good (Coj k) (fun g=>[105].contains g):=qH mixed ⟨kO,by simp,ft,by simp,kP,fun _=>kL _ _,Jq,by simp,X7,by simp,h,by simp,nu,by simp,trivial⟩
def ObI(s:za)(k:Nat)(b:Jst)(n:Nat)(st:St):Prop:=st.X 0=.ref 0 0 0/\st.X 2=.ref 1 0 0/\st.X 3=.ref 2 0 0/\st.X 4=.mp 3/\3<st.Z/\st.Y 1=some Zi/\∃v l seen a j,qV st.Y st.Z 65 6 v (l.map q6)/\st.Y 2=some (vS 5 .nil v)/\st.Y 0=some (qG s a)/\st.Y 3=some (Y7 seen)/\b.p+1<=a.p/\a.p<=s.length/\l.length<=a.p/\s.length-a.p+1=n/\n<=j/\oA s (Y6 s k) j seen l a=ZQ s (Y6 s k) b
def ObE(s:za)(k:Nat)(b:Jst)(st:St):Prop:=st.X 2=.ref 1 0 0/\st.X 3=.ref 2 0 0/\2<st.Z/\st.Y 1=some Zi/\∃v l a,qV st.Y st.Z 65 6 v (l.map q6)/\st.Y 2=some (vS 5 .nil v)/\st.Y 0=some (qG s a)/\l.length<=1048577/\ZQ s (Y6 s k) b=(l,a)
def ObQ(Z m:Nat)(Y2:Hp)(st:St):Prop:=st.X 0=.ref 0 0 0/\st.X 2=.ref 1 0 0/\st.X 3=.ref 2 0 0/\st.X 4=.mp 3/\st.Z=Z+2/\st.Y=qb Y2 2 (some (vS 5 .nil (.own (Z+1) 0 m)))
def dO(X:Nat->O):Prop:=X 0=.ref 0 0 0/\X 2=.ref 1 0 0/\X 3=.ref 2 0 0/\X 4=.mp 3
set_option maxHeartbeats 8000000 in
theorem rC{k:Nat}(h:zh prog 77 (aO k)):zh prog 110 (MK k):=
 yQ (C:=Coj k) func110 (by kernel_rfl) rfl TJ _ fun cs az cs' r hF=>by
  obtain⟨s,st,⟨⟩,rfl,rfl,hs,Y,⟨h91,SD⟩,rfl,rfl⟩:=xf hF;refine⟨by simp[aU,f110],?_⟩;clear hF;have A:=MP h;have hl0:=ZR h91 (by decide);have SV:=wY ((st.p:Int)+1);obtain⟨m,I⟩:=yX (xb s st.qL);have Tu:st.qL.p<=s.length:=by simp only[Jst.qL];omega
  have U:=kQ (s:=s) Tu;rw[I]at U;simp only[Jst.qL]at U;refine Wp.cut A (fun X Y Z=>X 0=.ref 0 0 0/\X 2=.ref 1 0 0/\Y 0=some (qG s st)/\Y 1=some Zi/\Z=2) (by kernel_rfl) (by simp[aU,qM,zN,zA,Zi,zc]) ?_;rintro X Y1 _ ⟨d,f,y,W,rfl⟩;refine Wp.cut A (fun c Y Z=>c 0=.ref 0 0 0/\c 2=.ref 1 0 0/\c 3=.ref 2 0 0/\Y 0=some (qG s st)/\Y 1=some Zi/\Y 2=some (vS 5 .nil .nil)/\Z=3) (by kernel_rfl) (by simp[d,f,y,W,zc,zU,qn]) ?_;clear d f y W X Y1;rintro X Y1 _ ⟨d,f,i,y,W,D,rfl⟩;refine Wp.cut A (fun c Y Z=>dO c/\Y 0=some (qG s st)/\Y 1=some Zi/\Y 2=some (vS 5 .nil .nil)/\Y 3=some (Y7 [])/\Z=4) (by kernel_rfl) (by simp[dO,d,f,i,y,W,D,zc,Y7,iM]) ?_;clear d f i y W D X Y1;rintro X Y1 _ ⟨⟨d,f,i,q⟩,y,W,D,N,rfl⟩;refine Wp.cut A (fun c Y Z=>dO c/\Y 0=some (qG s st.qL)/\Y 1=some Zi/\Y 2=some (vS 5 .nil .nil)/\Y 3=some (Y7 [])/\Z=4) (by kernel_rfl) ?_ ?_
  ·simp only[zN,zA,zd,zf,zo,Nat.reduceAdd]at y⊢;simp[dO,d,f,i,q,y,W,D,N,SV,Jst.qL,zc]
  clear d f i q y W D N X Y1;rintro X Y1 _ ⟨⟨d,f,i,q⟩,y,W,D,N,rfl⟩;have g1:=xZ (id:=0) (Z:=4) y hs Tu;rw[I]at g1;have lr:qb Y1 0 (some (qG s m)) 0=some (qG s m):=by simp
  have g2:=vG (Z:=4) lr hs U.2.1;by_cases O1:yD s m=125
  ·have SU:=ZR O1 (by decide);have HT:=wY ((m.p:Int)+1);have hr:ZQ s (Y6 s k) st=([],m.qL):=by simp only[ZQ,I,zl O1]
   rw[O1]at g2;rw[hr];have hsn:zx []=[]:=dM (by simp[sb]);simp only[hsn];simp only[zN,zA,zd,zf,zo,Nat.reduceAdd]at g1 g2 y;refine Wp.seq (Wp.of A (by kernel_rfl) ?_);simp only[Zi]at W;simp[d,f,i,g1,g2,W,D,HT,zc,f110];exact qB rfl (by simp[zc,zN,zA,Jst.qL]) xw rfl
  have hne:(((yD s m).toNat:Int)==125)=false:=ee 125 O1;have hr:oA s (Y6 s k) (s.length+1) [] [] m=ZQ s (Y6 s k) st:=by simp only[ZQ,I,zg O1]
  refine Wp.cut A (fun c Y Z=>ObI s k st (s.length-m.p+1) ⟨c,Y,Z⟩) (by kernel_rfl) ?_ ?_
  ·simp[d,g1,g2,hne];exact⟨by simp[d],by simp[f],by simp[i],by simp[q],by simp,by simp[zc,W],.nil,[],[],m,s.length+1,.inl ⟨rfl,rfl⟩,by simp[zc,D],by simp,by simp[zc,N],U.1,U.2.1,by simp,rfl,by omega,hr⟩
  clear d f i q y lr W D N g1 g2 X Y1;rintro X Y1 Z hI;refine Wp.seq (Wp.mono (K:=fun e st'=>e=.normal/\ObE s k st st') (Wp.block (Wp.loop (ObI s k st) _ hI ?_)) ?_)
  ·clear hI O1 hne hr U I X Y1 Z m;rintro n ⟨X,Y1,Z⟩ ⟨d,f,i,q,hnx,G,v,l,seen,m,j,z,D,y,N,hge,hpl,hll,hn,hnj,H⟩;simp only at d f i q hnx G z D y N;have J:=wc z y rfl;have E:=wc z G rfl;have F:=wc z D rfl;have L:=wc z N rfl;obtain⟨j,rfl⟩:∃j',j=j'+1:=⟨j-1,by omega⟩;rw[oA]at H;have hb':=y;simp only[zN,zA,zd,zf,zo,Nat.reduceAdd]at hb';by_cases he:m.e=0
   case neg=>rw[zl he]at H;refine Wp.seq (Wp.of A (by kernel_rfl) ?_);simp[d,hb',he,vr he];exact⟨by simp[f],by simp[i],by simp only;omega,G,v,l,m,z,D,y,by omega,H.symm⟩
   rw[zg (by simpa using he)]at H;have hcl:=nC (s:=s) seen hpl;have UX:=VD (s:=s) hpl;have Tv:=fun d=>MO (s:=s) (seen:=seen) hpl d
   obtain⟨a,ha⟩:=yX ((yR s m).1);obtain⟨O5,hT⟩:=yX ((yR s m).2);obtain⟨t,hN⟩:=yX (xY s seen m);obtain⟨P,h4J⟩:=yX (K5 s seen m);have O6:t=if a∈seen then O5.fail s.length m.p 7 else O5:=by
    rw[<-hN,xY,ha,hT];by_cases N:a∈seen
    ·rw[zl (by simpa using N),zl N]
    ·rw[zg (by simpa using N),zg N]
   have Tw:xb s (xH s (xb s t) 58).2=P:=by rw[<-hN,<-h4J];rfl
   rw[ha]at H hcl Tv UX;rw[hT]at UX;rw[h4J]at H hcl Tv;have hNp:t.p<=s.length:=by rw[O6];split<;>(try rw[vl])<;>omega
   refine Wp.cut A (fun c Y' Z'=>dO c/\Y'=Y1/\Z'=Z) (by kernel_rfl) (by simp[dO,d,f,i,q,hb',he]) ?_;clear d f i q X;rintro X Y1 Z ⟨⟨d,f,i,q⟩,rfl,rfl⟩;refine Wp.block ?_;refine Wp.cut A (fun c Y' Z'=>dO c/\c 5=int m.p/\Y'=Y1/\Z'=Z) (by kernel_rfl) (by simp[dO,d,f,i,q,hb']) ?_;clear d f i q X;rintro X Y1 Z ⟨⟨d,f,i,q⟩,h5,rfl,rfl⟩;have gt:=dF (id:=0) (Z:=Z) y hs hpl;rw[ha,hT]at gt;refine Wp.cut A (fun c Y' Z'=>dO c/\c 5=int m.p/\c 6=str a/\Y'=qb Y1 0 (some (qG s O5))/\Z'=Z) (by kernel_rfl) (by simp[dO,d,f,i,q,h5,gt]) ?_;clear d f i q h5 gt X;rintro X _ Z ⟨⟨d,f,i,q⟩,h5,B,rfl,rfl⟩;have hmT:qb Y1 0 (some (qG s O5)) 3=some (Y7 seen):=by rw[zc _ _ _ _ (by decide)];exact N
   have hbT:qb Y1 0 (some (qG s O5)) 0=some (qG s O5):=by simp
   have gl:=Dw (id:=3) a hmT;have gf:=kd (id:=0) (Z:=Z) m.p 7 hbT hs UX.2.1 (by omega);rw[wI]at gf;refine Wp.cut A (fun c Y' Z'=>dO c/\c 6=str a/\Y'=qb Y1 0 (some (qG s t))/\Z'=Z) (by kernel_rfl) ?_ ?_
   ·by_cases M:a∈seen
    ·rw[show decide (a∈seen)=true from by simpa using M]at gl;rw[zl M]at O6;simp[dO,d,f,i,q,h5,B,gl,gf,O6]
    ·rw[show decide (a∈seen)=false from by simpa using M]at gl;rw[zg M]at O6;simp[dO,d,f,i,q,h5,B,gl,O6]
   clear d f i q h5 B gl gf hmT hbT X;rintro X _ Z ⟨⟨d,f,i,q⟩,B,rfl,rfl⟩;have hmN:qb Y1 0 (some (qG s t)) 3=some (Y7 seen):=by rw[zc _ _ _ _ (by decide)];exact N
   obtain⟨O7,gp,hpm⟩:∃O7,vY prog (qb Y1 0 (some (qG s t))) 186 (.mp 3) (str a) (yW true)=some (qb (qb Y1 0 (some (qG s t))) 3 O7)/\(a ∉ seen->O7=some (Y7 (seen++[a]))):=by
    by_cases M:a∈seen
    ·obtain⟨b,y⟩:=Ae a hmN M;exact⟨some b,y,fun h=>absurd M h⟩
    ·exact⟨_,GX a hmN M,fun _=>rfl⟩
   refine Wp.cut A (fun c Y' Z'=>dO c/\c 6=str a/\Y'=qb (qb Y1 0 (some (qG s t))) 3 O7/\Z'=Z) (by kernel_rfl) (by simp[dO,d,f,i,q,B,gp]) ?_;clear d f i q B gp hmN X;rintro X Y2 Z ⟨⟨d,f,i,q⟩,B,Fc,rfl⟩;have c0:Y2 0=some (qG s t):=by rw[Fc,zc _ _ _ _ (by decide)];simp
   have c1:Y2 1=some Zi:=by rw[Fc,zc _ _ _ _ (by decide),zc _ _ _ _ (by decide)];exact G
   have c2:Y2 2=some (vS 5 .nil v):=by rw[Fc,zc _ _ _ _ (by decide),zc _ _ _ _ (by decide)];exact D
   have c3:Y2 3=O7:=by rw[Fc];simp
   have cO:qV Y2 Z 65 6 v (l.map q6):=by rw[Fc];exact(z.put J _).put L _
   clear Fc z D y hb' N G J E F L Y1;have gb1:=xZ (id:=0) (Z:=Z) c0 hs hNp;obtain⟨q1,q2,q3,_⟩:=kQ (s:=s) (st:=t) hNp;have gs:B8 [.ref 0 0 0,.v (.int .u8 58)] (qb Y2 0 (some (qG s (xb s t)))) Z=some (yW (xH s (xb s t) 58).1,qb (qb Y2 0 (some (qG s (xb s t)))) 0 (some (qG s (xH s (xb s t) 58).2)),Z):=YK 58 (by simp) hs q2;have q4:=WD (s:=s) 58 q2;have gb2:=xZ (Y:=qb Y2 0 (some (qG s (xH s (xb s t) 58).2))) (id:=0) (Z:=Z) (by simp) hs q4.2;rw[Tw,wI]at gb2;rw[wI]at gs;refine Wp.cut A (fun c Y' Z'=>dO c/\c 6=str a/\Y'=qb Y2 0 (some (qG s (xb s t)))/\Z'=Z) (by kernel_rfl) (by simp[dO,d,f,i,q,B,gb1]) ?_;clear d f i q B gb1 X;rintro X _ Z ⟨⟨d,f,i,q⟩,B,rfl,rfl⟩;refine Wp.cut A (fun c Y' Z'=>dO c/\c 6=str a/\Y'=qb Y2 0 (some (qG s (xH s (xb s t) 58).2))/\Z'=Z) (by kernel_rfl) (by simp[dO,d,f,i,q,B,gs]) ?_;clear d f i q B gs X;rintro X _ Z ⟨⟨d,f,i,q⟩,B,rfl,rfl⟩;refine Wp.cut A (fun c Y' Z'=>dO c/\c 6=str a/\Y'=qb Y2 0 (some (qG s P))/\Z'=Z) (by kernel_rfl) (by simp[dO,d,f,i,q,B,gb2]) ?_;clear d f i q B gb2 q1 q2 q3 q4 X;rintro X Y1 Z ⟨⟨d,f,i,q⟩,B,O8,rfl⟩;have b0:Y1 0=some (qG s P):=by rw[O8];simp
   have b1:Y1 1=some Zi:=by rw[O8,zc _ _ _ _ (by decide)];exact c1
   have b2:Y1 2=some (vS 5 .nil v):=by rw[O8,zc _ _ _ _ (by decide)];exact c2
   have b3:Y1 3=O7:=by rw[O8,zc _ _ _ _ (by decide)];exact c3
   have z:qV Y1 Z 65 6 v (l.map q6):=by rw[O8];exact cO.put (wc cO c0 rfl) _
   clear O8 c0 c1 c2 c3 cO Y2;have UY:=b0;simp only[zN,zA,zd,zf,zo,Nat.reduceAdd]at UY;by_cases O9:P.e=0
   case neg=>rw[zl O9]at H;refine Wp.seq (Wp.of A (by kernel_rfl) ?_);simp[d,UY,O9,vr O9,bne];exact⟨by simp[f],by simp[i],by simp only;omega,b1,v,l,P,z,b2,b0,by omega,H.symm⟩
   rw[zg (by simpa using O9)]at H;have b3:=b3.trans (hpm (Tv O9));clear hpm Tv;refine Wp.cut A (fun c Y' Z'=>dO c/\c 6=str a/\Y'=Y1/\Z'=Z) (by kernel_rfl) (by simp[dO,d,f,i,q,B,UY,O9,bne]) ?_;clear d f i q B UY X;rintro X Y1 Z ⟨⟨d,f,i,q⟩,B,rfl,rfl⟩;have J:=wc z b0 rfl;have E:=wc z b1 rfl;have F:=wc z b2 rfl;have L:=wc z b3 rfl;obtain⟨x,Q,hx⟩:∃x Q,Y6 s k P=(x,Q):=⟨_,_,rfl⟩;have Pa:=bl s k P hcl.2.1;rw[hx]at H Pa;simp only at H Pa;have g:=XB (k:=k) (id:=0) (Z:=Z) b0 hs hcl.2.1 (by omega);rw[hx]at g;simp only at g;obtain⟨Y2,a1,O2,f2⟩:=Dx (z.put J (some (qG s Q))) (a,x) (by omega);have c0:Y2 0=some (qG s Q):=by rw[f2 0 (by omega) J];simp
   have c1:Y2 1=some Zi:=by rw[f2 1 (by omega) E,zc _ _ _ _ (by decide)];exact b1
   have c2:Y2 2=some (vS 5 .nil v):=by rw[f2 2 (by omega) F,zc _ _ _ _ (by decide)];exact b2
   have c3:Y2 3=some (Y7 (seen++[a])):=by rw[f2 3 (by omega) L,zc _ _ _ _ (by decide)];exact b3
   simp only[q6,wa]at a1 g;refine Wp.seq (Wp.mono (K:=fun e st=>e=.normal/\ObQ Z (l.length+1) Y2 st) ?_ ?_)
   ·refine Wp.gd mixed ?_;rw[show Qt _ _ _=[[0,1,2,3,4,5,6,7,8,9],[0,1,3,2,4,5,6,7,8,9],[0,1,3,4,2,5,6,7,8,9],[0,2,1,3,4,5,6,7,8,9],[0,2,3,1,4,5,6,7,8,9],[0,2,3,4,1,5,6,7,8,9],[0,2,3,4,5,1,6,7,8,9],[0,2,3,4,5,6,1,7,8,9],[0,3,1,2,4,5,6,7,8,9],[0,3,1,4,2,5,6,7,8,9],[0,3,2,1,4,5,6,7,8,9],[0,3,2,4,1,5,6,7,8,9],[0,3,2,4,5,1,6,7,8,9],[0,3,2,4,5,6,1,7,8,9],[0,3,4,1,2,5,6,7,8,9],[0,3,4,2,1,5,6,7,8,9],[0,3,4,2,5,1,6,7,8,9],[0,3,4,2,5,6,1,7,8,9],[2,0,1,3,4,5,6,7,8,9],[2,0,3,1,4,5,6,7,8,9],[2,0,3,4,1,5,6,7,8,9],[2,0,3,4,5,1,6,7,8,9],[2,0,3,4,5,6,1,7,8,9],[2,3,0,1,4,5,6,7,8,9],[2,3,0,4,1,5,6,7,8,9],[2,3,0,4,5,1,6,7,8,9],[2,3,0,4,5,6,1,7,8,9],[2,3,4,0,1,5,6,7,8,9],[2,3,4,0,5,1,6,7,8,9],[2,3,4,0,5,6,1,7,8,9],[2,3,4,5,0,1,6,7,8,9],[2,3,4,5,0,6,1,7,8,9],[2,3,4,5,6,0,1,7,8,9],[3,0,1,2,4,5,6,7,8,9],[3,0,1,4,2,5,6,7,8,9],[3,0,2,1,4,5,6,7,8,9],[3,0,2,4,1,5,6,7,8,9],[3,0,2,4,5,1,6,7,8,9],[3,0,2,4,5,6,1,7,8,9],[3,0,4,1,2,5,6,7,8,9],[3,0,4,2,1,5,6,7,8,9],[3,0,4,2,5,1,6,7,8,9],[3,0,4,2,5,6,1,7,8,9],[3,2,0,1,4,5,6,7,8,9],[3,2,0,4,1,5,6,7,8,9],[3,2,0,4,5,1,6,7,8,9],[3,2,0,4,5,6,1,7,8,9],[3,2,4,0,1,5,6,7,8,9],[3,2,4,0,5,1,6,7,8,9],[3,2,4,0,5,6,1,7,8,9],[3,2,4,5,0,1,6,7,8,9],[3,2,4,5,0,6,1,7,8,9],[3,2,4,5,6,0,1,7,8,9],[3,4,0,1,2,5,6,7,8,9],[3,4,0,2,1,5,6,7,8,9],[3,4,0,2,5,1,6,7,8,9],[3,4,0,2,5,6,1,7,8,9],[3,4,2,0,1,5,6,7,8,9],[3,4,2,0,5,1,6,7,8,9],[3,4,2,0,5,6,1,7,8,9],[3,4,2,5,0,1,6,7,8,9],[3,4,2,5,0,6,1,7,8,9],[3,4,2,5,6,0,1,7,8,9]]from by kernel_rfl];intro lst hl;simp only[zJ,yO,or_false]at hl;have n2:(2:Nat)≠Z:=by omega
    have n0:¬(0:Nat)=Z:=by omega
    rcases hl with rfl|rfl|rfl|rfl|rfl|rfl|rfl|rfl|rfl|rfl|rfl|rfl|rfl|rfl|rfl|rfl|rfl|rfl|rfl|rfl|rfl|rfl|rfl|rfl|rfl|rfl|rfl|rfl|rfl|rfl|rfl|rfl|rfl|rfl|rfl|rfl|rfl|rfl|rfl|rfl|rfl|rfl|rfl|rfl|rfl|rfl|rfl|rfl|rfl|rfl|rfl|rfl|rfl|rfl|rfl|rfl|rfl|rfl|rfl|rfl|rfl|rfl|rfl
    all_goals
     refine KH.ord A _ (by kernel_rfl) (by decide) ?_;simp[d,f,i,q,B,b2,g,a1,c2,n2,n0,zc,zU,qn,wW,zu,zP,zr,ObQ]
   rintro e ⟨σ1,u,R⟩ ⟨rfl,e0,e2,e3,e4,NC,S⟩;simp only at e0 e2 e3 e4 NC S;simp only[JC];have d0:u 0=some (qG s Q):=by rw[S,zc _ _ _ _ (by decide)];exact c0
   have d1:u 1=some Zi:=by rw[S,zc _ _ _ _ (by decide)];exact c1
   have d2:u 2=some (vS 5 .nil (.own (Z+1) 0 (l.length+1))):=by rw[S];simp
   have d3:u 3=some (Y7 (seen++[a])):=by rw[S,zc _ _ _ _ (by decide)];exact c3
   have O3:qV u R 65 6 (.own (Z+1) 0 (l.length+1)) ((l++[(a,x)]).map q6):=by rw[S,NC];exact O2.put (fun n e=>by injection e with e;omega) _
   have NH:3<R:=by omega
   clear d f i q B b0 b1 b2 z J E F L g a1 O2 f2 c0 c1 c2 c3 S O6 Tw hN h4J hT ha UX;obtain⟨w,hw⟩:=yX (O.own (Z+1) 0 (l.length+1));rw[hw]at d2 O3;clear hw;obtain⟨bl1,NI,bl3,_⟩:=kQ (s:=s) (st:=Q) Pa.2.1;obtain⟨o,NJ⟩:=yX (xb s Q);have g3:=xZ (id:=0) (Z:=R) d0 hs Pa.2.1;rw[NJ]at g3 H bl1 NI bl3;have Ts:qb u 0 (some (qG s o)) 0=some (qG s o):=by simp
   have g4:=vG (Z:=R) Ts hs NI;have Tx:=wc O3 d0 rfl;have g5:B8 [.ref 0 0 0,.v (.int .u8 125)] (qb u 0 (some (qG s o))) R=some (yW (xH s o 125).1,qb (qb u 0 (some (qG s o))) 0 (some (qG s (xH s o 125).2)),R):=YK 125 Ts hs NI;rw[wI]at g5;by_cases HU:o.e=0/\yD s o=44
   ·obtain⟨T,HQ⟩:=HU;rw[zl ⟨T,HQ⟩]at H;have hl2:=ZR HQ (by decide);have NK:=wY ((o.p:Int)+1);rw[HQ]at g4;have I8:o.qL.p<=s.length:=by simp only[Jst.qL];omega
    have NL:qb u 0 (some (qG s o.qL)) 0=some (qG s o.qL):=by simp
    have g6:=xZ (id:=0) (Z:=R) NL hs I8;rw[wI]at g6;obtain⟨k1,k2,_⟩:=kQ (s:=s) (st:=o.qL) I8;obtain⟨NM,NN⟩:=yX (xb s o.qL);rw[NN]at g6 H k1 k2;simp only[Jst.qL]at k1;simp only[zN,zA,Jst.qL,zd,zf,zo,Nat.reduceAdd,yp,qz,T]at g3 g4 g6;refine Wp.of A (by kernel_rfl) ?_;simp[e0,g3,g4,g6,NK];have O4:=O3.put Tx (some (qG s NM));simp only[zN,zA,zd,zf,zo,Nat.reduceAdd]at O4;exact⟨s.length-NM.p+1,by omega,by simp[e0],by simp[e2],by simp[e3],by simp[e4],NH,by simp[zc,d1],w,l++[(a,x)],seen++[a],NM,j,by simpa using O4,by simp[zc,d2],by simp[zN,zA],by simp[zc,d3],by omega,k2,by simp;omega,rfl,by omega,H⟩
   rw[zg HU]at H;have O4:=O3.put Tx (some (qG s (xH s o 125).2));by_cases T:o.e=0
   ·have HQ:¬yD s o=44:=fun h=>HU ⟨T,h⟩
    have NO:(((yD s o).toNat:Int)==44)=false:=ee 44 HQ;simp only[zN,zA,Jst.qL,zd,zf,zo,Nat.reduceAdd,yp,qz,T]at g3 g4 g5 O4;refine Wp.of A (by kernel_rfl) ?_;simp[e0,g3,g4,g5,NO];exact⟨by simp[e2],by simp[e3],by simp only;omega,by simp[zc,d1],w,l++[(a,x)],(xH s o 125).2,by simpa using O4,by simp[zc,d2],by simp[zN,zA],by simp;omega,H.symm⟩
   ·simp only[zN,zA,Jst.qL,zd,zf,zo,Nat.reduceAdd,yp,qz]at g3 g4 g5 O4;refine Wp.of A (by kernel_rfl) ?_;simp[e0,g3,g4,g5,T,vr T];exact⟨by simp[e2],by simp[e3],by simp only;omega,by simp[zc,d1],w,l++[(a,x)],(xH s o 125).2,by simpa using O4,by simp[zc,d2],by simp[zN,zA],by simp;omega,H.symm⟩
  ·rintro e ⟨σ2,Y2,HI⟩ ⟨rfl,f,i,hnx,G,v,l,stF,z,D,y,hl,SE⟩;simp only at f i hnx G z D y;simp only[JC];rw[SE];have J:=wc z y rfl;have E:=wc z G rfl;have F:=wc z D rfl;obtain⟨u,s1,O3,f3⟩:=ry (by have:zX=268435456:=rfl;omega) z;have b0:u 0=some (qG s stF):=by rw[f3 0 J];exact y
   have b1:u 1=some Zi:=by rw[f3 1 E];exact G
   have b2:u 2=some (vS 5 .nil v):=by rw[f3 2 F];exact D
   have b1':=b1;simp only[Zi]at b1';refine Wp.of A (by kernel_rfl) ?_;simp[f,i,D,s1,b2,b1',z.cell,f110];exact ny (O3.put (wc O3 b1 rfl) (some (vS 5 .nil v))) (by rw[zc _ _ _ _ (by decide)];exact b0) 5 _
theorem Dy{s:za}{st:Jst}{Y:Hp}{id Z:Nat}(a:Y id=some (qG s st))(hs:s.length<=1048576)(Y':st.p<=s.length)(b:st.p+1<=1048576):LZ [.ref id 0 0] Y Z=some (.agg (JK s st).1.V,qb Y id (some (qG s (JK s st).2)),Z):=vF kq (fun _=>rfl) () a hs Y' b
noncomputable abbrev Cvj (k:Nat):Ctx:=qp prog [(106,YI),(105,YJ),(107,wdS),(108,GA),(109,MJ k),(110,MK k),(111,LZ)]
theorem MQ{k:Nat}(h:zh prog 77 (aO k)):AM.Good (Cvj k) (fun g=>[105].contains g):=qH mixed ⟨kO,by simp,kP,fun _=>kL _ _,ui,by simp,X7,by simp,rB h,by simp,rC h,by simp,pz,by simp,trivial⟩
theorem Af{k:Nat}(h:zh prog 77 (aO k)):zh prog 77 (aO (k+1)):=
 yQ (C:=Cvj k) func77 (by kernel_rfl) rfl TJ _ fun cs T cs' r P=>by
  obtain⟨s,st,⟨⟩,rfl,rfl,hs,Y,U,rfl,rfl⟩:=xf P;refine⟨by simp[aU,f77],?_⟩;clear P;have E:=MQ h;obtain⟨c,x⟩:=yX (yD s st);refine Wp.cut E (fun X Y Z=>X 0=.ref 0 0 0/\X 2=.ref 1 0 0/\Y 0=some (qG s st)/\Y 1=some Zi/\Z=2) (by kernel_rfl) (by simp[aU,qM,zN,zA,Zi,zc]) ?_;rintro X Y1 _ ⟨f,i,l,S,rfl⟩;have g:=vG (Z:=2) l hs Y;rw[x]at g;refine Wp.cut E (fun m Y Z=>m 0=.ref 0 0 0/\m 2=.ref 1 0 0/\m 3=Xb c/\Y=Y1/\Z=2) (by kernel_rfl) (by simp[f,i,g,Xb]) ?_;clear f i g X;rintro X Y1 _ ⟨f,i,j,rfl,rfl⟩;simp only[Xb]at j;have a:=l;simp only[zN,zA,zd,zf,zo,Nat.reduceAdd]at a;have b:=S;simp only[Zi]at b;have F:Y6 s (k+1) st=QV zx s (k+1) st:=rfl;rw[F,QV];refine Wp.of E (by kernel_rfl) ?_;have n:=kd (Z:=2) st.p 10 l hs Y (by omega);by_cases o:s.length<=st.p
  ·rw[zl o];have q:(s.length:Int)<=st.p:=by omega
   simp only[zN,zA,zd,zf,zo,Nat.reduceAdd]at n;simp[f,i,j,a,q,n,b,zc,zU,qn,f77];exact qB rfl (by simp[zc,zN,zA]) xw rfl
  rw[zg o,x];have d:¬(s.length:Int)<=st.p:=by omega
  by_cases y:c=110
  ·have e:=cF (Z:=2) [110,117,108,108] l hs Y (by simp);rw[zl y];subst y;simp only[zN,zA,zd,zf,zo,Nat.reduceAdd]at e;simp[f,i,j,a,d,e,b,zc,zU,qn,f77];exact qB rfl (by simp[zc,zN,zA]) xw rfl
  have G:((c.toNat:Int)==110)=false:=ee 110 y;rw[zg y];by_cases z:c=116
  ·have e:=cF (Z:=2) [116,114,117,101] l hs Y (by simp);rw[zl z];subst z;simp only[zN,zA,zd,zf,zo,Nat.reduceAdd]at e;simp[f,i,j,a,d,e,b,zc,f77,zU,qn];exact qB rfl (by simp[zc,zN,zA]) xw rfl
  have H:((c.toNat:Int)==116)=false:=ee 116 z;rw[zg z];by_cases A:c=102
  ·have e:=cF (Z:=2) [102,97,108,115,101] l hs Y (by simp);rw[zl A];subst A;simp only[zN,zA,zd,zf,zo,Nat.reduceAdd]at e;simp[f,i,j,a,d,e,b,zc,f77,zU,qn];exact qB rfl (by simp[zc,zN,zA]) xw rfl
  have I:((c.toNat:Int)==102)=false:=ee 102 A;rw[zg A];by_cases B:c=34
  ·have e:=dF (Z:=2) l hs Y;rw[zl B];subst B;simp only[zN,zA,zd,zf,zo,Nat.reduceAdd]at e;simp[f,i,j,a,d,e,b,zc,f77,zU,qn];exact qB rfl (by simp[zc,zN,zA]) xw rfl
  have J:((c.toNat:Int)==34)=false:=ee 34 B;rw[zg B];by_cases t:c=91
  ·have e:=Ac (k:=k) (Z:=2) l hs Y (x.trans t) (by omega);rw[zl t];subst t;simp only[zN,zA,zd,zf,zo,Nat.reduceAdd]at e;rw[wa]at e;simp only[wa]at e⊢;simp[f,i,j,a,d,e,b,zc,f77];exact wx (by simp[AM.freeze,zS,qe,qh]) (by simp[zc,zN,zA])
  have K:((c.toNat:Int)==91)=false:=ee 91 t;rw[zg t];by_cases u:c=123
  ·have e:=Ad (k:=k) (Z:=2) l hs Y (x.trans u) (by omega);rw[zl u];subst u;simp only[zN,zA,zd,zf,zo,Nat.reduceAdd]at e;simp only[wa]at e⊢;simp[f,i,j,a,d,e,b,zc,f77];exact wx (by simp[AM.freeze,zS,qe,qh]) (by simp[zc,zN,zA])
  have L:((c.toNat:Int)==123)=false:=ee 123 u;rw[zg u];have v:=Dy (Z:=2) l hs Y (by omega);simp only[zN,zA,zd,zf,zo,Nat.reduceAdd]at v n;by_cases w:c=45
  ·rw[zl (.inl w)];subst w;simp only[wa]at v⊢;simp[f,i,j,a,d,v,b,zc,f77];exact wx (by simp[AM.freeze,zS,qe,qh]) (by simp[zc,zN,zA])
  have M:((c.toNat:Int)==45)=false:=ee 45 w;by_cases Q:48<=c.toNat
  ·have D:(48:Int)<=c.toNat:=by omega
   by_cases R:c.toNat<=57
   ·have N:(c.toNat:Int)<=57:=by omega
    rw[zl (.inr (by simp[Ql,Q,R]))];simp only[wa]at v⊢;simp[f,i,j,a,d,v,b,G,H,I,J,K,L,M,D,N,zc,f77];exact wx (by simp[AM.freeze,zS,qe,qh]) (by simp[zc,zN,zA])
   ·have N:¬(c.toNat:Int)<=57:=by omega
    rw[zg (by simp[Ql,R,w])];simp[f,i,j,a,d,n,b,G,H,I,J,K,L,M,D,N,zc,zU,qn,f77];exact qB rfl (by simp[zc,zN,zA]) xw rfl
  ·have D:¬(48:Int)<=c.toNat:=by omega
   rw[zg (by simp[Ql,Q,w])];simp[f,i,j,a,d,n,b,G,H,I,J,K,L,M,D,zc,zU,qn,f77];exact qB rfl (by simp[zc,zN,zA]) xw rfl
theorem Ag:zh prog 77 (aO 0):=
 yQ (C:=Cvj 0) func77 (by kernel_rfl) rfl TJ _ fun cs b cs' r a=>by obtain⟨s,st,⟨⟩,rfl,rfl,hs,Y,c,rfl,rfl⟩:=xf a;omega
theorem dP:∀k,zh prog 77 (aO k)
 | 0=>Ag
 |k+1=>Af (dP k)
theorem _root_.Go.AM.yU.NQ{dr:Prop}{P:Program}{f:FuncId}{b:Type}{h:b->AM.Spec}{c:AM.Spec}(d:b)(hs:∀i,yU dr P f (h i))(g:∀args Y Z q,c args Y Z=some q->∃i,h i args Y Z=some q):yU dr P f c:=
 ⟨(hs d).1,fun args Y Z r Y' Z' e w S G vs j k=>by obtain⟨i,a⟩:=g args Y Z _ e;exact(hs i).2 args Y Z r Y' Z' a w S G vs j k⟩
noncomputable abbrev Dz:AM.Spec:=mJ aU (fun _ _ _=>True) (fun s st _=>(Y6 s (s.length+1) st).2) (fun s st _=>.agg (Y6 s (s.length+1) st).1.V)
theorem rD{s:za}{st:Jst}{Y:Hp}{id Z:Nat}(a:Y id=some (qG s st))(hs:s.length<=1048576)(Y':st.p<=s.length):Dz [.ref id 0 0] Y Z=some (.agg (Y6 s (s.length+1) st).1.V,qb Y id (some (qG s (Y6 s (s.length+1) st).2)),Z):=vF kq (fun _=>rfl) () a hs Y' trivial
theorem DA{T:TypeId}{F:zb->zb->Option (zb×O)}{args:zb}{Y:Hp}{Z:Nat}{q:O×Hp×Nat}(h:eu T F args Y Z=some q):∃id rest cs cs' r,args=.ref id 0 0::rest/\Y id=some (zN T cs)/\F cs rest=some (cs',r)/\q=(r,qb Y id (some (zN T cs')),Z):=by
 unfold eu at h;split at h
 case h_2=>cases h
 rename_i id rest;split at h
 case isFalse=>cases h
 obtain⟨b,d,h⟩:=zT.1 h;obtain⟨cs,a,h⟩:=zT.1 h;obtain⟨⟨cs',r0⟩,c,h⟩:=zT.1 h;simp only at h;split at h
 case isFalse=>cases h
 injection h with e;obtain⟨rfl,_⟩:=YF a;exact⟨id,rest,cs,cs',r0,rfl,d,c,e.symm⟩
theorem nD:zh prog 77 Dz:=
 yU.NQ 0 dP fun args Y Z q h=>by obtain⟨id,rest,cs,cs',r,rfl,a,b,rfl⟩:=DA h;obtain⟨s,st,⟨⟩,rfl,rfl,hs,Y,_,rfl,rfl⟩:=xf b;exact⟨s.length+1,XB a hs Y (by omega)⟩
end Go.Q
namespace Go.AM
variable{dr:Prop}{C:Ctx}{N:Nat}{pf:FuncId->Bool}
variable{dr:Prop}{C:Ctx}{N:Nat}{pf:FuncId->Bool}
variable{dr:Prop}{C:Ctx}{N:Nat}{pf:FuncId->Bool}
structure Des (d:Nat->Nat) (v:Nat->O) (n:Nat) (σ0:Nat->O) (ls:Array Bool) (X:Nat->O):Prop where
 done:∀j,j<n->ls[j]?=some true->X (d j)=v j
 rest:∀t,(∀j,j<n->d j≠t)->X t=σ0 t
variable{dr:Prop}{C:Ctx}{N:Nat}{pf:FuncId->Bool}
section
variable{f:FuncId}{fn:Func}{code:Code}
theorem Ka(i:Kd C pf f fn code)(j:Bool)(T:List Nat)(F:zb->Option O)(U:∀args r,F args=some r->args.length<=fn.ntmps/\Wp dr C fn.ntmps code ⟨ka args,fun _=>none,0⟩ (KW C.P fn (Io r))):yU dr C.P f (zp j T F):=by
 refine⟨⟨fn,i.func,i.name,by rw[i.body];rfl⟩,?_⟩;intro args Y Z r Y' Z' h w S G vs L W;unfold zp at h;split at h
 ·rename_i avs Y1 s;split at h
  ·rename_i r0 t;obtain⟨hn,hW⟩:=U _ r0 t;obtain⟨S1,q,u,y⟩:=ym (dr:=dr) L s W;refine(XW i.func i.body hW (Jm (fun _=>⟨0,0,0⟩) q.inv.st q.inv.KJ) (xW u).closed hn).mono fun e M hh=>?_
   obtain⟨x,hpe,nxe,v,S',G',⟨r1,l,z⟩,N,k,hx⟩:=hh;have Q:Fr dr w (fun _=>False) M:=⟨k.fr.os,k.fr.tape,k.fr.output,k.fr.size,k.fr.drawn,fun b d _=>k.fr.block b d xF⟩;obtain⟨⟨r2,hpf⟩,A,m⟩:=zD l;simp only at m;subst m;obtain⟨S2,R,B⟩:=vZ (dr:=dr) k.inv A hx;have D:=z _ _ _ B;have n:∀b,S2 b->S1 b\/(w.heap.size<=b/\b<M.heap.size):=by
    intro b d;have o:=R.inv.st b d;rcases R.from_ b d with h1|⟨id,blk,h1,rfl⟩|h1
    ·rcases k.from_ b h1 with a|a|a
     ·exact .inl a
     ·exact(xF a).elim
     ·exact .inr ⟨a,o⟩
    ·rcases k.own id blk h1 with a|a
     ·exact(xF a).elim
     ·exact .inr ⟨a,o⟩
    ·exact absurd h1 (by omega)
   split at h
   ·rename_i g;injection h with h
    injection h with E h;injection h with H I;subst E;subst H;subst I;refine⟨v,_,G,N,jN.outer L Q,.c ?_⟩;rcases g with J|K
    ·exact b5 D J
    ·have p:=y K;exact D.mono fun b d=>⟨by rw[<-p];exact n b d,rfl⟩
   ·split at h
    ·injection h with h;injection h with E h;injection h with H I;subst E;subst H;subst I;exact⟨v,_,G,N,q.trans (jN.outer q.inv Q),.c (D.mono fun b d=>⟨n b d,rfl⟩)⟩
    ·cases h
  ·cases h
 ·cases h
end
end Go.AM
namespace Go.Q
theorem Q7{Y Y2:Hp}{Z:Nat}{x r0 r:O}(a:AM.freeze Y x=some (r0,Y2)){u:O->O}(b:od u)(c:u r0=r):Io r x Y Z:=⟨r0,by rw[a];rfl,fun w S v d=>c ▸ b w S r0 v d⟩
abbrev uR3:O->O:=FH [uV]
theorem MR:od uR3:=.qS fun u a=>by simp only[zJ,yO,or_false]at a;subst a;exact xw
noncomputable def DB (a:za×Nat):O:=.qS [.agg (xc zx a.1 a.2).1.V,int (xc zx a.1 a.2).2.1,int (xc zx a.1 a.2).2.2]
noncomputable def FRa:zb->Option O:=qD (α:=za×Nat) (fun a=>[str a.1,int a.2]) (fun a=>a.1.length<=1048576/\a.2<=a.1.length) DB
noncomputable abbrev raS:AM.Spec:=zp false [] FRa
theorem nE(s:za)(p:Nat):DB (s,p)=.qS [.agg (xc zx s p).1.V,int (xc zx s p).2.1,int (xc zx s p).2.2]:=rfl
theorem DC(s:za)(p:Nat)(Y:Hp)(Z:Nat)(hs:s.length<=1048576)(h:p<=s.length):raS [str s,int p] Y Z=some (DB (s,p),Y,Z):=
 yg (Y1:=Y) rfl (qj (V:=fun a:List UInt8×Nat=>[str a.1,int a.2]) (a:=(s,p)) (fun a b e=>by obtain⟨c,d⟩:=a;obtain⟨f,g⟩:=b;simp only[zn,z7]at e;have i:=ql e.2;exact Prod.ext (ya e.1) (by simp only;omega)) ⟨hs,h⟩) (.inr rfl)
def UD:List (Tmp×Tmp):=[(7,4),(20,4),(21,4),(22,4),(24,4),(25,4),(26,4),(29,4),(30,4),(31,4)]
def dQ(i:Nat):List (Tmp×Tmp):=if i<4 then[]else UD
theorem DD{i:Nat}(h:i<4):dQ i=[]:=zl h
@[simp]theorem E8(P:Program)(l:Qh)(i:Nat)(a:Array Oper)(d:Bool)(st:St)(K:Exit->St->Prop)(h:i<4):vB (vk P l dQ) (.region i a d) st K=bV (vk P l dQ) a a.toList st (Zo K):=xE _ i a d st K (DD h) rfl
theorem Y8{P:Program}{l:Qh}{i:Nat}{a:Array Oper}{d:Bool}{st:St}{K:Exit->St->Prop}{blk:Blk}(b:st.X 4=.ref 0 0 0)(c:st.X 7=.ref 1 0 0)(f:∀t,20<=t->t<32->st.X t=.qS [])(g:st.Y 0=some blk)(h:blk.arr=false)(k:¬i<4):vB (vk P l dQ) (.region i a d) st K=bV (vk P l dQ) a a.toList st (Zo K):=
 kK _ i a d st K (by
  rw[show(vk P l dQ).dyn i=UD from zg k];intro p Y id i j e;have Y2:p.2=4:=by simp only[UD,zJ,yO,or_false]at Y;rcases Y with rfl|rfl|rfl|rfl|rfl|rfl|rfl|rfl|rfl|rfl<;>rfl
  rw[Y2];refine⟨0,0,0,blk,b,?_,g,h⟩;simp only[UD,zJ,yO,or_false]at Y;rcases Y with rfl|Y
  ·rw[c]at e;injection e with e _ _
   omega
  ·have:20<=p.1/\p.1<32:=by rcases Y with rfl|rfl|rfl|rfl|rfl|rfl|rfl|rfl|rfl<;>decide
   rw[f _ this.1 this.2]at e;cases e) (fun s hs=>by cases hs)
noncomputable abbrev Sj:Ctx:=vk prog [(77,Dz)] dQ
theorem GY:Gd Sj:=KX _ mixed ⟨nD,by simp,trivial⟩
theorem Ah:zh prog 54 raS:=
 Ka (C:=Sj) (pf:=fun g=>([]:List Nat).contains g) ⟨func54,by kernel_rfl,rfl,by kernel_rfl⟩ false [] _ fun args r h=>by
  obtain⟨⟨s,p⟩,rfl,⟨hs,Y⟩,rfl⟩:=zQ h;simp only at hs Y;refine⟨by simp[f54],?_⟩;clear h;refine Wp.of GY (by kernel_rfl) ?_;obtain⟨x,f,m⟩:∃x f,QV zx s (s.length+1) ⟨p,0,0⟩=(x,f):=⟨_,_,rfl⟩;have g:=fun(o:Hp) (id Z:Nat) (d:o id=some (qG s ⟨p,0,0⟩))=>rD (s:=s) (st:=⟨p,0,0⟩) (Z:=Z) d hs Y
  simp only[Y6,m,wa]at g;rw[nE,xc];simp only[m];refine qq (fun X Y Z=>X 0=str s/\X 1=int p/\X 4=.ref 0 0 0/\(∀t,20<=t->t<32->X t=.qS [])/\Y 0=some Zi/\Z=1) ?_ ?_
  ·simp[Zi];intro t c j;rw[zc _ _ _ _ (by omega),zc _ _ _ _ (by omega),zc _ _ _ _ (by omega)];show([str s,int p][t]?).getD (.qS [])=_;rw[q5 (by simp only[zd,zf];omega)];rfl
  rintro X Y1 _ ⟨n,c,a,k,b,rfl⟩;refine qq (fun X Y Z=>X 4=.ref 0 0 0/\X 7=.ref 1 0 0/\(∀t,20<=t->t<32->X t=.qS [])/\Y 0=some Zi/\Y 1=some (qG s ⟨p,0,0⟩)/\Z=2) ?_ ?_
  ·simp[n,c,a,b,zc,zU,qn,zN,zA];intro t c j;rw[zc _ _ _ _ (by omega),zc _ _ _ _ (by omega),zc _ _ _ _ (by omega),zc _ _ _ _ (by omega),zc _ _ _ _ (by omega)];exact k t c j
  clear n c a k b X Y1;rintro X Y1 _ ⟨a,i,k,b,d,rfl⟩;have g:=g Y1 1 2 d;refine qq (fun X Y Z=>X 4=.ref 0 0 0/\X 7=.ref 1 0 0/\(∀t,20<=t->t<32->X t=.qS [])/\Y 0=some ⟨48,5,false,[x.V]⟩/\Y 1=some (qG s f)/\Z=2) ?_ ?_
  ·simp only[Zi]at b;simp[a,i,g,b,zc,wa];intro t c j;rw[zc _ _ _ _ (by omega),zc _ _ _ _ (by omega)];exact k t c j
  clear a i k b d g X Y1;rintro X Y1 _ ⟨a,i,k,b,d,rfl⟩;simp only[zN,zA,zd,zf,zo,Nat.reduceAdd,wa]at d b;by_cases l:f.e=0
  ·rw[zl l];simp[a,i,d,l];rw[Y8 (blk:=⟨48,5,false,[x.V]⟩) (by simp[a]) (by simp[i]) (fun t c j=>by simp;rw[zc _ _ _ _ (by omega),zc _ _ _ _ (by omega),zc _ _ _ _ (by omega),zc _ _ _ _ (by omega),zc _ _ _ _ (by omega)];exact k t c j) (by show Y1 0=_;rw[b,wa]) rfl (by omega)];simp[a,i,d,b,l,zc,f54];exact Q7 rfl .id (by simp[wa])
  ·rw[zg l];simp[a,i,d,l,vr l,bne];rw[Y8 (blk:=⟨48,5,false,[x.V]⟩) (by simp[a]) (by simp[i]) (fun t c j=>by simp;rw[zc _ _ _ _ (by omega),zc _ _ _ _ (by omega),zc _ _ _ _ (by omega),zc _ _ _ _ (by omega),zc _ _ _ _ (by omega)];exact k t c j) (by show Y1 0=_;rw[b,wa]) rfl (by omega)];simp[a,i,d,b,zU,qn,zc,f54];exact Q7 rfl MR rfl
section
variable{s:za}
def KI(s:za)(a b:Jst):Prop:=a.i<=s.length->b.i<=s.length
theorem KI.aX(a:Jst):KI s a a:=fun h=>h
theorem KI.trans{a b c:Jst}(d:KI s a b)(e:KI s b c):KI s a c:=fun h=>e (d h)
theorem Zn(st:Jst)(k:Nat)(x:Int):KI s st (st.fail s.length k x):=fun h=>by
 unfold Jst.fail;split
 ·exact Nat.min_le_right _ _
 ·exact h
theorem Yh(st:Jst):KI s st (xb s st):=fun h=>h
theorem vx(st:Jst):KI s st st.qL:=fun h=>h
theorem dR(st:Jst)(c:UInt8):KI s st (xH s st c).2:=by
 unfold xH;split
 ·exact vx st
 ·exact Zn st _ _
theorem s8:∀(w:za) (st:Jst),KI s st (oy s w st)
 |[],st=>.aX st
 |c::w,st=>by
  rw[oy];split
  ·exact(dR st c).trans (s8 w _)
  ·exact dR st c
theorem DE(a:Nat):∀(l:za) (n m:Nat) (st:Jst),KI s st (cy s a l n m st).2.2
 |[],n,m,st=>by
  rw[cy];simp only;split
  ·exact Zn _ _ _
  ·exact .aX _
 |c::l,n,m,st=>by
  rw[cy];split
  ·split
   ·exact Zn _ _ _
   ·exact(vx st).trans (DE a l _ _ _)
  ·simp only;split
   ·exact Zn _ _ _
   ·exact .aX _
theorem MS(st:Jst):KI s st (YH s st).2:=by
 unfold YH;split
 ·simp only;split
  ·exact(vx st).trans (Zn _ _ _)
  ·exact vx st
 ·exact DE _ _ _ _ _
theorem GZ(n:Nat)(st:Jst):KI s st (xv s n st).2:=by
 unfold xv;split
 ·exact(vx st).trans (DE _ _ _ _ _)
 ·exact .aX _
theorem MT(st:Jst):KI s st (JK s st).2:=by
 simp only[JK];refine KI.trans ?_ ((MS _).trans (GZ _ _));split
 ·exact vx st
 ·exact .aX _
theorem s9:∀(k n:Nat) (st:Jst),KI s st (au s k n st).2
 | 0,n,st=>vx st
 |k+1,n,st=>by
  rw[au];split
  ·exact(vx st).trans (s9 k _ _)
  ·exact(vx st).trans (Zn _ _ _)
theorem MU(st:Jst):KI s st (Zy s st).2:=by
 unfold Zy;split
 ·exact vx st
 ·split
  ·exact Zn _ _ _
  ·split
   ·exact s9 _ _ _
   ·simp only;split
    ·exact(s9 _ _ _).trans (Zn _ _ _)
    ·exact s9 _ _ _
theorem DF:∀(k:Nat) (b:za) (st:Jst),KI s st (gT s k b st).2
 | 0,b,st=>.aX st
 |k+1,b,st=>by
  rw[gT];split
  ·exact .aX _
  ·split
   ·exact Zn _ _ _
   ·split
    ·exact vx _
    ·split
     ·exact((vx st).trans (MU _)).trans (DF k _ _)
     ·exact(vx st).trans (DF k _ _)
theorem iN(st:Jst):KI s st (yR s st).2:=by
 unfold yR;split
 ·exact(dR st _).trans (DF _ _ _)
 ·exact dR st _
theorem IG{f:Jst->Val×Jst}(a:∀st,KI s st (f st).2):∀(k:Nat) (l:List Val) (st:Jst),KI s st (oz s f k l st).2
 | 0,l,st=>.aX st
 |k+1,l,st=>by
  rw[oz];split
  ·exact .aX _
  ·simp only;split
   ·exact((a st).trans (Yh _)).trans (((vx _).trans (Yh _)).trans (IG a k _ _))
   ·exact((a st).trans (Yh _)).trans (dR _ _)
theorem G3{f:Jst->Val×Jst}(a:∀st,KI s st (f st).2)(st:Jst):KI s st (vt s f st).2:=by
 unfold vt;simp only;split
 ·exact((vx st).trans (Yh _)).trans (vx _)
 ·exact((vx st).trans (Yh _)).trans (IG a _ _ _)
theorem rE(seen:List za)(st:Jst):KI s st (K5 s seen st):=by
 unfold K5;refine KI.trans ?_ ((Yh _).trans ((dR _ _).trans (Yh _)));unfold xY;split
 ·exact(iN st).trans (Zn _ _ _)
 ·exact iN st
theorem IH{f:Jst->Val×Jst}(a:∀st,KI s st (f st).2):∀(k:Nat) (seen:List za) (l:List (za×Val)) (st:Jst),KI s st (oA s f k seen l st).2
 | 0,seen,l,st=>.aX st
 |k+1,seen,l,st=>by
  rw[oA];split
  ·exact .aX _
  ·simp only;split
   ·exact rE _ _
   ·split
    ·exact(((rE _ _).trans (a _)).trans (Yh _)).trans (((vx _).trans (Yh _)).trans (IH a k _ _ _))
    ·exact(((rE _ _).trans (a _)).trans (Yh _)).trans (dR _ _)
theorem MV{f:Jst->Val×Jst}(a:∀st,KI s st (f st).2)(st:Jst):KI s st (ZQ s f st).2:=by
 unfold ZQ;simp only;split
 ·exact((vx st).trans (Yh _)).trans (vx _)
 ·exact((vx st).trans (Yh _)).trans (IH a _ _ _ _)
theorem DG(a:List (za×Val)->List (za×Val)):∀(k:Nat) (st:Jst),KI s st (QV a s k st).2
 | 0,st=>.aX st
 |k+1,st=>by
  have b:=DG a k;rw[QV];split
  ·exact Zn _ _ _
  split
  ·exact s8 _ _
  split
  ·exact s8 _ _
  split
  ·exact s8 _ _
  split
  ·exact iN _
  split
  ·exact G3 b _
  split
  ·exact MV b _
  split
  ·exact MT _
  ·exact Zn _ _ _
theorem nF{p:Nat}(h:p<=s.length):(xc zx s p).2.1<=s.length/\((xc zx s p).2.2=0->p<=(xc zx s p).2.1/\(xc zx s p).1.vb<=(xc zx s p).2.1-p+1)/\((xc zx s p).2.2≠0->(xc zx s p).1=zV):=by
 have a:=bl s (s.length+1) ⟨p,0,0⟩ h;have b:=DG (s:=s) zx (s.length+1) ⟨p,0,0⟩ (kj _);simp only[Y6]at a;simp only[xc];split
 ·exact⟨a.2.1,fun _=>⟨a.1,a.2.2⟩,fun h=>absurd rfl h⟩
 ·rename_i c;exact⟨b,fun h=>absurd h c,fun _=>rfl⟩
end
theorem Ai{st:St}{y:O}{s:Tmp}(k:Nat)(c:s-zB=k)(b:st.X s=.qS [])(d:st.X k=y)(h:y.Z8=true):vW [s] st:=fun t e=>by obtain rfl:=yk.1 e;exact⟨⟨fun id' o n a=>(by rw[b]at a;cases a),fun id' i' j' a=>by rw[b]at a;cases a⟩,fun _=>by rw[c,d];exact h⟩
noncomputable abbrev Cvap:Ctx:=ZP prog [(38,iE),(13,nd),(26,dC),(54,raS)] 7 [1000003] []
theorem G5:AM.Good Cvap (fun g=>[54].contains g):=mf mixed ⟨Q5,by simp,ZI,by simp,Y3,by simp,Ah,fun _=>zv _ _,trivial⟩ ⟨by simp,by simp,by simp,by simp,trivial⟩
noncomputable abbrev G6:AM.Spec:=mP aU (fun _ _ _=>True) (fun s st _=>(Q4 s zx st).2) (fun s st _=>.agg (Q4 s zx st).1.V)
theorem VJ{s:za}{st:Pst}{Y:Hp}{id Z:Nat}(a:Y id=some (qZ s st))(hs:s.length<=20000)(Y':st.p<=s.length):G6 [.ref id 0 0] Y Z=some (.agg (Q4 s zx st).1.V,qb Y id (some (qZ s (Q4 s zx st).2)),Z):=va kq (fun _=>rfl) () a hs Y' trivial
theorem II:zV.vb=1:=by rw[xa];simp[zV,Val.s,Val.items,Val.fields,kf,QM]
theorem dS{s:za}{st:Pst}(h:st.p<=s.length):(Q4 s zx st).2.p<=s.length/\(Q4 s zx st).2.d=st.d/\((Q4 s zx st).2.e=0->st.e=0/\st.p<=(Q4 s zx st).2.p/\(Q4 s zx st).1.vb<=(Q4 s zx st).2.p-st.p+1)/\((Q4 s zx st).2.e≠0->(Q4 s zx st).1=zV):=by
 have a:=jJ (s:=s) h;have c:=WV (s:=s) a.2.1;have f:=nF (s:=s) a.2.1;simp only[Q4];split
 ·rename_i b;exact⟨a.2.1,a.2.2.2.2,fun e=>absurd (a.2.2.1.symm.trans e) b,fun _=>rfl⟩
 ·rename_i b;have b:st.e=0:=by simpa using b
  split
  ·exact⟨c.2.1,c.2.2.1.trans a.2.2.2.2,fun e=>absurd e c.2.2.2,fun _=>rfl⟩
  ·simp only[Pst.mv];refine⟨f.1,?_,?_,?_⟩
   ·split
    ·exact a.2.2.2.2
    ·rw[(Qs _ _ _).2];exact a.2.2.2.2
   ·split
    ·rename_i g;have:=f.2.1 g;intro _;exact⟨b,by omega,by omega⟩
    ·intro e;exfalso;unfold Pst.fail at e;rw[zl (a.2.2.1.trans b)]at e;simp at e
   ·split
    ·intro e;exact absurd (a.2.2.1.trans b) e
    ·rename_i g;intro _;exact f.2.2 g
theorem fT:zh prog 41 G6:=
 wZ (code:=_) G5 ⟨func41,by kernel_rfl,rfl,by kernel_rfl⟩ TP _ fun cs az cs' r h=>by
  obtain⟨s,st,⟨⟩,rfl,rfl,hs,Y,hk,rfl,rfl⟩:=jB h;refine⟨by simp[aU,f41],?_⟩;clear h;have u:=jJ (s:=s) Y;have E:=dD (s:=s) Y;obtain⟨f,J⟩:=yX (jg s st);obtain⟨w,M⟩:=yX (Yn s st);simp only[Q4];rw[J]at u E;rw[M]at E;rw[J,M];refine qq (fun X Y Z=>X 0=.ref 0 0 0/\X 2=.ref 1 0 0/\X 1000003=.qS []/\Y 0=some (qZ s st)/\Y 1=some Zi/\Z=2) (by simp[aU,qM,zN,zG,Zi,zc,ka]) ?_;rintro X Y1 _ ⟨b,d,j,n,o,rfl⟩;have N:=Z4 (Z:=2) n hs Y;rw[J,M]at N;refine qq (fun X Y Z=>X 0=.ref 0 0 0/\X 2=.ref 1 0 0/\X 1000003=.qS []/\X 3=str w/\Y 0=some (qZ s f)/\Y 1=some Zi/\Z=2) (by simp[b,d,j,N,o,zc]) ?_;clear b d j n o N X Y1;rintro X Y1 _ ⟨b,d,j,t,n,o,rfl⟩;have y:=n;have B:=o;simp only[Zi]at B;simp only[zN,zG,zd,zf,zo,Nat.reduceAdd]at y;have F:f.e=st.e:=u.2.2.1;by_cases K:st.e=0
  case neg=>
   have C:¬f.e=0:=by rw[F];exact K
   rw[zl K];simp[b,d,y,B,C,vr C,bne,zU,qn,f41];exact qB rfl (by rw[zc _ _ _ _ (by decide)];exact n) xw rfl
  rw[zg (by simpa using K)];have C:f.e=0:=F.trans K;refine qq (fun a Y Z=>a 0=.ref 0 0 0/\a 2=.ref 1 0 0/\a 1000003=.qS []/\a 3=str w/\Y=Y1/\Z=2) (by simp[b,d,t,j,y,C]) ?_;clear b d t j X;rintro X Y1 _ ⟨b,d,j,t,rfl,rfl⟩;have P:=Z5 (Z:=2) n hs u.2.1;have Q:eL s f=eL s (jg s st):=by rw[J]
  simp only[zN,zG,zd,zf,zo,Nat.reduceAdd]at P;cases v:pZ w
  case true=>
   rw[zl rfl];cases w with
   |nil=>cases v
   |cons c l=>
    simp only[pZ,zs,qE,Qw]at v;obtain⟨⟨⟨⟨R,S⟩,D⟩,G⟩,L⟩:=v;have i:(97:Int)<=c.toNat:=by have:=wq.1 R;simp at this;omega
    have k:(c.toNat:Int)<=122:=by have:=wq.1 S;simp at this;omega
    simp[b,d,t,i,k,D,G,L,P,B,zc,zU,qn,f41];exact qB rfl (by simp[zc,zN,zG]) xw rfl
  rw[zg (by simp)];refine qq (fun a Y Z=>a 0=.ref 0 0 0/\a 2=.ref 1 0 0/\a 1000003=.qS []/\a 3=str w/\Y=Y1/\Z=2) ?_ ?_
  ·cases w with
   |nil=>simp[b,d,t,j]
   |cons c l=>
    by_cases R:97<=c.toNat
    case neg=>
     have i:¬(97:Int)<=c.toNat:=by omega
     simp[b,d,t,j,i]
    have i:(97:Int)<=c.toNat:=by omega
    by_cases S:c.toNat<=122
    case neg=>
     have k:¬(c.toNat:Int)<=122:=by omega
     simp[b,d,t,j,i,k]
    have k:(c.toNat:Int)<=122:=by omega
    have d1:decide (97<=c)=true:=by simpa[wq]using R
    have d2:decide (c<=122)=true:=by simpa[wq]using S
    cases D:(c::l==[110,117,108,108])
    case true=>simp[b,d,t,j,i,k,D]
    cases G:(c::l==[116,114,117,101])
    case true=>simp[b,d,t,j,i,k,D,G]
    cases L:(c::l==[102,97,108,115,101])
    case true=>simp[b,d,t,j,i,k,D,G,L]
    simp only[pZ,d1,d2,D,G,L]at v;cases v
  clear b d j t P Q v X;rintro X Y1 _ ⟨b,d,j,t,rfl,rfl⟩;have hr:=nF (s:=s) u.2.1;have g:=fun Y Z=>DC s f.p Y Z (by omega) u.2.1
  simp only[nE]at g;obtain⟨⟨x,q,e⟩,hx⟩:∃r,xc zx s f.p=r:=⟨_,rfl⟩;rw[hx]at hr;simp only[hx]at g hr⊢;simp only[wa]at g;refine qq (fun a Y Z=>a 0=.ref 0 0 0/\a 2=.ref 1 0 0/\a 4=.ref 2 0 0/\a 5=int q/\a 6=int e/\Y 0=some (qZ s f)/\Y 1=some Zi/\Y 2=some ⟨48,5,false,[x.V]⟩/\Z=3) ?_ ?_
  ·rw[ar (Ai 3 (by decide) j t rfl)];simp[b,d,y,o,g,zc,wa,zN,zG]
  clear b d j t n y o B X Y1;rintro X Y1 _ ⟨b,d,H,I,T,n,o,m,rfl⟩;simp only[Zi]at o;simp only[wa]at m;obtain⟨U,z⟩:=yX (if e=0 then f else f.fail q 10);rw[z];have W:=WU (Z:=3) q 10 n hs u.2.1;simp only[zN,zG,zd,zf,zo,Nat.reduceAdd]at W;refine qq (fun a Y Z=>a 0=.ref 0 0 0/\a 2=.ref 1 0 0/\a 4=.ref 2 0 0/\a 5=int q/\Y 0=some (qZ s U)/\Y 1=some Zi/\Y 2=some ⟨48,5,false,[x.V]⟩/\Z=3) ?_ ?_
  ·by_cases A:e=0
   ·rw[zl A]at z;subst z;simp[b,d,H,I,T,A,n,o,m,wa,Zi]
   ·rw[zg A]at z;subst z;simp[b,d,H,I,T,A,vr A,bne,W,o,m,wa,Zi,zc,zN,zG]
  clear b d H I T n o m W X Y1;rintro X Y1 _ ⟨b,d,H,I,n,o,m,rfl⟩;simp only[Zi]at o;simp only[wa]at m;simp only[zN,zG,zd,zf,zo,Nat.reduceAdd]at n;simp[b,d,H,I,n,o,m,zc,Pst.mv,f41];exact qB rfl (by simp[zc,zN,zG]) .id (by simp[wa])
noncomputable def JP (p:Val):List Val->List Val
 |[]=>[]
 |b::l=>if(qJ b p==0)=true then JP b l else b::JP b l
noncomputable def XC:List Val->List Val
 |[]=>[]
 |a::l=>a::JP a l
noncomputable def FVq:zb->Option O:=qD (α:=Val×Val) (fun a=>[.agg a.1.V,.agg a.2.V]) (fun a=>a.1.vb<=zX/\a.2.vb<=zX) (fun a=>yW (qJ a.1 a.2==0))
theorem nG(a b:Val)(Y:Hp)(Z:Nat)(c:a.vb<=zX)(d:b.vb<=zX):zp false [] FVq [.agg a.V,.agg b.V] Y Z=some (yW (qJ a b==0),Y,Z):=
 sn (a,b) _ _ (by simp[wa]) (fun a b e=>by obtain⟨f,g⟩:=a;obtain⟨h,i⟩:=b;simp only[zn,z7,O.agg.injEq]at e;rw[vE e.1,vE e.2]) ⟨c,d⟩ (.inl rfl)
noncomputable abbrev Cvq:Ctx:=qp prog [(48,zp false [] (Mh zX))]
theorem MW:AM.Good Cvq (fun g=>[48].contains g):=qH mixed ⟨ZY zX,fun _=>zv _ _,trivial⟩
theorem DH:zh prog 57 (zp false [] FVq):=
 XV MW func57 false [] fun⟨a,b⟩ ⟨c,d⟩=>by
  simp only at c d;have g:=fun Y Z=>YT zX a b Y Z ⟨c,c,d⟩
  simp only[wa]at g;refine⟨by simp[f57],_,zw rfl (r:=yW (qJ a b==0)) ?_,wy _⟩;simp[g,wa,zc,f57]
noncomputable abbrev MX:Ctx:=qp prog [(57,zp false [] FVq)]
theorem G7:Gd MX:=qT mixed ⟨DH,trivial⟩
noncomputable abbrev MY:AM.Spec:=kE MX f56
theorem Aj:zh prog 56 MY:=KZ G7 func56
abbrev Y9(es:List zb):Blk:=⟨48,5,true,es⟩
def CptK(id:Nat)(l:List Val)(a:Hp)(b:Nat)(x:O)(Y:Hp)(Z:Nat):Prop:=Z=b/\∃k es,x=.own id 0 k/\Y=qb a id (some (Y9 es))/\es.take k=(XC l).map Val.V/\k<=es.length
theorem DI{Y:Hp}{id n k:Nat}{es:List zb}{K:Int}(a:Y id=some (Y9 es))(b:K=(k:Int))(f:0<k)(h:k<n):yL prog Y 22 (.own id 0 n) (some (some (int K))) none=some (.own id k (n-k)):=by
 subst b;have c:¬k=0:=by omega
 have d:¬n=k:=by omega
 have e:k<=n:=by omega
 simp[yL,underlying22,je,a,c,d,e]
theorem MZ{Y:Hp}{id n k:Nat}{es:List zb}{K:Int}(a:Y id=some (Y9 es))(b:K=(k:Int))(h:k<=n):yL prog Y 22 (.own id 0 n) none (some (some (int K)))=some (.own id 0 k):=by subst b;simp[yL,underlying22,je,a,h]
theorem DJ{Y:Hp}{id Z n k:Nat}{es:List zb}(b:Y id=some (Y9 es))(e:es.length=n)(h:k<n):∃a,Yq prog Y Z 22 (.own id k (n-k))=some (.qS [],qb Y id (some (Y9 a)),Z)/\a.take k=es.take k/\k<=a.length:=by
 have c:k+(n-k)<=es.length:=by omega
 have d:0<n-k:=by omega
 have f:k<=es.length:=by omega
 refine⟨es.take k++List.replicate (n-k) [int 0,int 0,str [],.nil,.nil]++es.drop (k+(n-k)),?_,?_,?_⟩
 ·simp[Yq,b,c,d]
 ·rw[qt,List.take_append_of_le_length (by rw[Eu];omega),List.take_take,Nat.min_self]
 ·simp;omega
theorem G8{Y:Hp}{id a:Nat}{es:List zb}(j:Y id=some (Y9 es))(h:a<es.length)(k:∀c∈es,c.length=5)(y:Val):kG prog Y 48 (.ref id a 0) (.agg y.V)=some (qb Y id (some (Y9 (es.set a y.V)))):=by
 have i:=k es[a] (zz h);obtain⟨b,d,e,f,g,l⟩:∃b d e f g,es[a]=[b,d,e,f,g]:=by
  generalize es[a]=c at i
  match c,i with
  |[b,d,e,f,g],_=>exact⟨b,d,e,f,g,rfl⟩
 have m:es[a]?=some [b,d,e,f,g]:=by rw[zm h,l]
 simp[kG,j,m,wa,wW,O.cells,O.we]
theorem G9{l:List Val}(h:l.length<2):XC l=l:=
 match l,h with
 |[],_=>by simp[XC]
 |[a],_=>by simp[XC,JP]
 |_::_::_,h=>by simp only[zd]at h;omega
theorem Ha{l:List Val}(hl:kf l<=zX){Y:Hp}{Z id:Nat}(hid:id<Z)(W:Y id=some (Y9 (l.map Val.V))):∃x Y' Z',yd MX f56 [.own id 0 l.length,.fn (.func 57) [] []] Y Z=some (x,Y',Z')/\CptK id l Y Z x Y' Z':=by
 refine wX rfl ?_;have hlen:=y7 l;have hlim:zX=268435456:=rfl;have B:=fun(x:Val) (hx:x∈l)=>kA hx
 have s:qb Y id (some (Y9 (l.map Val.V)))=Y:=by
  funext j;by_cases f:j=id
  ·subst f;rw[q9,W]
  ·rw[zc _ _ _ _ f]
 by_cases N:l.length<2
 ·have F:(l.length:Int)<2:=by omega
  simp[F,f56];exact⟨rfl,l.length,l.map Val.V,rfl,s.symm,by rw[G9 N,qv (by simp)],by simp⟩
 have F:¬(l.length:Int)<2:=by omega
 refine qq (fun X Y1 e=>X 0=.own id 0 l.length/\X 1=.fn (.func 57) [] []/\Y1=Y/\e=Z) (by simp) ?_;rintro X Y Z ⟨o,f,rfl,rfl⟩;refine qq (fun X Y1 e=>X 0=.own id 0 l.length/\X 1=.fn (.func 57) [] []/\Y1=Y/\e=Z) (by simp[o,f,F]) ?_;clear o f X;rintro X Y Z ⟨o,f,rfl,rfl⟩;refine qq (fun X Y1 e=>X 0=.own id 0 l.length/\XC l=l/\Y1=Y/\e=Z) ?_ ?_
 case refine_2=>clear o f X;rintro X Y Z ⟨o,v,rfl,rfl⟩;simp[o,f56];exact⟨rfl,l.length,l.map Val.V,rfl,s.symm,by rw[v,qv (by simp)],by simp⟩
 simp;refine qA (fun i X Y1 e=>X 0=.own id 0 l.length/\X 1=.fn (.func 57) [] []/\Y1=Y/\e=Z/\∃k:Nat,k=i+1/\X 5=int ((i:Int)+1)/\k<=l.length/\∃p,l[i]?=some p/\XC l=l.take k++JP p (l.drop k)) (l.length-1) ?_ ?_
 ·refine⟨by simp[o],by simp[f],rfl,rfl,1,rfl,by simp,by omega,?_⟩
  match l,N with
  |[],N=>simp at N
  |a::l,N=>exact⟨a,rfl,by simp[XC]⟩
 clear o f X;rintro i X _ _ hi ⟨o,f,rfl,rfl,k,rfl,C,hk,p,Y0,v⟩;by_cases w:i+1<l.length
 ·have b:(i:Int)+1<l.length:=by omega
  obtain⟨q,P⟩:∃q,l[i+1]?=some q:=⟨_,zm w⟩;have SJ:=B p (zI Y0);have hqv:=B q (zI P);have g:=fun Y Z=>nG q p Y Z (by omega) (by omega)
  have J:IntKind.i64.wrap ((i:Int)+1-1)=(i:Int):=by rw[wN (by omega) (by omega)];omega
  have u:=wY (i:Int);have L:((i:Int)+1).toNat=i+1:=by omega
  have M:(0:Int)<=(i:Int)+1:=by omega
  have G:i<l.length:=by omega
  have w2:=wY ((i:Int)+1+1);have Q:l.drop (i+1)=q::l.drop (i+1+1):=by rw[zj w,(ze.1 P).2]
  have D:l[i+1]=q:=(ze.1 P).2;have Y':l[i]=p:=(ze.1 Y0).2;rw[Q,JP]at v;cases d:(qJ q p==0)
  ·rw[d]at g v;simp only[zq,qf]at v;simp[o,f,C,b,w,G,W,J,u,w2,L,M,D,Y',g];exact⟨by omega,by omega,by rw[qR w,D,qt];exact v⟩
  ·rw[d]at g v;simp only[qa]at v;obtain⟨k,R⟩:=yX (i+1);rename_i Y Z;have s1:=DI (K:=(i:Int)+1) (n:=l.length) (k:=k) W (by omega) (by omega) (by omega);simp[o,f,C,b,w,G,W,J,u,L,M,D,Y',g,s1];rw[R]at v Q P;refine qA (fun m X Y1 e=>X 0=.own id 0 l.length/\X 1=.fn (.func 57) [] []/\X 6=.own id k (l.length-k)/\X 7=int ((m:Int)+1)/\e=Z/\k+m<l.length/\∃(r:Nat) (es:List zb) (x:Val),X 5=int r/\Y1=qb Y id (some (Y9 es))/\es.length=l.length/\1<=r/\(∀c∈es,c.length=5)/\r<=k+m/\l[k+m]?=some x/\es.take r++(JP x (l.drop (k+m+1))).map Val.V=(XC l).map Val.V/\∀z,k+m<=z->es[z]?=(l.map Val.V)[z]?) (l.length-k) ?_ ?_
   ·exact⟨by simp[o],by simp[f],by simp,by simp,rfl,by omega,k,l.map Val.V,q,by simp[C,<-R],s.symm,by simp,by omega,fun c t=>by obtain⟨z,_,rfl⟩:=zZ.1 t;simp[wa],by omega,P,by rw[v,JI,List.map_take],fun _ _=>rfl⟩
   clear o f C b G J u L M D Y' g d Q SJ hqv s1 X;rintro m X _ Z hm ⟨o,f,h6,h7,rfl,hkm,r,es,x,C,rfl,H,Pb,A,hkm2,hx,t,E⟩;by_cases S:k+m+1<l.length
   ·have b:(m:Int)+1<((l.length-k:Nat):Int):=by omega
    obtain⟨y,hy⟩:∃y,l[k+m+1]?=some y:=⟨_,zm S⟩;have hxv:=B x (zI hx);have hyv:=B y (zI hy);have g:=fun Y Z=>nG y x Y Z (by omega) (by omega)
    have J:IntKind.i64.wrap ((m:Int)+1-1)=(m:Int):=by rw[wN (by omega) (by omega)];omega
    have u:=wY (m:Int);have w2:=wY ((m:Int)+1+1);have w3:=wP r;have L:((m:Int)+1).toNat=m+1:=by omega
    have M:(0:Int)<=(m:Int)+1:=by omega
    have l1:m+1<l.length-k:=by omega
    have l2:m<l.length-k:=by omega
    have ex:es[k+m]?=some x.V:=by rw[E _ (zi _),z8,hx];rfl
    have ey:es[k+(m+1)]?=some y.V:=by rw[E _ (by omega),z8,show k+(m+1)=k+m+1 by omega,hy];rfl
    have Q:l.drop (k+m+1)=y::l.drop (k+(m+1)+1):=by rw[zj S,(ze.1 hy).2];rfl
    rw[Q,JP]at t;have T:l[k+(m+1)]?=some y:=hy;cases d:(qJ y x==0)
    ·rw[d]at g t;simp only[zq,qf,zL]at t;have Nw:r<es.length:=by omega
     have U:r<l.length:=by omega
     have st1:=fun(Y0:Hp) (hb:Y0 id=some (Y9 es))=>G8 hb Nw A y
     have st2:=st1 (qb Y id (some (Y9 es))) (by simp);simp[o,f,C,h6,h7,b,l1,l2,J,u,w2,w3,L,M,ex,ey,g,U,st2];refine⟨by omega,by omega,r+1,by omega,es.set r y.V,rfl,by simp[H],by omega,?_,by omega,y,T,?_,?_⟩
     ·intro c t;rcases rX t with h|h
      ·exact A c h
      ·rw[h];simp[wa]
     ·rw[<-t,qR (by simp;omega),List.take_set_of_le (zi _)];simp
     ·intro z hz;rw[ea (by omega),<-z8];exact E z (by omega)
    ·rw[d]at g t;simp only[qa]at t;simp[o,f,C,h6,h7,b,l1,l2,J,u,w2,L,M,ex,ey,g];exact⟨by omega,by omega,r,rfl,es,rfl,H,Pb,A,by omega,y,T,t,fun z hz=>by rw[<-z8];exact E z (by omega)⟩
   ·have b:¬(m:Int)+1<((l.length-k:Nat):Int):=by omega
    have hb:qb Y id (some (Y9 es)) id=some (Y9 es):=by simp
    obtain⟨I,c1,c2,c3⟩:=DJ (Z:=Z) (k:=r) hb H (by omega);have s1:=DI (K:=(r:Int)) (n:=l.length) (k:=r) hb rfl (by omega) (by omega);have s2:=MZ (Y:=qb Y id (some (Y9 I))) (K:=(r:Int)) (n:=l.length) (k:=r) (es:=I) (q9 _ _ _) rfl (by omega);rw[VW (by omega),JP]at t;simp only[xn,yo]at t;simp[o,f,C,h6,h7,b,s1,c1,s2,f56];exact⟨rfl,r,I,rfl,rfl,by rw[c2];exact t,c3⟩
 ·have hie:i+1=l.length:=by omega
  have b:¬(i:Int)+1<l.length:=by omega
  simp[o,C,b];rw[hie,js,zE,JP,yo]at v;exact v
noncomputable def jC (l:List Val):List Val:=XC (ke l)
theorem ta:∀(l:List Val) (p:Val),Dg (p::l)->JP p l=l
 |[],_,_=>by simp[JP]
 |b::l,p,h=>by
  have c:=(oa.1 h).1 b (by simp);have a:(qJ b p==0)=false:=by
   have:¬qJ b p=0:=fun e=>by have:=(Je.eq b p).1 e;omega
   simpa using this
  rw[JP,a];simp only[zq,qf];rw[ta l b (oa.1 h).2]
theorem Hb(l:List Val)(h:Dg l):jC l=l:=by
 rw[jC,rq h];cases l with
 |nil=>simp[XC]
 |cons a l=>rw[XC,ta l a h]
theorem nH:∀(l:List Val) (p:Val),kf (JP p l)<=kf l
 |[],_=>by simp[JP]
 |b::l,p=>by rw[JP];have:=nH l b;split<;>simp only[kf]<;>omega
theorem DK(l:List Val):kf (jC l)<=kf l:=by
 rw[<-nt (vc l).2.1,jC];cases ke l with
 |nil=>simp[XC]
 |cons a l=>have:=nH l a;rw[XC];simp only[kf];omega
noncomputable abbrev Cvs:Ctx:=qp prog [(20,nf),(41,G6),(55,QT 5 48 GJ GK),(56,MY)]
theorem M0:Gd Cvs:=qT mixed ⟨JB,fT,nr,Aj,trivial⟩
noncomputable abbrev M1:AM.Spec:=mP aU (fun _ _ _=>True) (fun s st _=>(mZ s zx jC st).2) (fun s st _=>.sl 5 ((mZ s zx jC st).1.map Val.V))
theorem DL{s:za}{st:Pst}{Y:Hp}{id Z:Nat}(a:Y id=some (qZ s st))(hs:s.length<=20000)(Y':st.p<=s.length):M1 [.ref id 0 0] Y Z=some (.sl 5 ((mZ s zx jC st).1.map Val.V),qb Y id (some (qZ s (mZ s zx jC st).2)),Z):=va kq (fun _=>rfl) () a hs Y' trivial
def Zq(s:za)(st:Pst):Nat:=(if st.e=0 then s.length-st.p else 0)+1
theorem dT{s:za}{st:Pst}(h:st.e=0):Zq s st=s.length-st.p+1:=by rw[Zq,zl h]
theorem VK(s:za)(st:Pst):1<=Zq s st/\Zq s st<=s.length+1:=by unfold Zq;split<;>omega
theorem nI{s:za}{st:Pst}(h:st.p<=s.length)(g:(j8 s st [124]).1=true):(j8 s st [124]).2.p<=s.length/\(Q4 s zx (j8 s st [124]).2).2.p<=s.length/\Zq s (Q4 s zx (j8 s st [124]).2).2<Zq s st/\(Q4 s zx (j8 s st [124]).2).2.d=st.d/\st.e=0/\((Q4 s zx (j8 s st [124]).2).2.e=0->st.p<=(Q4 s zx (j8 s st [124]).2).2.p/\(Q4 s zx (j8 s st [124]).2).1.vb<=(Q4 s zx (j8 s st [124]).2).2.p-st.p)/\((Q4 s zx (j8 s st [124]).2).2.e≠0->(Q4 s zx (j8 s st [124]).2).1.vb=1):=by
 have b:=jx (s:=s) [124] h;have c:=b.2.2.2.2 g;have a:=dS (s:=s) b.2.1;simp only[zd,zf]at c;refine⟨b.2.1,a.1,?_,a.2.1.trans b.2.2.2.1,c.1,?_,fun e=>by rw[a.2.2.2 e,II]⟩
 ·rw[dT c.1];unfold Zq;split
  ·rename_i f;have:=a.2.2.1 f;omega
  ·omega
 ·intro f;have:=a.2.2.1 f;omega
def VsI(s:za)(r:List Val×Pst)(n:Nat)(st:St):Prop:=st.X 0=.ref 0 0 0/\0<st.Z/\∃l a j,qV st.Y st.Z 48 5 (st.X 3) (l.map Val.V)/\st.Y 0=some (qZ s a)/\a.p<=s.length/\Zq s a=n/\n<=j/\1<=l.length/\l.length+n<=s.length+2/\kf l<=s.length+2/\(a.e=0->kf l<=a.p+1)/\mY s zx j l a=r
def VsE(s:za)(r:List Val×Pst)(st:St):Prop:=st.X 0=.ref 0 0 0/\0<st.Z/\∃l a,qV st.Y st.Z 48 5 (st.X 3) (l.map Val.V)/\st.Y 0=some (qZ s a)/\1<=l.length/\kf l<=s.length+2/\(l,a)=r
theorem Ak:zh prog 43 M1:=
 yQ (C:=Cvs) func43 (by kernel_rfl) rfl TP _ fun cs az cs' r h=>by
  obtain⟨s,st,⟨⟩,rfl,rfl,hs,Y,_,rfl,rfl⟩:=jB h;refine⟨by simp[aU,f43],?_⟩;clear h;have B:=M0;have U:zX=268435456:=rfl;have o:=jx (s:=s) [110,101,118,101,114] Y;have u:nf [.ref 0 0 0,str [110,101,118,101,114]] (qM TP (zG s st)) 1=some (yW (j8 s st [110,101,118,101,114]).1,qb (qM TP (zG s st)) 0 (some (qZ s (j8 s st [110,101,118,101,114]).2)),1):=vw [110,101,118,101,114] rfl hs Y;obtain⟨G,c,D⟩:∃G c,j8 s st [110,101,118,101,114]=(G,c):=⟨_,_,rfl⟩;simp only[mZ];rw[D]at u o;simp only[D];simp only at u o;refine Wp.cut B (fun X Y Z=>X 0=.ref 0 0 0/\X 2=.nil/\Y=qM TP (zG s st)/\Z=1) (by kernel_rfl) (by simp[aU]) ?_;rintro X _ _ ⟨f,h2,rfl,rfl⟩;cases G
  case true=>simp only[qa];refine Wp.seq (Wp.of B (by kernel_rfl) ?_);simp[f,u,f43];exact qB rfl (by simp) (.nz 5) rfl
  simp only[zq,qf];refine Wp.cut B (fun E Y Z=>E 0=.ref 0 0 0/\Y 0=some (qZ s c)/\Z=1) (by kernel_rfl) (by simp[f,u]) ?_;clear f h2 u X;rintro X Y1 _ ⟨f,v,rfl⟩;have i:=dS (s:=s) o.2.1;have q:=VJ (Z:=1) v hs o.2.1;obtain⟨x,a,H⟩:∃x a,Q4 s zx c=(x,a):=⟨_,_,rfl⟩;rw[H]at q i;simp only[H];simp only at q i;simp only[wa]at q;obtain⟨r,m⟩:=yX (mY s zx (s.length+1) [x] a);rw[m];refine Wp.cut B (fun E Y Z=>VsI s r (Zq s a) ⟨E,Y,Z⟩) (by kernel_rfl) ?_ ?_
  ·simp[f,q,zu,zP,zr];have I:=VK s a;have w:x.vb<=s.length+2/\(a.e=0->x.vb<=a.p+1):=by
    by_cases y:a.e=0
    ·have:=i.2.2.1 y;exact⟨by omega,fun _=>by omega⟩
    ·have:=i.2.2.2 y;rw[this,II];exact⟨by omega,fun h=>absurd h y⟩
   exact⟨by simp[f],by simp,[x],a,s.length+1,.inr ⟨1,by simp,by simp,by simp[wa]⟩,by simp[zc],i.1,rfl,I.2,by simp,by simp;omega,by simp[kf];omega,fun y=>by simp[kf];exact w.2 y,m⟩
  clear f v q X Y1;rintro X Y1 Z W;refine Wp.seq (Wp.mono (K:=fun e Q=>e=.normal/\VsE s r Q) (Wp.block (Wp.loop (VsI s r) _ W ?_)) ?_)
  ·clear W m H i o D X Y1 Z c a x;rintro n ⟨X,Y1,Z⟩ ⟨f,t,l,c,j,A,v,J,hn,hnj,F,hln,L,M,m⟩;simp only at f t A v;have I:=VK s c;have g:=wc A v rfl;obtain⟨j,rfl⟩:∃j',j=j'+1:=⟨j-1,by omega⟩;rw[mY]at m;have u:=vw (Z:=Z) [124] v hs J;have d:=fun D=>nI (s:=s) J D
   obtain⟨R,a,D⟩:∃R a,j8 s c [124]=(R,a):=⟨_,_,rfl⟩;rw[D]at u m d;simp only at u m d;cases R
   ·simp only[zq,qf]at m;refine Wp.of B (by kernel_rfl) ?_;simp[f,u];exact⟨by simp[f],t,l,a,by simpa using A.put g (some (qZ s a)),by simp,F,L,m⟩
   ·simp only[qa]at m;have d:=d rfl;have q:=VJ (Y:=qb Y1 0 (some (qZ s a))) (id:=0) (Z:=Z) (by simp) hs d.1;obtain⟨x,b,H⟩:∃x b,Q4 s zx a=(x,b):=⟨_,_,rfl⟩;rw[H]at q m d;simp only at q m d;rw[wI]at q;obtain⟨Y2,a1,O2,f2⟩:=nv (A.put g (some (qZ s b))) x (by omega);have b2:Y2 0=some (qZ s b):=by rw[f2 0 t g];simp
    simp only[wa]at a1 q;refine Wp.of B (by kernel_rfl) ?_;simp[f,u,q,a1,zu,zP,zr];obtain⟨r1,r2,r3,r4,r5,r6,r7⟩:=d;have M:=M r5;have w:kf (l++[x])<=s.length+2/\(b.e=0->kf (l++[x])<=b.p+1):=by
     rw[VI];by_cases y:b.e=0
     ·have:=r6 y;exact⟨by omega,fun _=>by omega⟩
     ·have:=r7 y;exact⟨by omega,fun h=>absurd h y⟩
    exact⟨Zq s b,by omega,by simp[f],by simp only;omega,l++[x],b,j,by simpa using O2,b2,r2,rfl,by omega,by simp,by simp;omega,w.1,w.2,m⟩
  ·rintro e ⟨σ2,Y2,HI⟩ ⟨rfl,f,t,l,S,A,v,F,L,rfl⟩;simp only at f t A v;simp only[JC];have g:=wc A v rfl;obtain⟨z,s1,O3,f3⟩:=ru (by omega) A;have G:z 0=some (qZ s S):=by rw[f3 0 g];exact v
   have I1:1<=(ke l).length:=by rw[(vc l).2.1.length_eq];exact F
   rcases O3 with⟨_,e⟩|⟨id,hid,T,hh⟩
   ·have:(ke l).length=0:=by simpa using zk List.length e
    omega
   rw[yK]at T;rw[T]at s1 g;have N:id≠0:=fun e=>g _ (by rw[e])
   obtain⟨x,hp4,P,c1,rfl,k,es,rfl,rfl,c2,c3⟩:=Ha (l:=ke l) (by rw[nt (vc l).2.1];omega) hid hh;have c0:MY [.own id 0 (ke l).length,.fn (.func 57) [] []] z P=some (.own id 0 k,qb z id (some (Y9 es)),P):=by rw[<-c1];exact zl (by simp[f56])
   refine Wp.of B (by kernel_rfl) ?_;simp[f,T,s1,c0,f43];exact qB (r0:=.sl 5 (es.take k)) (Y2:=qb (qb z id (some (Y9 es))) id none) (by simp[AM.freeze,zS,qh,c3]) (by rw[zc _ _ _ _ (Ne.symm N),zc _ _ _ _ (Ne.symm N)];exact G) .id (by rw[c2];rfl)
theorem DM:A4 prog 9=true:=by kernel_rfl
theorem tc:ly prog 5=true:=by kernel_rfl
def M3:AM.Spec:=fun args Y Z=>match args with
 |[.ref id 0 0]=>match Y id with
  |some b=>if b.e=37/\b.s=2/\b.arr=false then match b.es with
    |[[.v (.pointer none),x]]=>some (.qS [],qb Y id (some ⟨37,2,false,[[.ref id 0 0,x]]⟩),Z)
    |[[.ref i 0 0,_]]=>if i=id then some (.qS [],Y,Z)else none
    |_=>none
   else none
  |none=>none
 |_=>none
def Al:AM.Spec:=fun args Y Z=>match args with
 |[.ref id 0 0]=>(Y id).bind fun b=>(J1 37 5 Y id b).bind fun s=>if s.1.length=0 then none else some (str s.1,qb s.2 id none,Z)
 |_=>none
theorem Am(w:World)(a:Addr)(p:Option Addr)(v:Value)(h:w.cell? a=some v)(b:w.frozen? a=false):(Instr.storeAt 34 (.pointer (some a)) (.pointer p)).run prog w=.ok () (w.setCell a (.pointer p)):=by
 have c:=isAgg34;have d:=sizeOf34;simp[Instr.storeAt,storeVar,Instr.sureAddr,c,d];have e:a.add 0=a:=by simp[Addr.add]
 simp[Value.cells,storeCells,run_store_pointer,stored,e,h,b]
theorem IJ:(prog.info? 37).map (·.size)=some 2:=by kernel_rfl
theorem DN:prog.cellsOf 37=2:=by kernel_rfl
theorem DO(d a:Nat)(h:1<=a):liesAt prog (d+1) 37 a 0 37 1=true:=by
 have b:∃k,prog.depth=k+1:=⟨2*(prog.types.size+Made.depth)+1,rfl⟩;obtain⟨k,c⟩:=b;have hs:sameLayout prog (k+1) 37 37=true:=by simp[sameLayout]
 simp only[liesAt,c,rowAt,DN];simp[hs,h]
theorem Hc(b:Nat)(w:World)(h0:w.cell? ⟨b,0,none⟩=some (.pointer (some ⟨b,0,none⟩))):Calls prog 37 #[.pointer (some ⟨b,0,none⟩)] w fun e w'=>e=.returned (.tuple #[])/\w'=w:=by
 obtain⟨j,hj,_⟩:=VT.1 IJ
 go_enter func37,Tryz.ntmps37
 go_wp2
 rw[Lib.run_neq_ptr_same w _ underlying34 hj]
 go_wp2
 go_end0
 exact⟨rfl,rfl⟩
theorem DP(b z:Nat)(w:World)(h0:w.cell? ⟨b,0,none⟩=some (.pointer none))(hsh:w.shape? b=some (37,z))(hz:2<=z)(hfz:w.frozen? ⟨b,0,none⟩=false) :
  Calls prog 37 #[.pointer (some ⟨b,0,none⟩)] w fun e w'=>e=.returned (.tuple #[])/\w'=w.setCell ⟨b,0,none⟩ (.pointer (some ⟨b,0,none⟩)):=by
 obtain⟨j,hj,hjs⟩:=VT.1 IJ;have hlies:liesAt prog prog.depth 37 (z/prog.cellsOf 37) 0 37 1=true:=by rw[DN];exact DO (2*(prog.types.size+Made.depth)+1) _ (by omega)
 go_enter func37,Tryz.ntmps37
 go_wp2
 rw[Lib.run_to_unsafe w ⟨b,0,none⟩ underlying34 underlying81 hj (by rw[hjs];decide) hsh (by show 0<z;omega)];simp only[Result.andThen];rw[Oper.upon_value]
 go_wp2
 rw[run_callFunc_extern func51 (by kernel_rfl) (by kernel_rfl) (by kernel_rfl) (e:=Extern.AbiNoEscape.same) (by kernel_rfl),Lib.run_noEscape];simp only[Result.andThen];rw[Oper.upon_value]
 go_wp2
 rw[Lib.run_from_unsafe w ⟨b,0,none⟩ underlying81 underlying34 hj hsh hlies];simp only[Result.andThen];rw[Oper.upon_value]
 go_wp2
 go_end0
 exact⟨rfl,rfl⟩
theorem DQ:zh prog 37 M3:=by
 refine⟨⟨_,func37,by kernel_rfl,by kernel_rfl⟩,?_⟩;intro args Y Z r Y' Z' h w S G vs t hz;unfold M3 at h;split at h
 case h_2=>cases h
 rename_i id;obtain⟨u,us,rfl,A,B⟩:=hz.y8;have C:us=[]:=yh (by simpa using B.1.symm);subst C;have l:=A;have n:=A.xT;obtain⟨hid,rfl⟩:=A.jQ;simp only[Nat.zero_mul,xm]at l⊢;split at h
 case h_2=>cases h
 rename_i b R;split at h
 case isFalse=>cases h
 rename_i hc;obtain⟨T,U,W⟩:=hc;obtain⟨e,s,a,es⟩:=b;simp only at T U W h;subst T;subst U;subst W;have m:=t.live id _ R;have D:(G id).s=2:=m.bs.symm;obtain⟨E,F,q2,q3⟩:=m.row n;have o:=m.fit n;have p:w.frozen? ⟨(G id).g,0,none⟩=false:=by simp[World.frozen?,F]
 have d:∀j,w.cell? ⟨(G id).g,j,none⟩=E[j]?:=fun j=>by simp[World.cell?,F]
 split at h
 ·rename_i x;injection h with h
  injection h with H h;injection h with I J;subst H;subst I;subst J;obtain⟨u0,K,L⟩:=q3 0 0 [.v (.pointer none),x] (.v (.pointer none)) rfl rfl;obtain⟨rfl,_⟩:=L.2.1.wj;have f:w.cell? ⟨(G id).g,0,none⟩=some (.pointer none):=by rw[d];simpa using K
  simp only[jZ,D]at o;have M:w.shape? (G id).g=some (37,(G id).z):=by simp[World.shape?,F,q2]
  have N:kG prog Y 34 (.ref id 0 0) (.ref id 0 0)=some (qb Y id (some ⟨37,2,false,[[.ref id 0 0,x]]⟩)):=by simp[kG,R]
  obtain⟨w',S',G',q,k⟩:=bz (dr:=True) t N l l;rw[Am w _ _ _ f p]at q;injection q with _ q;subst q;refine(DP (G id).g (G id).z w f M (by omega) p).mono fun e w' P=>?_
  obtain⟨rfl,rfl⟩:=P;exact⟨_,_,_,rfl,k,.c (.qS rfl (by simp))⟩
 ·rename_i i y;split at h
  case isFalse=>cases h
  rename_i Q;subst Q;injection h with h
  injection h with H h;injection h with I J;subst H;subst I;subst J;obtain⟨u0,K,L⟩:=q3 0 0 [.ref i 0 0,y] (.ref i 0 0) rfl rfl;obtain⟨_,rfl⟩:=L.2.1.jQ;have f:w.cell? ⟨(G i).g,0,none⟩=some (.pointer (some ⟨(G i).g,0,none⟩)):=by rw[d];simpa using K
  refine(Hc (G i).g w f).mono fun e w' P=>?_
  obtain⟨rfl,rfl⟩:=P;exact⟨_,_,_,rfl,jN.refl t,.c (.qS rfl (by simp))⟩
 ·cases h
theorem DR(b g cap z:Nat)(p:Value)(l:za)(cb cg:Array Value)(w:World)(h0:l≠[])(hb:w.heap[b]?=some (.cells cb 37 (0,0)))(hcb:cb[1]?=some (.slice (some ⟨g,0,none⟩) l.length cap))(hg:w.heap[g]?=some (.cells cg 5 (0,0)))
  (hcap:l.length<=cap) (hz:cg.size=z) (hlz:l.length<=z) (hlc:l.length<=maxLen) (hcg:∀(j:Nat) (x:UInt8),l[j]?=some x->cg[j]?=some (Value.int .u8 x.toNat)) :
  Calls prog 10 #[.pointer (some ⟨b,0,none⟩)] w fun e w'=>e=.returned (.string ⟨l.toArray⟩)/\w'=w.drew.freeze ⟨g,0,none⟩ l.length:=by
 have c1:w.drew.cell? ⟨b,1,none⟩=some (.slice (some ⟨g,0,none⟩) l.length cap):=by have:w.drew.heap[b]?=some (.cells cb 37 (0,0)):=hb;rw[Lib.cell_of_heap this];exact hcb
 have hSD:(Builtin.unsafeSliceData_ #[35] 57 #[.slice (some ⟨g,0,none⟩) l.length cap]).run prog w.drew=.ok (.pointer (some ⟨g,0,none⟩)) w.drew:=
  Lib.run_unsafeSliceData_row _ _ _ _ _ _ (fun e=>h0 (yh (by omega)))
 have hUS:(Builtin.unsafeString_ #[57,3] 9 #[.pointer (some ⟨g,0,none⟩),.int .i64 l.length]).run prog w.drew=.ok (.string ⟨l.toArray⟩) (w.drew.freeze ⟨g,0,none⟩ l.length):=by refine Lib.run_unsafeString_row w.drew 57 3 9 5 underlying57 (by kernel_rfl) g cg.size (by have hg':w.drew.heap[g]?=some (.cells cg 5 (0,0)):=hg;simp[World.shape?,hg']) l h0 (by omega) (by unfold maxLen at hlc;omega) ?_;intro j x hx;have hg':w.drew.heap[g]?=some (.cells cg 5 (0,0)):=hg;rw[show((⟨g,0,none⟩:Addr).add j)=⟨g,j,none⟩from by rw[JR,zo],Lib.cell_of_heap hg'];exact hcg j x hx
 have hmixed:=mixed
 go_enter func10,Tryz.ntmps10
 go_wp2
 go_region_o
 all_goals (go_wp2;go_ret;exact⟨rfl,rfl⟩)
theorem Ao{dr:Prop}(w:World)(p:Addr)(n:Nat):Fr dr w (fun b=>b=p.block) (w.drew.freeze p n):=by
 unfold World.freeze;split
 ·exact Fr.drew w _
 ·exact⟨rfl,rfl,rfl,by simp,fun _=>wS _,fun k _ a=>by simp only[];rw[vH,zg (fun e=>a e.symm)];rfl⟩
theorem fU:zh prog 10 Al:=by
 refine⟨⟨_,func10,by kernel_rfl,by kernel_rfl⟩,?_⟩;intro args Y Z r Y' Z' h w S G vs d N;unfold Al at h;split at h
 case h_2=>cases h
 rename_i id;obtain⟨u,us,rfl,I,q⟩:=N.y8;have t:us=[]:=yh (by simpa using q.1.symm);subst t;have y:=I.xT;obtain⟨hid,rfl⟩:=I.jQ;simp only[Nat.zero_mul,xm];obtain⟨b,P,h⟩:=zT.1 h;obtain⟨⟨l,Y1⟩,A,h⟩:=zT.1 h;simp only at h;split at h
 case isTrue=>cases h
 rename_i J;injection h with h
 injection h with Q h;injection h with R T;subst Q;subst R;subst T;rcases Jo A with⟨_,rfl,_⟩|⟨m,K,rfl,p,rfl⟩
 ·exact(J rfl).elim
 have f:=d.live id _ P;obtain⟨B,U,q2,W⟩:=f.row y;obtain⟨u1,h4,L⟩:=W 0 1 [.ref id 0 0,.own m 0 l.length] (.own m 0 l.length) rfl rfl;have C:=L.2.1.vI;obtain⟨cap,a1,a2,a3,a4,rfl⟩:=L.2.1.ve;have i:=d.live m _ p;obtain⟨cg,p1,p2,p3⟩:=i.row C;have n:(G m).s=1:=i.bs.symm;have hs2:(G id).s=2:=f.bs.symm;rw[n]at a4;refine(DR (G id).g (G m).g cap (G m).z (.pointer none) l B cg w (fun e=>J (by rw[e];rfl)) U (by simpa using h4) p1 a2 p2 (by omega) (by omega) (fun j x hx=>?_)).mono fun e w' hh=>?_
 ·obtain⟨u,M,g2⟩:=p3 j 0 (ao x) (.v (.int .u8 x.toNat)) (by simp[QD,hx]) rfl;obtain⟨rfl,_⟩:=g2.2.1.wj;rw[n]at M;simpa using M
 ·obtain⟨rfl,rfl⟩:=hh;have E:=Ao (dr:=True) w ⟨(G m).g,0,none⟩ l.length;have hS:∀b,S b->S b/\(w.drew.freeze ⟨(G m).g,0,none⟩ l.length).heap[b]?=w.heap[b]?:=fun b a=>⟨a,E.block b (d.st b a) fun e=>d.apart m _ p ((show b=(G m).g from e) ▸ a)⟩
  have k:=Jn (dr:=True) (D:=fun b=>b=(G m).g) (Y2:=qb (qb Y m none) id none) (S':=S) (G':=G) (hpe:=fun _=>none) (nxe:=0) d (fun k c o=>by
   have F:k≠id:=by rintro rfl;simp at o
   rw[zc _ _ _ _ F]at o;have H:k≠m:=by rintro rfl;simp at o
   exact⟨yH o,fun e=>H (d.inj k m c _ (yH o) p e)⟩) (fun b a=>⟨m,_,p,a.symm⟩) E
   (Jm G (fun b a=>q8 (d.st b a) E.size) (d.KJ.mono hS)) (fun _ h=>h) (fun _ h=>.inl h)
  exact⟨_,_,_,rfl,k,.c (.v rfl)⟩
noncomputable def Hd:zb->Option (za×O):=qD (α:=za) (fun s=>[str s]) (fun s=>s≠[]) (fun s=>(s,.qS [int s.length,.v .nilIface]))
noncomputable def He:zb->Option (za×O):=qD (α:=UInt8) (fun c=>[.v (.int .u8 c.toNat)]) (fun _=>True) (fun c=>([c],.v .nilIface))
noncomputable abbrev Sk:Ctx:=qp prog [(37,M3)]
theorem rF:Gd Sk:=qT mixed ⟨DQ,trivial⟩
theorem VL:zh prog 18 (kc 37 5 Hd):=
 vN (code:=_) rF ⟨func18,by kernel_rfl,rfl,by kernel_rfl⟩ _ _ Hd fun xs t r h=>by
  obtain⟨s,rfl,hs,e⟩:=zQ h;injection e with n o;subst n;subst o;refine⟨rfl,by simp[f18],fun Y Z l u K c a=>xX rfl ?_⟩;have j:=c.pos;have p:=Yl.2 hs;have k:¬0=Z:=by omega
  have n1:¬Z=0:=by omega
  have b:l.length+t.length<=maxLen:=by simp only[maxLen];omega
  rcases Jo (c.ok Y fun _ _=>rfl)with⟨rfl,rfl,_⟩|⟨m,d,rfl,q,_⟩
  ·have f:Y 0=some ⟨37,2,false,[[.v (.pointer none),.nil]]⟩:=c.SO;simp only[zf,zo]at a b;simp[f,k,n1,M3,yM,DM,tc,hs,a,b,f18,kb,QD,ao]
  ·have f:Y 0=some ⟨37,2,false,[[.ref 0 0 0,.own m 0 l.length]]⟩:=c.SO;have g:¬0=m:=fun e=>d e.symm
   have i:Y m=some ⟨5,1,true,l.map ao⟩:=q;simp[f,k,n1,M3,i,g,yM,DM,tc,a,b,f18,kb,QD,ao]
theorem VM:zh prog 19 (kc 37 5 He):=
 vN (code:=_) rF ⟨func19,by kernel_rfl,rfl,by kernel_rfl⟩ _ _ He fun xs t r h=>by
  obtain⟨c,rfl,_,e⟩:=zQ h;injection e with q s;subst q;subst s;refine⟨rfl,by simp[f19],fun Y Z l u K b a=>xX rfl ?_⟩;have n:=b.pos;have o:¬0=Z:=by omega
  have n1:¬Z=0:=by omega
  simp only[jZ]at a;have d:l.length+1<=maxLen:=by simp only[maxLen];omega
  rcases Jo (b.ok Y fun _ _=>rfl)with⟨rfl,rfl,_⟩|⟨m,f,rfl,p,_⟩
  ·have g:Y 0=some ⟨37,2,false,[[.v (.pointer none),.nil]]⟩:=b.SO;simp[g,o,n1,M3,yM,AM.view,zu,zP,zr,maxLen,f19,kb,QD,ao]
  ·have g:Y 0=some ⟨37,2,false,[[.ref 0 0 0,.own m 0 l.length]]⟩:=b.SO;have i:Y m=some ⟨5,1,true,l.map ao⟩:=p;have j:¬0=m:=fun e=>f e.symm
   have k:¬m=Z:=by have:=b.top m _ p;omega
   simp[g,o,n1,M3,i,j,k,yM,AM.view,zu,zP,zr,a,d,f19,kb,QD,ao]
theorem Hf(Y:Hp)(Z id m n:Nat)(h:Y id=some (kb 37 id m n)):kE Sk Tryz.f9 [.ref id 0 0] Y Z=some (int n,Y,Z):=by
 unfold kE;rw[zl (by simp[Tryz.f9])];obtain⟨x,Y',Z',a,b,c,d⟩:∃x Y' Z',yd Sk Tryz.f9 [.ref id 0 0] Y Z=some (x,Y',Z')/\x=int n/\Y'=Y/\Z'=Z:=by have e:Y id=some ⟨37,2,false,[[.ref id 0 0,.own m 0 n]]⟩:=h;refine wX rfl ?_;simp[e,Tryz.f9]
 rw[a,b,c,d]
theorem Ap:zh prog 9 (kE Sk Tryz.f9):=KZ rF func9
theorem nJ(Y:Hp)(Z id m:Nat)(l:za)(h:Y id=some (kb 37 id m l.length))(b:Y m=some (QD 5 l))(c:l≠[])(a:m≠id):Al [.ref id 0 0] Y Z=some (str l,qb (qb Y m none) id none,Z):=by simp[Al,h,b,c,a]
end Go.Q
namespace Go.AM
def ah(T U:TypeId)(Y:Hp)(Z m:Nat)(a:za):Prop:=Y 0=some (kb T 0 m a.length)/\Y m=some (QD U a)/\m≠0/\m<Z
theorem ah.put{T U:TypeId}{Y Y1:Hp}{Z m:Nat}{a t:za}{F:zb->Option (za×O)}{rest c:zb}{r:O}(B:ah T U Y Z m a)(d:zt Y rest=some (c,Y1))(e:rest.all O.noOwn=true)(f:F c=some (t,r))(g:a.length+t.length<=140737488355328) :
  ∃Y',kc T U F (.ref 0 0 0::rest) Y Z=some (r,Y',Z+1)/\ah T U Y' (Z+1) Z (a++t)/\∀j,j≠0->j≠m->j≠Z->Y' j=Y j:=by
 obtain⟨h,i,b,k⟩:=B;have n1:Z≠0:=by omega
 refine⟨_,by rw[gM d e f,h];simp[fh,b,i,ub,g];rfl,⟨by simp,?_,n1,by omega⟩,fun j l n o=>?_⟩
 ·rw[zc _ _ _ _ n1];simp
 ·rw[zc _ _ _ _ l,zc _ _ _ _ o,zc _ _ _ _ n]
theorem ah.same{T U:TypeId}{Y Y':Hp}{Z Z' m:Nat}{cur:za}(B:ah T U Y Z m cur)(e:Z<=Z')(h:∀j,j<Z->Y' j=Y j):ah T U Y' Z' m cur:=by obtain⟨c,d,a,b⟩:=B;exact⟨by rw[h 0 (by omega),c],by rw[h m b,d],a,by omega⟩
theorem ah.ends{T U:TypeId}{Y:Hp}{Z m n:Nat}{a l:za}(B:ah T U Y Z m a)(h:l=a)(b:n=l.length):∃m,Y 0=some (kb T 0 m n)/\Y m=some (QD U l):=⟨m,by rw[b,h];exact B.1,by rw[h];exact B.2.1⟩
theorem vo.put{T U:TypeId}{Y h Y1:Hp}{Z Z':Nat}{l t:za}{b0:Blk}{K:Hp->Hp}{F:zb->Option (za×O)}{rest c:zb}{r:O}(b:vo T U Y Z l b0 K)(o:Z<=Z')(d:∀j,j<Z->h j=Y j)
  (e:zt h rest=some (c,Y1)) (f:rest.all O.noOwn=true) (g:F c=some (t,r)) (i:l.length+t.length<=140737488355328) :
  ∃Y',kc T U F (.ref 0 0 0::rest) h Z'=some (r,Y',Z'+1)/\ah T U Y' (Z'+1) Z' (l++t)/\∀j,Z<=j->j≠Z'->Y' j=h j:=by
 have a:=b.pos;have n1:Z'≠0:=by omega
 have k:h 0=some b0:=by rw[d 0 a,b.SO]
 refine⟨_,by rw[gM e f g,k];simp[b.ok h d,ub,i];rfl,⟨by simp,?_,n1,by omega⟩,fun j m n=>?_⟩
 ·rw[zc _ _ _ _ n1];simp
 ·rw[zc _ _ _ _ (by omega),zc _ _ _ _ n,b.Wa _ _ m]
theorem nK{T U:TypeId}{h Y1:Hp}{id Z':Nat}{t:za}{F:zb->Option (za×O)}{rest a:zb}{r:O}(b:h id=some (YE T))(n1:Z'≠id)
  (c:zt h rest=some (a,Y1)) (d:rest.all O.noOwn=true) (e:F a=some (t,r)) (f:t.length<=140737488355328) :
  ∃Y',kc T U F (.ref id 0 0::rest) h Z'=some (r,Y',Z'+1)/\Y' id=some (kb T id Z' t.length)/\Y' Z'=some (QD U t)/\∀j,j≠id->j≠Z'->Y' j=h j:=by
 refine⟨_,by rw[gM c d e,b];simp[ub,f];rfl,by simp,?_,fun j g i=>?_⟩
 ·rw[zc _ _ _ _ n1];simp
 ·rw[zc _ _ _ _ g,zc _ _ _ _ i]
end Go.AM
namespace Go.Proofs
open Go.Shelf
def Tryz.ow:Go.Shelf.Ren:=⟨fun|162=>103|232=>139|227=>140|234=>141|236=>142|228=>175|271=>176|151=>177|120=>199|197=>124|152=>200|260=>154|137=>53|119=>223|224=>181|225=>180|217=>76|266=>104|n=>n,fun|9=>9|4=>4|3=>3|5=>5|117=>182|116=>181|0=>0|124=>185|21=>21|105=>164|46=>126|119=>211|139=>214|138=>213|n=>n,fun|3=>1|4=>2|n=>n⟩
theorem Tryz.HV:Go.Proofs.Lays.n162 prog Tryz.ow:={
 mixed:=by kernel_rfl
 f119:=func223.trans (zk some (by kernel_rfl))
 f120:=func199.trans (zk some (by kernel_rfl))
 f137:=func53.trans (zk some (by kernel_rfl))
 f151:=func177.trans (zk some (by kernel_rfl))
 f152:=func200.trans (zk some (by kernel_rfl))
 f162:=func103.trans (zk some (by kernel_rfl))
 f197:=func124.trans (zk some (by kernel_rfl))
 f217:=func76.trans (zk some (by kernel_rfl))
 f224:=func181.trans (zk some (by kernel_rfl))
 f225:=func180.trans (zk some (by kernel_rfl))
 f227:=func140.trans (zk some (by kernel_rfl))
 f228:=func175.trans (zk some (by kernel_rfl))
 f232:=func139.trans (zk some (by kernel_rfl))
 f234:=func141.trans (zk some (by kernel_rfl))
 f236:=func142.trans (zk some (by kernel_rfl))
 f260:=func154.trans (zk some (by kernel_rfl))
 f266:=func104.trans (zk some (by kernel_rfl))
 f271:=func176.trans (zk some (by kernel_rfl))
 t0:=underlying0
 a0:=isAgg0
 z0:=sizeOf0
 v0:=zeroValue0
 t3:=underlying3
 a3:=isAgg3
 z3:=sizeOf3
 v3:=zeroValue3
 t4:=underlying4
 a4:=isAgg4
 z4:=sizeOf4
 v4:=zeroValue4
 t5:=underlying5
 a5:=isAgg5
 z5:=sizeOf5
 v5:=zeroValue5
 t9:=underlying9
 a9:=isAgg9
 z9:=sizeOf9
 v9:=zeroValue9
 t21:=underlying21
 a21:=isAgg21
 z21:=sizeOf21
 v21:=zeroValue21
 t46:=underlying126
 a46:=isAgg126
 z46:=sizeOf126
 v46:=zeroValue126
 t105:=underlying164
 a105:=isAgg164
 z105:=sizeOf164
 v105:=zeroValue164
 t116:=underlying181
 a116:=isAgg181
 z116:=sizeOf181
 t117:=underlying182
 a117:=isAgg182
 z117:=sizeOf182
 v117:=zeroValue182
 t119:=underlying211
 a119:=isAgg211
 z119:=sizeOf211
 t124:=underlying185
 a124:=isAgg185
 z124:=sizeOf185
 v124:=zeroValue185
 t138:=underlying213
 a138:=isAgg213
 z138:=sizeOf213
 v138:=zeroValue213
 t139:=underlying214
 a139:=isAgg214
 z139:=sizeOf214
 v139:=zeroValue214
 g3:=by kernel_rfl
 g4:=by kernel_rfl}
def Tryz.ox:Go.Shelf.Ren:=⟨fun|121=>72|214=>101|n=>n,fun|4=>4|9=>9|n=>n,fun|n=>n⟩
theorem Tryz.HW:Go.Proofs.Lays.n121 prog Tryz.ox:={
 mixed:=by kernel_rfl
 f121:=func72.trans (zk some (by kernel_rfl))
 f214:=func101.trans (zk some (by kernel_rfl))
 t4:=underlying4
 a4:=isAgg4
 z4:=sizeOf4
 v4:=zeroValue4
 t9:=underlying9
 a9:=isAgg9
 z9:=sizeOf9
 v9:=zeroValue9}
def Tryz.lh:Go.Shelf.Ren:=⟨fun|171=>102|243=>138|246=>174|283=>195|284=>196|285=>197|286=>198|129=>121|317=>219|318=>220|319=>221|320=>222|337=>230|338=>231|n=>n,fun|3=>3|9=>9|2=>2|4=>4|171=>220|0=>0|53=>162|37=>35|5=>5|173=>222|212=>240|51=>160|20=>20|213=>241|46=>126|232=>256|233=>257|n=>n,fun|17=>3|18=>6|19=>7|n=>n⟩
theorem Tryz.EV:Go.Proofs.LaysM.n171 prog Tryz.lh:={
 mixed:=by kernel_rfl
 f129:=func121.trans (zk some (by kernel_rfl))
 f171:=func102.trans (zk some (by kernel_rfl))
 f243:=func138.trans (zk some (by kernel_rfl))
 f246:=func174.trans (zk some (by kernel_rfl))
 f283:=func195.trans (zk some (by kernel_rfl))
 f284:=func196.trans (zk some (by kernel_rfl))
 f285:=func197.trans (zk some (by kernel_rfl))
 f286:=func198.trans (zk some (by kernel_rfl))
 f317:=func219.trans (zk some (by kernel_rfl))
 f318:=func220.trans (zk some (by kernel_rfl))
 f319:=func221.trans (zk some (by kernel_rfl))
 f320:=func222.trans (zk some (by kernel_rfl))
 f337:=func230.trans (zk some (by kernel_rfl))
 f338:=func231.trans (zk some (by kernel_rfl))
 t0:=underlying0
 a0:=isAgg0
 z0:=sizeOf0
 v0:=zeroValue0
 t2:=underlying2
 a2:=isAgg2
 z2:=sizeOf2
 v2:=zeroValue2
 t3:=underlying3
 a3:=isAgg3
 z3:=sizeOf3
 v3:=zeroValue3
 t4:=underlying4
 a4:=isAgg4
 z4:=sizeOf4
 v4:=zeroValue4
 t5:=underlying5
 a5:=isAgg5
 z5:=sizeOf5
 v5:=zeroValue5
 t9:=underlying9
 a9:=isAgg9
 z9:=sizeOf9
 v9:=zeroValue9
 t20:=underlying20
 a20:=isAgg20
 z20:=sizeOf20
 v20:=zeroValue20
 t37:=underlying35
 a37:=isAgg35
 z37:=sizeOf35
 v37:=zeroValue35
 t46:=underlying126
 a46:=isAgg126
 z46:=sizeOf126
 v46:=zeroValue126
 t51:=underlying160
 a51:=isAgg160
 z51:=sizeOf160
 v51:=zeroValue160
 t53:=underlying162
 a53:=isAgg162
 z53:=sizeOf162
 v53:=zeroValue162
 t171:=underlying220
 a171:=isAgg220
 z171:=sizeOf220
 v171:=zeroValue220
 t173:=underlying222
 a173:=isAgg222
 z173:=sizeOf222
 v173:=zeroValue222
 t212:=underlying240
 a212:=isAgg240
 z212:=sizeOf240
 v212:=zeroValue240
 t213:=underlying241
 a213:=isAgg241
 z213:=sizeOf241
 t232:=underlying256
 a232:=isAgg256
 z232:=sizeOf256
 v232:=zeroValue256
 t233:=underlying257
 a233:=isAgg257
 z233:=sizeOf257
 v233:=zeroValue257
 g17:=by kernel_rfl
 g18:=by kernel_rfl
 g19:=by kernel_rfl
 i0:=by kernel_rfl
 i2:=by kernel_rfl
 i3:=by kernel_rfl
 i4:=by kernel_rfl
 i5:=by kernel_rfl
 i9:=by kernel_rfl
 i20:=by kernel_rfl
 i37:=by kernel_rfl
 i46:=by kernel_rfl
 i51:=by kernel_rfl
 i53:=by kernel_rfl
 i171:=by kernel_rfl
 i173:=by kernel_rfl
 i212:=by kernel_rfl
 i232:=by kernel_rfl
 i233:=by kernel_rfl
 m17:=by kernel_rfl
 m18:=by kernel_rfl
 m19:=by kernel_rfl}
end Go.Proofs
