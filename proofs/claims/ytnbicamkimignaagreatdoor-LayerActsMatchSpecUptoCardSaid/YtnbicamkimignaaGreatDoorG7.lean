/- Lemmas. -/
import Derived.LoopNIn
import Derived.RangeFuncRecord
import Derived.RangeFuncSeq
import Derived.Test.YtnbicamkimignaaGreatDoorG6
set_option maxRecDepth 8000
open Go Proofs Proofs.YtnbicamkimignaaGreatDoor Proofs.Tryz RowKit AM SpanLaw Q Zz
namespace Go.AM
def Zf(C:Ctx)(code:Code)(b:St)(K:Exit→St→Prop):Prop:=∃e a,wB C code b=some (e,a)∧K e a
def sq(C:Ctx)(b:Array Oper)(l:List Oper)(c:St)(K:St→Prop):Prop:=∃a,Qs C b l c=some a∧K a
def Xi{α:Type}(o:Option α)(K:α→Prop):Prop:=∃x,o=some x∧K x
theorem Ce{α:Type}{o o':Option α}(K:α→Prop)(h:o=o'):Xi o K=Xi o' K:=by rw[h]
theorem F2{α:Type}(x:α)(K:α→Prop):Xi (some x) K=K x:=by simp[Xi]
def gF(C:Ctx)(o:Option O)(x y:Code)(a:St)(K:Exit→St→Prop):Prop:=(o=some (.v (.bool true))∧Zf C x a K)∨(o=some (.v (.bool false))∧Zf C y a K)
theorem Cf{C:Ctx}{o o':Option O}{x y:Code}{a:St}{K:Exit→St→Prop}(h:o=o'):gF C o x y a K=gF C o' x y a K:=by rw[h]
theorem F4(C:Ctx)(x y:Code)(a:St)(K:Exit→St→Prop):gF C (some (.v (.bool true))) x y a K=Zf C x a K:=by simp[gF]
theorem Cg(C:Ctx)(x y:Code)(a:St)(K:Exit→St→Prop):gF C (some (.v (.bool false))) x y a K=Zf C y a K:=by simp[gF]
def my(C:Ctx)(b:Code)(K:Exit→St→Prop)(e:Exit)(a:St):Prop:=match e with
 | .normal=>Zf C b a K
 |e=>K e a
def JS(id:Nat)(K:Exit→St→Prop)(e:Exit)(a:St):Prop:=match e with
 | .exit i=>if i=id then K .normal a else K (.exit i) a
 |e=>K e a
def Jr(K:Exit→St→Prop)(a:St):Prop:=K .normal a
theorem uD(C:Ctx)(b:Code)(K:Exit→St→Prop)(a:St):my C b K .normal a=Zf C b a K:=rfl
theorem LR(C:Ctx)(b:Code)(K:Exit→St→Prop)(st:St):my C b K .ret st=K .ret st:=rfl
theorem F5(C:Ctx)(b:Code)(K:Exit→St→Prop)(i:Nat)(st:St):my C b K (.exit i) st=K (.exit i) st:=rfl
theorem pJ(id:Nat)(K:Exit→St→Prop)(st:St):JS id K .normal st=K .normal st:=rfl
theorem F6(id:Nat)(K:Exit→St→Prop)(st:St):JS id K .ret st=K .ret st:=rfl
theorem fc(id:Nat)(K:Exit→St→Prop)(st:St):JS id K (.exit id) st=K .normal st:=by simp[JS]
theorem ak{C:Ctx}{code:Code}{f:St}{b:Exit}{a:St}(K:Exit→St→Prop)(h:wB C code f=some (b,a)):Zf C code f K=K b a:=by
 unfold Zf;apply propext;constructor
 ·rintro⟨e,c,g,d⟩;rw[h]at g;obtain⟨rfl,rfl⟩:b=e∧a=c:=by simpa using g
  exact d
 ·exact fun d=>⟨_,_,h,d⟩
theorem OP(C:Ctx)(st:St)(K:Exit→St→Prop):Zf C .skip st K=K .normal st:=ak K (by simp only[wB])
theorem OQ(C:Ctx)(id:Nat)(st:St)(K:Exit→St→Prop):Zf C (.exit id) st K=K (.exit id) st:=ak K (by simp only[wB])
theorem Uk(C:Ctx)(st:St)(K:Exit→St→Prop):Zf C .ret st K=K .ret st:=ak K (by simp only[wB])
theorem LS(C:Ctx)(l:Nat)(st:St)(K:Exit→St→Prop):Zf C (.label l) st K=K .normal st:=ak K (by simp only[wB])
theorem Ch(C:Ctx)(i:Nat)(a:Array Oper)(d:Bool)(c f:St)(K:Exit→St→Prop)(j:BQ (C.fz i) c=some f)(h:WU (C.dyn i) f)(k:kZ (C.lds i) f):Zf C (.region i a d) c K=sq C a a.toList f (Jr K):=by
 unfold Zf sq Jr;simp only[wB,j,h,k,and_self,wi];apply propext;constructor
 ·rintro⟨e,b,h,g⟩;split at h
  ·rename_i s hs;obtain⟨rfl,rfl⟩:Exit.normal=e∧s=b:=by simpa using h
   exact⟨_,hs,g⟩
  ·cases h
 ·rintro⟨b,h,g⟩;exact⟨.normal,b,by rw[h],g⟩
theorem Qf(C:Ctx)(i:Nat)(a:Array Oper)(d:Bool)(b:St)(K:Exit→St→Prop)(h:WU (C.dyn i) b)(c:kZ (C.lds i) b)(e:C.fz i=[]:=by rfl):Zf C (.region i a d) b K=sq C a a.toList b (Jr K):=
 Ch C i a d b b K (by rw[e];rfl) h c
theorem Q6(C:Ctx)(i:Nat)(a:Array Oper)(d:Bool)(b:St)(K:Exit→St→Prop)(h:C.dyn i=[])(c:C.lds i=[])(e:C.fz i=[]:=by rfl):Zf C (.region i a d) b K=sq C a a.toList b (Jr K):=Qf C i a d b K (by rw[h];intro p Y;cases Y) (by rw[c];intro p Y;cases Y) e
theorem c8(C:Ctx)(a b:Code)(i:St)(K:Exit→St→Prop):Zf C (.seq a b) i K=Zf C a i (my C b K):=by
 unfold Zf;simp only[wB];apply propext;constructor
 ·rintro⟨e,c,h,d⟩;split at h
  ·rename_i s hs;exact⟨.normal,s,hs,e,c,h,d⟩
  ·rename_i r l;refine⟨e,c,h,?_⟩;cases e<;>simp_all[my]
 ·rintro⟨e,c,h,d⟩;cases e
  case normal=>obtain⟨j,f,k,g⟩:=d;exact⟨j,f,by rw[h];exact k,g⟩
  all_goals exact⟨_,c,by rw[h],d⟩
theorem OR(C:Ctx)(c:Operand)(x y:Code)(f:St)(K:Exit→St→Prop):Zf C (.cond c x y) f K=gF C (get f.σ c) x y f K:=by
 unfold Zf gF;simp only[wB];apply propext;constructor
 ·rintro⟨e,a,h,d⟩;split at h
  ·rename_i b;exact .inl ⟨b,e,a,h,d⟩
  ·rename_i b;exact .inr ⟨b,e,a,h,d⟩
  ·cases h
 ·rintro (⟨b,e,a,h,d⟩|⟨b,e,a,h,d⟩)
  ·exact⟨e,a,by rw[b];exact h,d⟩
  ·exact⟨e,a,by rw[b];exact h,d⟩
theorem LU(C:Ctx)(id:Nat)(b:Code)(f:St)(K:Exit→St→Prop):Zf C (.block id b) f K=Zf C b f (JS id K):=by
 unfold Zf;simp only[wB];apply propext;constructor
 ·rintro⟨e,a,h,c⟩;split at h
  ·rename_i i s hs;refine⟨.exit i,s,hs,?_⟩;unfold JS;split at h
   ·rename_i d;obtain⟨rfl,rfl⟩:Exit.normal=e∧s=a:=by simpa using h
    simp[d,c]
   ·rename_i d;obtain⟨rfl,rfl⟩:Exit.exit i=e∧s=a:=by simpa using h
    simp[d,c]
  ·rename_i r g;refine⟨e,a,h,?_⟩;cases e<;>simp_all[JS]
 ·rintro⟨e,a,h,c⟩;cases e
  case exit i=>
   unfold JS at c;simp only[h];by_cases d:i=id
   ·simp only[d,wi]at c⊢;exact⟨_,_,rfl,c⟩
   ·simp only[d,wK]at c⊢;exact⟨_,_,rfl,c⟩
  all_goals exact⟨_,a,by rw[h],c⟩
def asgK(C:Ctx)(b:Code)(K:Exit→St→Prop)(e:Exit)(a:St):Prop:=match e with
 | .normal=>Zf C b a K
 |_=>False
def rngK(I:Nat→Hp→Nat→Prop)(k:Nat)(b:Nat→O)(K:Exit→St→Prop)(e:Exit)(a:St):Prop:=match e with
 | .normal=>I (k+1) a.Y a.Z
 | .ret=>K .ret ⟨b,a.Y,a.Z⟩
 | .exit i=>K (.exit i) ⟨b,a.Y,a.Z⟩
 |_=>False
theorem LV{C:Ctx}{f:Operand}{ps:Array Tmp}{a b:Code}{c:St}{K:Exit→St→Prop}{p:Tmp}{g:FuncId}{cap:zc}{it:Qq}{xs:zc}{Y1:Hp}
  (q:ps.toList=[p]) (v:get c.σ f=some (.fn (.func g) [] cap)) (hit:C.it g=some it) (w:it cap c.Y=some (xs,Y1)) (I:Nat→Hp→Nat→Prop) (x:I 0 Y1 c.Z)
  (i:∀k Y Z (t:k<xs.length),I k Y Z→Zf C a ⟨qZ c.σ p xs[k],Y,Z⟩ (asgK C b (rngK I k c.σ K))) (j:∀Y Z,I xs.length Y Z→K .normal ⟨c.σ,Y,Z⟩):Zf C (.rangeFunc f ps a b) c K:=by
 have r:∀d k Y Z,xs.length-k=d→k≤xs.length→I k Y Z→∃e Y2 h,KY (wB C a) (wB C b) c.σ p (xs.drop k) Y Z=some (e,Y2,h)∧K e ⟨c.σ,Y2,h⟩:=by
  intro d
  induction d with
  |zero=>
   intro k Y Z hd t s;obtain rfl:k=xs.length:=by omega
   exact⟨.normal,Y,Z,by rw[zl];rfl,j Y Z s⟩
  |succ d y=>
   intro k Y Z hd t s;have l:k<xs.length:=by omega
   obtain⟨z,D,m,n⟩:=i k Y Z l s;rw[zd l];simp only[KY,m];cases z<;>try exact n.elim
   obtain⟨A,u,B,o⟩:=n;simp only[B];cases A<;>try exact o.elim
   ·exact y (k+1) u.Y u.Z (by omega) (by omega) o
   ·exact⟨_,_,_,rfl,o⟩
   ·exact⟨_,_,_,rfl,o⟩
 obtain⟨e,Y2,h,m,n⟩:=r _ 0 Y1 c.Z rfl (kD _) x;rw[yj]at m;exact⟨e,⟨c.σ,Y2,h⟩,by simp only[wB,q,v,hit,w,m],n⟩
theorem Ul(C:Ctx)(a:Array Oper)(st:St)(K:St→Prop):sq C a [] st K=K st:=by simp[sq,Qs]
def OS(C:Ctx)(a:Array Oper)(l:List Oper)(K:St→Prop)(b:St):Prop:=sq C a l b K
theorem OT(C:Ctx)(a:Array Oper)(l:List Oper)(K:St→Prop)(b:St):OS C a l K b=sq C a l b K:=rfl
theorem OU(C:Ctx)(a:Array Oper)(o:Oper)(l:List Oper)(d:St)(K:St→Prop):sq C a (o::l) d K=Xi (jn C a o d) (OS C a l K):=by
 unfold sq Xi OS sq;simp only[Qs];apply propext;constructor
 ·rintro⟨b,h,c⟩;split at h
  ·rename_i s hs;exact⟨s,hs,b,h,c⟩
  ·cases h
 ·rintro⟨s,hs,b,h,c⟩;exact⟨b,by rw[hs];exact h,c⟩
theorem zW(C:Ctx)(b:Code)(g:St)(K:Exit→St→Prop):Zf C (.loop b) g K=Zf C b g (my C (.loop b) K):=by
 unfold Zf;simp only[wB];rw[uo];apply propext;constructor
 ·rintro⟨e,a,h,c⟩;split at h
  ·rename_i s hs;exact⟨.normal,s,hs,e,a,by simpa only[wB]using h,c⟩
  ·rename_i r k;refine⟨e,a,h,?_⟩;cases e<;>simp_all[my]
 ·rintro⟨e,a,h,c⟩;cases e
  case normal=>obtain⟨i,d,j,f⟩:=c;exact⟨i,d,by rw[h];simpa only[wB]using j,f⟩
  all_goals exact⟨_,a,by rw[h],c⟩
def uE(I:St→Prop)(b:St→Nat)(n:Nat)(K:Exit→St→Prop)(e:Exit)(a:St):Prop:=match e with
 | .normal=>I a∧b a<n
 |e=>K e a
theorem pK(I:St→Prop)(b:St→Nat)(n:Nat)(K:Exit→St→Prop)(a:St):uE I b n K .normal a=(I a∧b a<n):=rfl
theorem F7(I:St→Prop)(a:St→Nat)(n:Nat)(K:Exit→St→Prop)(st:St):uE I a n K .ret st=K .ret st:=rfl
theorem Cj(I:St→Prop)(a:St→Nat)(n i:Nat)(K:Exit→St→Prop)(st:St):uE I a n K (.exit i) st=K (.exit i) st:=rfl
theorem Zf.mono{C:Ctx}{code:Code}{a:St}{K c:Exit→St→Prop}(h:Zf C code a K)(d:∀e a,K e a→c e a):Zf C code a c:=
 let⟨e,b,f,g⟩:=h
 ⟨e,b,f,d _ _ g⟩
theorem Zi{C:Ctx}{b:Code}{a:St}{K:Exit→St→Prop}(I:St→Prop)(f:St→Nat)(i:I a)(c:∀a,I a→Zf C b a (uE I f (f a) K)):Zf C (.loop b) a K:=by
 have g:∀n a,f a=n→I a→Zf C (.loop b) a K:=by
  intro n
  induction n using Nat.strongRecOn with
  |_ n j=>
   intro a k l;rw[zW];refine(c a l).mono fun e d h=>?_
   cases e
   case normal=>exact j (f d) (k ▸ h.2) d rfl h.1
   all_goals exact h
 exact g _ a rfl i
def JT(P:Program)(fn:Func)(R:O→Hp→Nat→Prop)(e:Exit)(a:St):Prop:=match e with
 | .normal|.ret=>Xi (WA P fn a) (fun x=>R x a.Y a.Z)
 |_=>False
theorem Cl(P:Program)(fn:Func)(R:O→Hp→Nat→Prop)(a:St):JT P fn R .normal a=Xi (WA P fn a) (fun x=>R x a.Y a.Z):=rfl
theorem OV(P:Program)(fn:Func)(R:O→Hp→Nat→Prop)(a:St):JT P fn R .ret a=Xi (WA P fn a) (fun x=>R x a.Y a.Z):=rfl
theorem zT{C:Ctx}{fn:Func}{code:Code}{args:zc}{Y:Hp}{Z:Nat}{R:O→Hp→Nat→Prop}(g:fn.body=some code)
  (h:Zf C code ⟨ve args,Y,Z⟩ (JT C.P fn R)):∃x Y' f,yr C fn args Y Z=some (x,Y',f)∧R x Y' f:=by
 obtain⟨e,b,i,a⟩:=h;unfold yr;simp only[g,i];unfold JT at a;split at a
 ·obtain⟨x,c,d⟩:=a;exact⟨x,b.Y,b.Z,by simp[c],d⟩
 ·obtain⟨x,c,d⟩:=a;exact⟨x,b.Y,b.Z,by simp[c],d⟩
 ·exact a.elim
def wH(r:O)(x:O)(Y:Hp)(_:Nat):Prop:=(freeze Y x).map (·.1)=some r
theorem zo{C:Ctx}{fn:Func}{code:Code}{args:zc}{r:O}(a:fn.body=some code)
  (h:Zf C code ⟨ve args,fun _=>none,0⟩ (JT C.P fn (wH r))):zz C fn args=some r:=by
 obtain⟨x,Y',d,b,c⟩:=zT a h;unfold zz;simp only[b];exact c
theorem Cm(d:Option Tmp)(op:Op)(t:TypeId)(p:String)(a:Array Edge)(y:Nat→Option Bool):Region.wanted ⟨d,op,t,p,a,none⟩ y=true:=rfl
theorem OW(C:Ctx)(b:Array Oper)(d:Option Tmp)(op:Op)(t:TypeId)(p:String)(c:Array Edge)(a:St):jn C b ⟨d,op,t,p,c,none⟩ a =
  (qt C (get a.σ) a.Y a.Z op).map fun r=>⟨put a.σ d r.1,r.2.1,r.2.2⟩:=by
 simp only[jn,Cm,wi];cases qt C (get a.σ) a.Y a.Z op<;>rfl
variable{dr:Prop}
section
variable{C:Ctx}{pf:FuncId→Bool}
def Qx(a:Array Bool)(k:Nat):Prop:=a.getD k false=true
theorem gG{i n:Nat}(h:i<n):List.range n=List.range i++i::List.range' (i+1) (n-i-1):=by
 have a:List.range n=List.range' 0 i++List.range' i (n-i):=by rw[List.range_eq_range',show List.range' 0 n=List.range' 0 (i+(n-i))from by rw[show i+(n-i)=n from by omega],←List.range'_append_1];simp
 rw[a,List.range_eq_range'];congr 1;rw[show n-i=(n-i-1)+1 from by omega,List.range'_succ];simp
theorem OX{a:Array Oper}{cm:Oper→Oper→Bool}{A:St→Prop}(E:BS C a cm A)(F:mg cm a=true):∀(fuel t:Nat) (listed:Array Bool) (m:St),A m→listed.size=a.size→bT a (Qx listed) →
  ((List.range a.size).filter fun i=>!listed.getD i true).length≤fuel →
  ∀r:St,kO C a ((List.range a.size).filter fun i=>!listed.getD i true) m=some r→kO C a (Region.linearise.go .any a fuel t listed []) m=some r:=by
 intro fuel
 induction fuel with
 |zero=>intro t listed m _ _ _ R r c;rw[Yg (Nat.le_zero.1 R)]at c;exact c
 |succ fuel ih=>
  intro t listed m S T G R r c;simp only[Region.linearise.go];change kO C a (match(Region.ready .any a listed)[t % (Region.ready .any a listed).length]? with
   |some i=>Region.linearise.go .any a fuel (t/(Region.ready .any a listed).length) (listed.setIfInBounds i true) [i]
   |none=>[].reverse) m=some r
  have s:∀k,k<a.size→listed.getD k true=listed.getD k false:=fun k hk=>by
   have:k<listed.size:=by omega
   simp[this]
  have d:∀i,i∈Region.ready .any a listed↔i<a.size∧listed.getD i true=false∧∃o,a[i]?=some o∧si (Qx listed) o:=by
   intro i;unfold Region.ready;simp only[zc7,ZV,zF,JK];constructor
   ·rintro⟨H,U,h3⟩;refine⟨H,U,a[i],by simp[H],fun e u v=>?_⟩;simp only[H,V3,zH,WS]at h3;have:=aW.1 h3 e (by simpa using u);simpa[v,Qx]using this
   ·rintro⟨H,U,o,p,Y⟩;refine⟨H,U,?_⟩;simp only[p,zH,WS];refine aW.2 fun e u=>?_
    cases v:Region.binds .any e with
    |false=>rfl
    |true=>simpa[Qx]using Y e (by simpa using u) v
  cases W:(Region.ready .any a listed)[t % (Region.ready .any a listed).length]? with
  |none=>
   have I:Region.ready .any a listed=[]:=by
    cases c:Region.ready .any a listed with
    |nil=>rfl
    |cons x xs=>rw[c]at W;have y:t % (x::xs).length<(x::xs).length:=Nat.mod_lt _ (by simp);simp at W;simp at y;omega
   have J:∀n k,k<n→k<a.size→listed.getD k true=true:=by
    intro n
    induction n with
    |zero=>intro k hk;omega
    |succ n K=>
     intro k hk g;by_cases X:k<n
     ·exact K k X g
     ·have hkk:k=n:=by omega
      subst hkk;cases v:listed.getD k true with
      |true=>rfl
      |false=>
       have p:a[k]?=some a[k]:=by simp[g]
       have w:k∈Region.ready .any a listed:=(d k).2 ⟨g,v,a[k],p,fun e u hbe=>by have y:=(gE F k _ p).1 e u hbe;have:=K e.on y (by omega);rw[s e.on (by omega)]at this;exact this⟩
       rw[I]at w;cases w
   have:((List.range a.size).filter fun i=>!listed.getD i true)=[]:=by rw[List.filter_eq_nil_iff];intro k hk;have g:=ZV.1 hk;rw[J (k+1) k (by omega) g];simp
   rw[this]at c;exact c
  |some i=>
   simp only[];obtain⟨L,hul,o,p,Y⟩:=(d i).1 (zO W);rw[linearise_go_acc,List.reverse_singleton,List.singleton_append];have z:∀k,(listed.setIfInBounds i true).getD k true=if k=i then true else listed.getD k true:=by
    intro k;by_cases hk:k=i
    ·subst hk;have:k<listed.size:=by omega
     simp[this]
    ·rw[zj hk];simp[gw (fun h=>hk h.symm)]
   have hlf:∀k,Qx (listed.setIfInBounds i true) k↔k=i∨Qx listed k:=by
    intro k;unfold Qx;by_cases hk:k=i
    ·subst hk;have:k<listed.size:=by omega
     simp[this]
    ·simp[gw (fun h=>hk h.symm),hk]
   have f:((List.range a.size).filter fun k=>!listed.getD k true)=((List.range i).filter fun k=>!listed.getD k true)++i::((List.range' (i+1) (a.size-i-1)).filter fun k=>!listed.getD k true):=by rw[gG L,List.filter_append,List.filter_cons_of_pos (by rw[hul];rfl)]
   have b:((List.range a.size).filter fun k=>!(listed.setIfInBounds i true).getD k true)=((List.range i).filter fun k=>!listed.getD k true)++((List.range' (i+1) (a.size-i-1)).filter fun k=>!listed.getD k true):=by
    rw[gG L,List.filter_append,List.filter_cons_of_neg (by rw[z];simp)];congr 1
    ·exact List.filter_congr fun k hk=>by have:=ZV.1 hk;rw[z,zj (by omega)]
    ·exact List.filter_congr fun k hk=>by have:=(List.mem_range'_1.1 hk).1;rw[z,zj (by omega)]
   have M:bT a (Qx (listed.setIfInBounds i true)):=by
    intro k o' hk l e u v;rw[hlf]at hk⊢;rcases hk with rfl|hk
    ·rw[p]at l;injection l with l
     subst l;exact .inr (Y e u v)
    ·exact .inr (G k o' hk l e u v)
   have q:((List.range a.size).filter fun k=>!(listed.setIfInBounds i true).getD k true).length≤fuel:=by rw[b];rw[f]at R;simp only[ye,qa]at R⊢;omega
   have N:=fun m S=>ih (t/(Region.ready .any a listed).length) (listed.setIfInBounds i true) m S (by simpa using T) M q
   rw[f]at c;have c:=ba E p _ _ _ r S (fun j hj=>by
    obtain⟨B,P⟩:=zc7.1 hj;have B:=ZV.1 B;rcases(gE F i o p).2 j B with h|h
    ·have:=h (Qx listed) G Y;unfold Qx at this;rw[←s j (by omega)]at this;rw[this]at P;cases P
    ·exact h) c
   simp only[kO,p]at c⊢;cases D:jn C a o m with
   |none=>rw[D]at c;cases c
   |some Q=>rw[D]at c;simp only[zS]at c⊢;exact N Q (E.ZC i o m Q p S D) r (by rw[b];exact c)
theorem uF(a:Array Oper)(st:St):∀(l:List Oper) (i:Nat),(∀k,l[k]?=a[i+k]?)→i+l.length=a.size→kO C a (List.range' i l.length) st=Qs C a l st:=by
 intro l
 induction l generalizing st with
 |nil=>intro i _ _;rfl
 |cons o l d=>
  intro i c e;have f:a[i]?=some o:=by have:=c 0;simpa using this.symm
  simp only[qa,List.range'_succ,kO,f,Qs];cases hs:jn C a o st with
  |none=>rfl
  |some b=>simp only[zS];exact d b (i+1) (fun k=>by have:=c (k+1);simpa[N2,eL 1 k]using this) (by simp at e;omega)
theorem bg(a:Array Oper)(st:St):kO C a (List.range a.size) st=Qs C a a.toList st:=by have:=uF (C:=C) a st a.toList 0 (by simp) (by simp);rw[List.range_eq_range'];simpa using this
theorem Um{a:Array Oper}{g:Oper→Oper→Bool}{A:St→Prop}(d:BS C a g A)(e:mg g a=true)(t:Nat)(b r:St)(h:A b)(j:Qs C a a.toList b=some r):kO C a (Region.linearise .any a t) b=some r:=by
 unfold Region.linearise;refine OX d e a.size t _ b h (by simp) (fun k o c=>by unfold Qx at c;rw[Array.getD_eq_getD_getElem?,Array.getElem?_replicate]at c;split at c<;>simp at c) (zC (zeM _ _) (by simp)) r ?_
 have:((List.range a.size).filter fun i=>!(Array.replicate a.size false).getD i true)=List.range a.size:=by rw[List.filter_eq_self];intro i f;have f:=ZV.1 f;simp[f]
 rw[this,bg];exact j
end
section
variable{C:Ctx}{pf:FuncId→Bool}{w0:World}{S0 L:Nat→Prop}{N Z0:Nat}{G0:Nat→GI}{n0:Nat}
theorem OY{w:World}{S:Nat→Prop}{G:Nat→GI}{Z:Nat}{f:Array Oper}{m:Nat→O}{a:Act}(hs:∀t,qK w S G Z (m t) (a.tmps.getD t undef)):yielded f a.tmps=Q4 f m:=by
 funext j;unfold yielded Q4;cases hd:(f[j]?).bind (·.dst)with
 |none=>rfl
 |some d=>
  simp only[zS];have k:=hs d;have n:∀b:Bool,a.tmps.getD d undef=.bool b→a.tmps[d]?=some (.bool b):=by
   intro b l;by_cases g:d<a.tmps.size
   ·simp[g]at l⊢;exact l
   ·simp[g]at l;simp[undef]at l
  cases i:m d with
  |v x=>
   rw[i]at k;obtain⟨e,p⟩:=k.yH;cases x with
   |bool b=>simp only[n b e]
   |_=>
    cases o:a.tmps[d]? with
    |none=>rfl
    |some y=>
     have:a.tmps.getD d undef=y:=by simp[o]
     rw[this]at e;subst e;rfl
  |_=>
   cases o:a.tmps[d]? with
   |none=>rfl
   |some y=>
    have:a.tmps.getD d undef=y:=by simp[o]
    rw[i,this]at k;cases y with
    |bool b=>cases k with
     |c h=>cases h
    |_=>rfl
def px(F:Fence):Prop:=F=Fence.wide∨∃l,F=Fence.wide.inRound l
theorem px.fn{F:Fence}(h:px F)(f:FuncId):F.fn f:=by rcases h with rfl|⟨l,rfl⟩<;>trivial
theorem px.deep{F:Fence}(h:px F):F.depth=none:=by rcases h with rfl|⟨l,rfl⟩<;>rfl
theorem px.inRound{F:Fence}(h:px F)(l:Nat):px (F.inRound l):=by
 rcases h with rfl|⟨k,rfl⟩
 ·exact .inr ⟨l,rfl⟩
 ·exact .inr ⟨l,rfl⟩
theorem px.calls{F:Fence}(h:px F){n:Nat}{P:Program}{f:FuncId}{args:Array Value}{w:World}{R:Ending→World→Prop}(a:Calls P f args w R):CallsIn F n P f args w R:=by
 rcases h with rfl|⟨l,rfl⟩
 ·exact zkl.2 a
 ·exact(zkl.2 a:CallsIn Fence.wide n P f args w R)
theorem YG(k:∀g r,C.Γ g=some r→km dr C.P g r){m:Array Oper}(z:∀(i:Nat) (o:Oper),m[i]?=some o→∀d,o.dst=some d→d<N){F:Fence}{n:Nat}(s:px F){Q:Exit→Act→World→Prop} :
  ∀(l:List Nat) (t j:St) (a:Act) (w:World),kO C m l t=some j→BP dr C.P w0 S0 L N Z0 G0 n0 t a w→(∀X u,BP dr C.P w0 S0 L N Z0 G0 n0 j X u→Q .normal X u)→wpOpsIn F n C.P m Q l a w
 |[],t,j,a,w,h,hs,E=>by
  simp only[kO]at h;injection h with h
  subst h;exact E a w hs
 |i::l,t,j,a,w,h,hs,E=>by
  simp only[wpOpsIn];cases H:m[i]? with
  |none=>simp only[kO,H]at h;exact YG k z s l t j a w h hs E
  |some o=>
   simp only[kO,H]at h;cases b:jn C m o t with
   |none=>rw[b]at h;cases h
   |some st1=>
    rw[b]at h;simp only[zS]at h;obtain⟨S,G,A⟩:=hs;unfold jn at b;simp only[];rw[OY A.JM];split at b
    ·rename_i I;rw[zf I];split at b
     ·rename_i x Y Z B;injection b with b
      subst b;have J:∀c,o.op≠.defer c:=by intro c K;rw[K]at B;simp[qt]at B
      refine⟨fun f _=>s.fn f,?_⟩;rw[Oper.semAt_eq _ _ _ J];have M:=uw k A.inv (a:=a.eval) (fun y pv hy=>lB A.JM hy) (o:=o) B;rcases M with⟨v,u,R,T,D,U,W⟩|⟨g,vs,D,K⟩
      ·have p:BP dr C.P w0 S0 L N Z0 G0 n0 ⟨put t.σ o.dst x,Y,Z⟩ (a.put o.dst v) u:=⟨R,T,A.step U W (z i o H)⟩;have q:=YG (n:=n) k z s l _ j _ u h p E;rcases D with D|⟨D,rfl⟩
       ·rw[D];exact q
       ·rw[D];exact q
      ·rw[D];refine⟨fun h=>by simp[s.deep]at h,s.calls (K.mono fun e u hh=>?_)⟩;obtain⟨v,R,T,rfl,U,W⟩:=hh;have p:BP dr C.P w0 S0 L N Z0 G0 n0 ⟨put t.σ o.dst x,Y,Z⟩ (a.put o.dst v) u:=⟨R,T,A.step U W (z i o H)⟩;exact YG k z s l _ j _ u h p E
     ·cases b
    ·rename_i I;rw[zj I];injection b with b
     subst b;exact⟨fun f _=>s.fn f,YG k z s l _ j _ w h ⟨S,G,A.step (.refl A.inv) xp (z i o H)⟩ E⟩
def j8:Code→Bool
 | .seq a b=>j8 a&&j8 b
 | .cond _ a b=>j8 a&&j8 b
 | .block _ b=>j8 b
 | .loop b=>j8 b
 | .rangeFunc _ _ _ _=>false
 | .scope _=>false
 |_=>true
def Zj(pf:FuncId→Bool)(c:Nat→List (Tmp×Tmp))(e:Nat→List Tmp)(f:FuncId→Bool)(N:Nat):Code→Bool
 | .region i g h=>g.all (fun o=>match o.dst with|some d=>decide (d<N)|none=>true)&&(!h||(mg (Ik pf (c i) (e i) f g) g&&uA pf (c i) (e i) f g))
 | .seq a b=>Zj pf c e f N a&&Zj pf c e f N b
 | .cond _ a b=>Zj pf c e f N a&&Zj pf c e f N b
 | .block _ b=>Zj pf c e f N b
 | .loop b=>Zj pf c e f N b
 | .rangeFunc _ ps a b=>ps.all (fun p=>decide (p<N))&&j8 a&&j8 b&&Zj pf c e f N a&&Zj pf c e f N b
 |_=>true
theorem BP.drew{d:St}{a:Act}{w:World}(h:BP dr C.P w0 S0 L N Z0 G0 n0 d a w):BP dr C.P w0 S0 L N Z0 G0 n0 d a {w with drawn:=w.drawn+1}:=by obtain⟨S,G,c⟩:=h;refine⟨S,G,c.inv.same rfl,fun t=>(c.JM t).mono (fun b e=>⟨e,rfl⟩) (ze _) (fun _ _=>rfl),c.size,c.defers,c.s0,c.s1,c.own,c.fr.trans (Fr.drew w L) fun _ _ h=>h,c.up,c.loc⟩
theorem BP.top{b:St}{a:Act}{w:World}(h:BP dr C.P w0 S0 L N Z0 G0 n0 b a w):bV b.Y b.Z:=by obtain⟨S,G,c⟩:=h;exact c.inv.top
theorem BP.zh3{e:St}{a:Act}{w:World}(h:BP dr C.P w0 S0 L N Z0 G0 n0 e a w){t:Nat}{y:O}{Y1:Hp}(i:qf e.Y (e.σ t)=some (y,Y1)):BP dr C.P w0 S0 L N Z0 G0 n0 ⟨qZ e.σ t y,Y1,e.Z⟩ a w:=by
 obtain⟨S,G,h⟩:=h;obtain⟨g,k,c,_,_⟩:=vx (dr:=dr) h.inv i (h.JM t);have d:∀b,kN e.Y G b→L b∨w0.heap.size≤b:=by rintro b ⟨id,blk,hid,rfl⟩;exact h.own id blk hid
 refine⟨g,G,k.inv,fun s=>?_,h.size,h.defers.step k,fun b f=>k.ZC (dr:=dr) b (h.s0 b f),fun b f=>?_,fun id b f=>?_,h.fr,h.up,h.loc⟩
 ·show qK w g G e.Z (qZ e.σ t y s) _;by_cases hs:s=t
  ·subst hs;rw[w9];exact .c c
  ·rw[qY _ _ _ _ hs];exact(h.JM s).mono (k.same h.inv) (ze _) (fun _ _=>rfl)
 ·rcases k.from_ b f with h1|h1|h1
  ·exact h.s1 b h1
  ·exact .inr (d b h1)
  ·exact .inr (.inr (zC h.fr.size h1))
 ·rcases k.own id b f with h1|h1
  ·exact d _ h1
  ·exact .inr (zC h.fr.size h1)
theorem BP.BQ{a:Act}{w:World}:∀{l:List Tmp} {c b:St},BP dr C.P w0 S0 L N Z0 G0 n0 c a w→AM.BQ l c=some b→BP dr C.P w0 S0 L N Z0 G0 n0 b a w
 |[],c,b,h,e=>by
  simp only[AM.BQ]at e;injection e with e
  rw[←e];exact h
 |t::l,c,b,h,e=>by
  simp only[AM.BQ]at e;split at e
  ·rename_i y Y1 d;exact BP.BQ (h.zh3 d) e
  ·cases e
def cN(S:Nat→Prop)(G:Nat→GI)(Y:Hp)(b:Nat):Prop:=¬S b∧∀id blk,Y id=some blk→(G id).g≠b
theorem cN.step{P:Program}{Y Y':Hp}{Z f:Nat}{S d:Nat→Prop}{G e:Nat→GI}{w g:World}{b:Nat}(h:cN S G Y b)(k:kJ dr P Y Z S G w Y' f d e g)(j:b<w.heap.size):cN d e Y' b:=by
 refine⟨fun hs=>?_,fun id blk hid i=>?_⟩
 ·rcases k.from_ b hs with h1|⟨id,blk,h1,c⟩|h1
  ·exact h.1 h1
  ·exact h.2 id blk h1 c
  ·omega
 ·rcases k.own id blk hid with⟨id',a,h1,c⟩|h1
  ·exact h.2 id' a h1 (c.trans i)
  ·omega
theorem cN.same{P:Program}{Y Y':Hp}{Z c:Nat}{S d:Nat→Prop}{G e:Nat→GI}{w a:World}{b:Nat}(h:cN S G Y b)(k:kJ dr P Y Z S G w Y' c d e a)(f:b<w.heap.size):a.heap[b]?=w.heap[b]?:=
 k.fr.block b f fun⟨id,blk,g,i⟩=>h.2 id blk g i
section
variable{P:Program}{S:Nat→Prop}{G:Nat→GI}
theorem Inv.frame{w d:World}{Y:Hp}{Z:Nat}{B:Nat→Prop}(h:Inv P w S G Y Z)(e:Fr dr w B d)(f:∀b,B b→cN S G Y b):Inv P d S G Y Z:=by
 have g:∀b,S b→S b∧d.heap[b]?=w.heap[b]?:=fun b a=>⟨a,e.block b (h.st b a) fun c=>(f b c).1 a⟩
 exact⟨fun b a=>zlO (h.st b a) e.size,h.top,fun id b a=>(h.live id b a).mono g (ze _) (fun _ _=>rfl) (e.block _ (h.live id b a).lt fun c=>(f _ c).2 id b a rfl),h.apart,h.inj,h.eR.mono g⟩
theorem Marks.frame{w a:World}{Y:Hp}{B:Nat→Prop}{ds:List Deferred}(h:Marks n0 w S Y G ds)(b:Fr dr w B a)(d:∀D,iG D∈ds→¬B D):Marks n0 a S Y G ds:=by obtain⟨f,g,e,i,j⟩:=h;refine⟨zC f b.size,g,e,i,fun D hd=>?_⟩;obtain⟨k,c,l⟩:=j D hd;exact⟨k,(b.block D (qu.1 c).1 (d D (by rw[e];exact List.mem_map_of_mem hd))).trans c,l⟩
theorem Cn{D a:Nat}(h:iG D=iG a):D=a:=by
 unfold iG at h;injection h with h
 injection h
theorem Marks.at{w:World}{Y:Hp}{ds:List Deferred}(h:Marks n0 w S Y G ds){D:Nat}(hd:iG D∈ds):n0≤D∧w.heap[D]?=some (.deferred (some []))∧¬S D∧∀id b,Y id=some b→(G id).g≠D:=by obtain⟨f,i,rfl,j,a⟩:=h;obtain⟨c,d,e⟩:=qX.1 hd;rw[←Cn e];exact a c d
theorem WT.frame{e:St}{a:Act}{w f:World}{B:Nat→Prop}(h:WT dr P w0 S0 L N Z0 G0 n0 e S G a w)(c:Fr dr w B f)(i:∀b,B b→cN S G e.Y b)(k:∀b,B b→L b∨w0.heap.size≤b)
  (l:∀D,iG D∈a.defers→¬B D):WT dr P w0 S0 L N Z0 G0 n0 e S G a f:=by
 have m:∀b,S b→S b∧f.heap[b]?=w.heap[b]?:=fun b d=>⟨d,c.block b (h.inv.st b d) fun g=>(i b g).1 d⟩
 refine⟨h.inv.frame c i,fun t=>(h.JM t).mono m (ze _) (fun _ _=>rfl),h.size,h.defers.frame c l,h.s0,h.s1,h.own,h.fr.trans c fun b d n=>?_,h.up,h.loc⟩;rcases k b n with j|j
 ·exact j
 ·omega
theorem WT.zcb{c:St}{a:Act}{w e:World}{B:Nat→Prop}(h:WT dr P w0 S0 L N Z0 G0 0 c S G a w)(f:Fr dr w B e)(i:∀b,B b→cN S G c.Y b)(j:∀D,iG D∈a.defers→¬B D):WT dr P e S (kN c.Y G) N c.Z G 0 c S G a e:=by
 have k:∀b,S b→S b∧e.heap[b]?=w.heap[b]?:=fun b d=>⟨d,f.block b (h.inv.st b d) fun g=>(i b g).1 d⟩
 exact⟨h.inv.frame f i,fun t=>(h.JM t).mono k (ze _) (fun _ _=>rfl),h.size,h.defers.frame f j,fun _ h=>h,fun _ h=>.inl h,fun id b d=>.inl ⟨id,b,d,rfl⟩,Fr.refl _ _,ze _,fun _ _=>rfl⟩
theorem WT.inner{c:St}{a:Act}{w:World}(h:WT dr P w0 S0 L N Z0 G0 n0 c S G a w):WT dr P w S (kN c.Y G) N c.Z G 0 c S G {a with defers:=[]} w:=
 ⟨h.inv,h.JM,h.size,.nil (kD _),fun _ h=>h,fun _ h=>.inl h,fun id b d=>.inl ⟨id,b,d,rfl⟩,Fr.refl _ _,ze _,fun _ _=>rfl⟩
theorem WT.stp{Y:Hp}{Z:Nat}{c:Nat→Prop}{d:Nat→GI}{b:St}{a:Act}{w e:World}(h:WT dr P w S (kN Y G) N Z G n0 b c d a e):kJ dr P Y Z S G w b.Y b.Z c d e:=⟨h.inv,h.up,h.loc,h.s0,h.s1,h.own,h.fr⟩
end
def Co(dr:Prop)(P:Program)(g:FuncId)(it:Qq):Prop:=
 (∃fn,P.funcs[g]?=some fn∧(fn.name== "runtime.NumGoroutine")=false∧fn.body.isNone=false) ∧
 ∀cap Y Z xs Y1,it cap Y=some (xs,Y1)→∃us:List Value,xs=us.map O.v∧(∀u∈us,lit u=true)∧(∀id b,Y1 id=some b→Y id=some b) ∧
  ∀(w:World) (S:Nat→Prop) (G:Nat→GI) (vs:List Value),Inv P w S G Y Z→Zip (qK w S G Z) cap vs →
   ∃B:Nat→Prop,(∀b,B b→kN Y G b∧cN S G Y1 b) ∧
    ∀(n l:Nat) (J c:List Value→World→Prop),
     (∀pre W a,J pre W→Fr dr W B a→J pre a)→(∀pre W a,c pre W→Fr dr W B a→c pre a)→(∀pre W,J pre W→Ln P W fun b=>b<W.heap.size) →
     (∀pre x W,J pre W→us[pre.length]?=some x→YieldAt Fence.wide n P l #[x] W fun e a=>(e=.returned (.bool true)∧J (pre++[x]) a∧(∀b,B b→a.heap[b]?=W.heap[b]?)∧W.heap.size≤a.heap.size)∨(e=.returned (.bool false)∧c (pre++[x]) a)) →
     ∀W,J [] W→(∀b,B b→W.heap[b]?=w.heap[b]?)→w.heap.size≤W.heap.size →
      CallsIn Fence.wide (n+1) P g (#[.func (.yield l) #[] #[]]++vs.toArray) W fun e a=>(∃v,e=.returned v)∧(J us a∨∃pre,c pre a)
abbrev LW:=Co True
theorem Un{w:World}{S:Nat→Prop}{G:Nat→GI}{Z:Nat}{u:Value}(h:lit u=true):qK w S G Z (.v u) u:=.c (.v h)
theorem F8{w:World}{l:Nat}(o:Obj)(B:Nat→Prop)(a:B l):Fr dr w B (w.putObj l o):=
 ⟨rfl,rfl,rfl,by simp,fun _=>ze _,fun k _ b=>zh0 fun e=>b (e ▸ a)⟩
theorem F9(hΓ:∀g spec,C.Γ g=some spec→km dr C.P g spec)(hpf:∀g spec,pf g=true→C.Γ g=some spec→W9 spec)(hbk:∀g spec,C.bk g=true→C.Γ g=some spec→vZ spec)(hit:∀g it,C.it g=some it→Co dr C.P g it)(hm:C.P.follows .mixedOrders=true) :
  ∀(c:Code),Zj pf C.dyn C.lds C.bk N c=true→∀(F:Fence) (n:Nat),px F→(F=Fence.wide∨j8 c=true)→∀(w0:World) (S0 L:Nat→Prop) (Z0:Nat) (G0:Nat→GI) (n0:Nat) (st st':St) (e:Exit) (a:Act) (w:World) (Q:Exit→Act→World→Prop),n0≤w0.heap.size→wB C c st=some (e,st')→BP dr C.P w0 S0 L N Z0 G0 n0 st a w →
   (∀a' w',BP dr C.P w0 S0 L N Z0 G0 n0 st' a' w'→Q e a' w')→c.wpIn F n C.P Q a w:=by
 intro c
 induction c with
 |skip=>
  intro _ F n hF _ w0 S0 L Z0 G0 n0 st st' e a w Q _ h hs hQ;simp only[wB]at h;injection h with h
  injection h with e1 e2;subst e1;subst e2;exact wpIn_skip (hQ a w hs)
 |region id ops draw=>
  intro hok F n hF _ w0 S0 L Z0 G0 n0 st st' e a w Q _ h hs hQ;simp only[Zj,zF,qH,JK]at hok;obtain⟨hN0,hdraw⟩:=hok;have hN:∀(i:Nat) (o:Oper),ops[i]?=some o→∀d,o.dst=some d→d<N:=by intro i o ho d hd;have:=aW.1 hN0 o (zeL ho);simpa[hd]using this
  simp only[wB]at h;split at h
  case h_2=>cases h
  rename_i st1 hth;have hs:=hs.BQ hth;clear hth;generalize st1=st at h hs;split at h
  case isFalse=>cases h
  rename_i hA;split at h
  ·rename_i s hs1;injection h with h
   injection h with e1 e2;subst e1;subst e2;cases draw with
   |false=>exact wpIn_region (YG hΓ hN hF _ st s a w (by rw[bg];exact hs1) hs hQ)
   |true=>
    have hd:mg (Ik pf (C.dyn id) (C.lds id) C.bk ops) ops=true∧uA pf (C.dyn id) (C.lds id) C.bk ops=true:=by simpa using hdraw
    refine wpIn_region_draw fun t=>?_
    simp only[Region.schedule,hm,eM,wi];exact YG hΓ hN hF _ st s a _ (Um (OO hpf hbk hd.2) hd.1 _ _ _ ⟨hA,fun _=>hs.top⟩ hs1) hs.drew hQ
  ·cases h
 |seq x y ihx ihy=>
  intro hok F n hF hno w0 S0 L Z0 G0 n0 st st' e a w Q hn0 h hs hQ;simp only[Zj,zF]at hok;have hnx:F=Fence.wide∨j8 x=true:=hno.imp (fun h=>h) fun h=>by simp only[j8,zF]at h;exact h.1
  have hny:F=Fence.wide∨j8 y=true:=hno.imp (fun h=>h) fun h=>by simp only[j8,zF]at h;exact h.2
  simp only[wB]at h;split at h
  ·rename_i s hx;exact wpIn_seq (ihx hok.1 F n hF hnx w0 S0 L Z0 G0 n0 st s .normal a w _ hn0 hx hs fun a' w' hs'=>ihy hok.2 F n hF hny w0 S0 L Z0 G0 n0 s st' e a' w' Q hn0 h hs' hQ)
  ·rename_i r hr;refine wpIn_seq (ihx hok.1 F n hF hnx w0 S0 L Z0 G0 n0 st st' e a w _ hn0 h hs fun a' w' hs'=>?_);have:=hQ a' w' hs';cases e<;>first
    |exact this
    |exact(hr _ h).elim
 |cond c x y ihx ihy=>
  intro hok F n hF hno w0 S0 L Z0 G0 n0 st st' e a w Q hn0 h hs hQ;simp only[Zj,zF]at hok;have hnx:F=Fence.wide∨j8 x=true:=hno.imp (fun h=>h) fun h=>by simp only[j8,zF]at h;exact h.1
  have hny:F=Fence.wide∨j8 y=true:=hno.imp (fun h=>h) fun h=>by simp only[j8,zF]at h;exact h.2
  simp only[wB]at h;obtain⟨S,G,hS⟩:=hs;split at h
  ·rename_i hc;obtain⟨hv,_⟩:=(lB hS.JM hc).yH;exact wpIn_cond_true hv (ihx hok.1 F n hF hnx w0 S0 L Z0 G0 n0 st st' e a w Q hn0 h ⟨S,G,hS⟩ hQ)
  ·rename_i hc;obtain⟨hv,_⟩:=(lB hS.JM hc).yH;exact wpIn_cond_false hv (ihy hok.2 F n hF hny w0 S0 L Z0 G0 n0 st st' e a w Q hn0 h ⟨S,G,hS⟩ hQ)
  ·cases h
 |block id b ih=>
  intro hok F n hF hno w0 S0 L Z0 G0 n0 st st' e a w Q hn0 h hs hQ;simp only[Zj]at hok;have hnb:F=Fence.wide∨j8 b=true:=hno.imp (fun h=>h) fun h=>by simp only[j8]at h;exact h
  simp only[wB]at h;split at h
  ·rename_i i s hb;refine wpIn_block (ih hok F n hF hnb w0 S0 L Z0 G0 n0 st s (.exit i) a w _ hn0 hb hs fun a' w' hs'=>?_);unfold Exit.inBlock;split at h
   ·rename_i hi;injection h with h
    injection h with e1 e2;subst e1;subst e2;simp[hi,hQ a' w' hs']
   ·rename_i hi;injection h with h
    injection h with e1 e2;subst e1;subst e2;simp[hi,hQ a' w' hs']
  ·rename_i r hr;refine wpIn_block (ih hok F n hF hnb w0 S0 L Z0 G0 n0 st st' e a w _ hn0 h hs fun a' w' hs'=>?_);have:=hQ a' w' hs';cases e<;>first
    |exact this
    |exact(hr _ _ h).elim
 |loop b ih=>
  intro hok F n hF hno w0 S0 L Z0 G0 n0 st st' e a w Q hn0 h hs hQ;simp only[Zj]at hok;have hnb:F=Fence.wide∨j8 b=true:=hno.imp (fun h=>h) fun h=>by simp only[j8]at h;exact h
  simp only[wB]at h;obtain⟨m,hm'⟩:=Wr h;refine wpIn_loop_rounds m ?_;clear h
  induction m generalizing st a w with
  |zero=>simp[iter]at hm'
  |succ m ihn=>
   rw[roundsIn_succ];simp only[iter]at hm';split at hm'
   ·rename_i s hb;exact ih hok F n hF hnb w0 S0 L Z0 G0 n0 st s .normal a w _ hn0 hb hs fun a' w' hs'=>ihn s a' w' hs' hm'
   ·rename_i r hr;refine ih hok F n hF hnb w0 S0 L Z0 G0 n0 st st' e a w _ hn0 hm' hs fun a' w' hs'=>?_
    have:=hQ a' w' hs';cases e<;>first
     |exact this
     |exact(hr _ hm').elim
 |rangeFunc f ps x y ihx ihy=>
  intro hok F n hF hno w0 S0 L Z0 G0 n0 st st' e a w Q hn0 h hs hQ;obtain rfl:F=Fence.wide:=hno.resolve_right (by simp[j8]);simp only[Zj,zF]at hok;obtain⟨⟨⟨⟨hps,hnx⟩,hny⟩,hox⟩,hoy⟩:=hok;simp only[wB]at h;split at h
  case h_2=>cases h
  rename_i p g cap hpl hfg;split at h
  case h_2=>cases h
  rename_i it hIt;split at h
  case h_2=>cases h
  rename_i xs Y1 hx;split at h
  case h_2=>cases h
  rename_i e0 Y2 Ol hro;injection h with h
  injection h with e1 e2;subst e1;subst e2;obtain⟨S,G,hS⟩:=hs;obtain⟨⟨gfn,gf1,gf2,gf3⟩,hitS⟩:=hit g it hIt;obtain⟨us,rfl,hlit,hsub,hrun⟩:=hitS cap st.Y st.Z _ Y1 hx;obtain⟨aZ,vs,ev,l1,l2,r1,r2⟩:=(lB hS.JM hfg).BR;obtain rfl:aZ=#[]:=by simpa using l1.symm
  obtain⟨B,hB,hcalls⟩:=hrun w S G vs.toList hS.inv ⟨by simpa using l2,fun j pv u hj hu=>r2 j pv u hj (by simpa using hu)⟩;have hBlt:∀b,B b→b<w.heap.size:=fun b hb=>by obtain⟨id,blk,h1,rfl⟩:=(hB b hb).1;exact(hS.inv.live id blk h1).lt
  have hpN:p<N:=by have:=aW.1 hps p (by rw[←Array.mem_toList_iff,hpl];simp);simpa using this
  have hps1:ps=#[p]:=by apply Array.toList_inj.1;rw[hpl]
  subst hps1;refine wpIn_rangeFunc fun fn hfn=>?_
  obtain⟨rec,hrec⟩:∃rec:LoopState→Option Code→Loop,rec=fun s pe=>{state:=s,pending:=pe,fn,tmps:=a.tmps,params:=#[p],assign:=x,body:=y,defers:=w.heap.size}:=⟨_,rfl⟩
  obtain⟨W1,hW1⟩:∃W1,(w.alloc (.deferred (some []))).alloc (.loop (rec .ready none))=W1:=⟨_,rfl⟩;have hL1:W1.heap[w.heap.size+1]?=some (.loop (rec .ready none)):=by rw[←hW1];have:=World.alloc_heap_new (w.alloc (.deferred (some []))) (.loop (rec .ready none));rwa [World.size_alloc]at this
  have hK1:W1.heap[w.heap.size]?=some (.deferred (some [])):=by rw[←hW1];exact(Below.heap_alloc _ _ _ (by simp)).trans (World.alloc_heap_new w _)
  have hsz1:W1.heap.size=w.heap.size+2:=by rw[←hW1];simp
  have hold1:∀b,b<w.heap.size→W1.heap[b]?=w.heap[b]?:=fun b hb=>by rw[←hW1];exact(Below.heap_alloc _ _ _ (by simp;omega)).trans (Below.heap_alloc w _ b hb)
  have fr1:Fr dr w (fun _=>False) W1:=⟨by rw[←hW1];rfl,by rw[←hW1];rfl,by rw[←hW1];rfl,by omega,fun _=>by rw[←hW1];exact ze _,fun k hk _=>hold1 k hk⟩;obtain⟨l,hl⟩:∃l,l=w.heap.size+1:=⟨_,rfl⟩;obtain⟨a1,ha1⟩:∃a1:Act,a1={a with defers:=iG w.heap.size::a.defers}:=⟨_,rfl⟩;have hfreshAway:∀b,w.heap.size≤b→cN S G Y1 b:=fun b hb=>⟨fun hs=>by have:=hS.inv.st b hs;omega,fun id blk hid he=>by have:=(hS.inv.live id blk (hsub id blk hid)).lt;omega⟩
  have hk0:Inv C.P W1 S G Y1 st.Z:=by have h1:Inv C.P w S G Y1 st.Z:=⟨hS.inv.st,fun id b hb=>hS.inv.top id b (hsub id b hb),fun id b hb=>hS.inv.live id b (hsub id b hb),fun id b hb=>hS.inv.apart id b (hsub id b hb),fun id id' b b' hb hb' he=>hS.inv.inj id id' b b' (hsub id b hb) (hsub id' b' hb') he,hS.inv.eR⟩;exact h1.frame fr1 (fun _ h=>h.elim)
  have hsim1:WT dr C.P w0 S0 L N Z0 G0 n0 ⟨st.σ,Y1,st.Z⟩ S G a1 W1:=by
   subst ha1;obtain⟨hd0,Ds,hd1,hd2,hd3⟩:=hS.defers;refine⟨hk0,fun t=>(hS.JM t).mono (fun b hb=>⟨hb,hold1 b (hS.inv.st b hb)⟩) (ze _) (fun _ _=>rfl),hS.size,⟨by omega,w.heap.size::Ds,by simp[hd1],?_,?_⟩,hS.s0,hS.s1,fun id b hb=>hS.own id b (hsub id b hb),hS.fr.trans fr1 (fun _ _ h=>h.elim),hS.up,hS.loc⟩
   ·refine List.nodup_cons.2 ⟨fun hm=>?_,hd2⟩;have:=(qu.1 (hd3 _ hm).2.1).1;omega
   ·intro D hD;rcases zL.1 hD with rfl|hD
    ·exact⟨hd0,hK1,(hfreshAway _ (ze _))⟩
    ·obtain⟨g1,g2,g4,g3⟩:=hd3 D hD;exact⟨g1,(hold1 D (qu.1 g2).1).trans g2,g4,fun id b hb=>g3 id b (hsub id b hb)⟩
  have hsmall:w0.heap.size≤w.heap.size:=hS.fr.size;have hBL:∀b,B b→L b∨w0.heap.size≤b:=fun b hb=>by obtain⟨id,blk,h1,rfl⟩:=(hB b hb).1;exact hS.own id blk h1
  have hmk:∀D,iG D∈a1.defers→¬B D∧¬D=l:=by
   intro D hD;subst ha1;rcases zL.1 hD with h1|h1
   ·obtain rfl:=Cn h1;exact⟨fun hb=>by have:=hBlt _ hb;omega,by omega⟩
   ·obtain⟨g1,g2,_,g3⟩:=hS.defers.at h1;have:=(qu.1 g2).1;refine⟨fun hb=>?_,by omega⟩;obtain⟨id,blk,h2,h3⟩:=(hB D hb).1;exact g3 id blk h2 h3
  have hlB:¬B l:=fun hb=>by have:=hBlt l hb;omega
  obtain⟨Good,hGood⟩:∃Good:Hp→Nat→(Nat→Prop)→(Nat→GI)→LoopState→Option Code→World→Prop,Good=fun Y Z S G s pe W=>
    WT dr C.P w0 S0 L N Z0 G0 n0 ⟨st.σ,Y,Z⟩ S G a1 W∧(∀b,B b→cN S G Y b)∧cN S G Y l∧W.heap[l]?=some (.loop (rec s pe))∧w.heap.size≤W.heap.size:=⟨_,rfl⟩
  have good_frame:∀{Y Z S G s pe W W'},Good Y Z S G s pe W→Fr dr W B W'→Good Y Z S G s pe W':=by intro Y Z S G s pe W W' hg fr;subst hGood;obtain⟨g1,g2,g3,g4,g5⟩:=hg;exact⟨g1.frame fr g2 hBL (fun D hD=>(hmk D hD).1),g2,g3,(fr.block l (qu.1 g4).1 hlB).trans g4,zC g5 fr.size⟩
  have good_put:∀{Y Z S G s pe W} (s':LoopState) (pe':Option Code),Good Y Z S G s pe W→Good Y Z S G s' pe' (W.putObj l (.loop (rec s' pe'))):=by intro Y Z S G s pe W s' pe' hg;subst hGood;obtain⟨g1,g2,g3,g4,g5⟩:=hg;refine⟨g1.frame (F8 _ (fun b=>b=l) rfl) (fun b hb=>hb ▸ g3) (fun b hb=>.inr (by omega)) (fun D hD=>(hmk D hD).2),g2,g3,World.putObj_heap_same (qu.1 g4).1,by simpa using g5⟩
  have aj:∀{Y Z S G s pe W Y' Z' S' G' W'},Good Y Z S G s pe W→kJ dr C.P Y Z S G W Y' Z' S' G' W'→Good Y' Z' S' G' s pe W'∧∀b,B b→W'.heap[b]?=W.heap[b]?:=by intro Y Z S G s pe W Y' Z' S' G' W' hg k;subst hGood;obtain⟨g1,g2,g3,g4,g5⟩:=hg;have hll:=(qu.1 g4).1;refine⟨⟨g1.step (dst:=none) k xp (fun _ h=>by cases h),fun b hb=>(g2 b hb).step k (zlO (hBlt b hb) g5),g3.step k hll,(g3.same k hll).trans g4,zC g5 k.fr.size⟩,fun b hb=>(g2 b hb).same k (zlO (hBlt b hb) g5)⟩
  obtain⟨J,hJ⟩:∃J:List Value→World→Prop,J=fun pre W=>∃Y Z S G,Good Y Z S G .ready none W∧KY (wB C x) (wB C y) st.σ p ((us.drop pre.length).map O.v) Y Z=some (e0,Y2,Ol):=⟨_,rfl⟩
  obtain⟨Jx,hJx⟩:∃Jx:List Value→World→Prop,Jx=fun _ W=>∃c S G,Good Y2 Ol S G .done (some c) W∧(c=.ret∧e0=.ret∨∃i,c=.exit i∧e0=.exit i):=⟨_,rfl⟩
  have hJ0:J [] W1:=by subst hJ;refine⟨Y1,st.Z,S,G,?_,hro⟩;subst hGood;exact⟨hsim1,fun b hb=>(hB b hb).2,hfreshAway l (by omega),by rw[hl];exact hL1,by omega⟩
  have gf2':¬gfn.name= "runtime.NumGoroutine":=by simpa using gf2
  have gf3':¬gfn.body=none:=by intro h;simp[h]at gf3
  refine⟨l,[iG w.heap.size],W1,{target:=.fn (.func g) vs,args:=#[.func (.yield l) #[] #[]]},W1,g,#[.func (.yield l) #[] #[]]++vs,W1,?_,?_,?_,?_,(fun h=>by simp[Fence.wide]at h),?_⟩
  ·rw[hl,←hW1,hrec];exact run_enterLoop_outer _ _ _ _ _
  ·simp only[resolve,ev];simp[go_sem]
  ·intro f' _;trivial
  ·simp[invoke,callFunc,gf1,gf2',gf3']
  ·have hround:∀pre u W,J pre W→us[pre.length]?=some u→YieldAt Fence.wide 0 C.P l #[u] W fun e W'=>(e=.returned (.bool true)∧J (pre++[u]) W'∧(∀b,B b→W'.heap[b]?=W.heap[b]?)∧W.heap.size≤W'.heap.size)∨(e=.returned (.bool false)∧Jx (pre++[u]) W'):=by
    intro pre u W hj hu;subst hJ;obtain⟨Y,Z,S1,G1,hg,hr⟩:=hj;obtain⟨hlt,hue⟩:=zq.1 hu;rw[zd hlt,hue]at hr;simp only[qF,KY]at hr;split at hr
    case h_2=>cases hr
    rename_i s1 hfx;have hg1:=hg;rw[hGood]at hg1;obtain⟨g1,g2,g3,g4,g5⟩:=hg1;have hy:=run_yield (P:=C.P) (args:=#[u]) g4 (by rw[hrec];rfl);rw[hrec]at hy;refine⟨fn,_,x,y,hy,roundIn_of_wpIn (F:=Fence.wide) trivial ?_⟩;have hin:=(g1.step (dst:=some p) (u:=u) (.refl g1.inv) (Un (hlit u (zO hu))) (fun d hd=>by cases hd;exact hpN)).inner;have htm:(#[p].zip #[u]).foldl (fun tmps (t,a)=>tmps.setIfInBounds t a) a.tmps=a.tmps.setIfInBounds p u:=by simp
    rw[ha1]at hin;rw[htm];refine ihx hox (Fence.wide.inRound l) 0 (.inr ⟨l,rfl⟩) (.inr hnx) W S1 (kN Y G1) Z G1 0 _ s1 .normal _ W _ (kD _) hfx ⟨S1,G1,hin⟩ fun a2 w2 hs2=>?_
    obtain⟨S2,G2,h2⟩:=hs2;obtain⟨hg2,hb2⟩:=aj hg h2.stp;have hl2:w2.heap[l]?=some (.loop (rec .ready none)):=by rw[hGood]at hg2;exact hg2.2.2.2.1
    have hbr:=run_beginRound (P:=C.P) hl2 (by rw[hrec]);have hrb:({rec .ready none with state:=.busy}:Loop)=rec .busy none:=by rw[hrec]
    rw[hrb]at hbr;refine⟨_,hbr,?_⟩;have hg3:=good_put .busy none hg2;have hal2:cN S2 G2 s1.Y l:=by rw[hGood]at hg2;exact hg2.2.2.1
    have h3:=h2.zcb (F8 (.loop (rec .busy none)) (fun b=>b=l) rfl) (fun b hb=>hb ▸ hal2) (fun D hD e=>by have:=(h2.defers.at hD).2.1;rw[e,hl2]at this;cases this)
    cases hfy:wB C y s1 with
    |none=>rw[hfy]at hr;cases hr
    |some r2=>
     obtain⟨e2,s2⟩:=r2;rw[hfy]at hr;refine ihy hoy (Fence.wide.inRound l) 0 (.inr ⟨l,rfl⟩) (.inr hny) _ S2 (kN s1.Y G2) s1.Z G2 0 s1 s2 e2 a2 _ _ (kD _) hfy ⟨S2,G2,h3⟩ fun a4 w4 hs4=>?_
     obtain⟨S4,G4,h4⟩:=hs4;obtain⟨hg4,hb4⟩:=aj hg3 h4.stp;have hl4:w4.heap[l]?=some (.loop (rec .busy none)):=by rw[hGood]at hg4;exact hg4.2.2.2.1
     have hbb:∀b,B b→w4.heap[b]?=W.heap[b]?:=fun b hb=>(hb4 b hb).trans ((zh0 (k:=b) (r:=l) (fun e=>hlB (by rw[←e];exact hb))).trans (hb2 b hb))
     have hsz:W.heap.size≤w4.heap.size:=by have q1:=h2.fr.size;have q2:=h4.fr.size;rw[World.putObj_size]at q2;exact zC q1 q2
     cases e2 with
     |normal=>
      have he:=run_endRound (P:=C.P) none hl4;have hrr:({rec .busy none with state:=if(none:Option Code).isNone then .ready else .done,pending:=none}:Loop)=rec .ready none:=by rw[hrec];rfl
      rw[hrr]at he;refine⟨_,_,he,.inl ⟨rfl,⟨s2.Y,s2.Z,S4,G4,good_put .ready none hg4,by simpa using hr⟩,fun b hb=>(zh0 (k:=b) (r:=l) (fun e=>hlB (by rw[←e];exact hb))).trans (hbb b hb),by simpa using hsz⟩⟩
     |ret=>
      have he:=run_endRound (P:=C.P) (some .ret) hl4;have hrr:({rec .busy none with state:=if(some Code.ret:Option Code).isNone then .ready else .done,pending:=some .ret}:Loop)=rec .done (some .ret):=by rw[hrec];rfl
      rw[hrr]at he;simp only at hr;injection hr with hr
      injection hr with r1 hr;injection hr with r2 r3;subst r1;subst r2;subst r3;refine⟨_,_,he,.inr ⟨rfl,?_⟩⟩;rw[hJx];exact⟨.ret,S4,G4,good_put .done (some .ret) hg4,.inl ⟨rfl,rfl⟩⟩
     |exit i=>
      have he:=run_endRound (P:=C.P) (some (.exit i)) hl4;have hrr:({rec .busy none with state:=if(some (Code.exit i):Option Code).isNone then .ready else .done,pending:=some (.exit i)}:Loop)=rec .done (some (.exit i)):=by rw[hrec];rfl
      rw[hrr]at he;simp only at hr;injection hr with hr
      injection hr with r1 hr;injection hr with r2 r3;subst r1;subst r2;subst r3;refine⟨_,_,he,.inr ⟨rfl,?_⟩⟩;rw[hJx];exact⟨.exit i,S4,G4,good_put .done (some (.exit i)) hg4,.inr ⟨i,rfl,rfl⟩⟩
     |_=>cases hr
   have hcl:=hcalls 0 l J Jx (fun pre W W' hj fr=>by
     subst hJ;obtain⟨Y,Z,S1,G1,hg,hr⟩:=hj;exact⟨Y,Z,S1,G1,good_frame hg fr,hr⟩) (fun pre W W' hj fr=>by
     subst hJx;obtain⟨c,S1,G1,hg,hr⟩:=hj;exact⟨c,S1,G1,good_frame hg fr,hr⟩) (fun pre W hj=>by
     subst hJ;obtain⟨Y,Z,S1,G1,hg,hr⟩:=hj;rw[hGood]at hg;exact hg.1.inv.eR.mono fun b hb=>⟨hg.1.inv.st b hb,rfl⟩) hround W1 hJ0 (fun b hb=>hold1 b (hBlt b hb)) (by omega)
   refine zkl.2 ((zkl.1 hcl).mono ?_);rintro e W2 ⟨⟨v,rfl⟩,hj|⟨pre,hj⟩⟩
   ·rw[hJ]at hj;obtain⟨Y,Z,S1,G1,hg,hr⟩:=hj;rw[zl]at hr;simp only[kp,KY]at hr;injection hr with hr
    injection hr with r1 hr;injection hr with r2 r3;subst r1;subst r2;subst r3;have hl2:W2.heap[l]?=some (.loop (rec .ready none)):=by rw[hGood]at hg;exact hg.2.2.2.1
    have he:=run_endLoop (P:=C.P) hl2 (by rw[hrec];simp);have hrr:({rec .ready none with state:=.exhausted}:Loop)=rec .exhausted none:=by rw[hrec]
    have hrp:(rec .ready none).pending=none:=by rw[hrec]
    rw[hrr,hrp]at he;have hg':=good_put .exhausted none hg;rw[hGood]at hg';have hq:=hQ a1 _ ⟨S1,G1,hg'.1⟩;rw[ha1]at hq;exact⟨none,_,he,hq⟩
   ·rw[hJx]at hj;obtain⟨c,S1,G1,hg,hc⟩:=hj;have hl2:W2.heap[l]?=some (.loop (rec .done (some c))):=by rw[hGood]at hg;exact hg.2.2.2.1
    have he:=run_endLoop (P:=C.P) hl2 (by rw[hrec];simp);have hrr:({rec .done (some c)with state:=.exhausted}:Loop)=rec .exhausted (some c):=by rw[hrec]
    have hrp:(rec .done (some c)).pending=some c:=by rw[hrec]
    rw[hrr,hrp]at he;have hg':=good_put .exhausted (some c) hg;rw[hGood]at hg';have hq:=hQ a1 _ ⟨S1,G1,hg'.1⟩;rw[ha1]at hq;refine⟨some c,_,he,?_⟩;rcases hc with⟨rfl,rfl⟩|⟨i,rfl,rfl⟩
    ·exact wpIn_ret hq
    ·exact wpIn_exit hq
 |exit id=>
  intro _ F n hF _ w0 S0 L Z0 G0 n0 st st' e a w Q _ h hs hQ;simp only[wB]at h;injection h with h
  injection h with e1 e2;subst e1;subst e2;exact wpIn_exit (hQ a w hs)
 |scope b _=>intro _ F n hF _ w0 S0 L Z0 G0 n0 st st' e a w Q _ h;simp[wB]at h
 |label l=>
  intro _ F n hF _ w0 S0 L Z0 G0 n0 st st' e a w Q _ h hs hQ;simp only[wB]at h;injection h with h
  injection h with e1 e2;subst e1;subst e2;exact wpIn_label (hQ a w hs)
 |goto l=>intro _ F n hF _ w0 S0 L Z0 G0 n0 st st' e a w Q _ h;simp[wB]at h
 |ret=>
  intro _ F n hF _ w0 S0 L Z0 G0 n0 st st' e a w Q _ h hs hQ;simp only[wB]at h;injection h with h
  injection h with e1 e2;subst e1;subst e2;exact wpIn_ret (hQ a w hs)
 |refuse why=>intro _ F n hF _ w0 S0 L Z0 G0 n0 st st' e a w Q _ h;simp[wB]at h
end
end Go.AM
