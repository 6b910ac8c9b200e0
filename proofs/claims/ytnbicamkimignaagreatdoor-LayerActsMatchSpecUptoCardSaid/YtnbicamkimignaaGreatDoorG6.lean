/- Lemmas. -/
import Derived.Orders
import Derived.Test.YtnbicamkimignaaGreatDoorG5
set_option maxRecDepth 8000
open Go Proofs Proofs.YtnbicamkimignaaGreatDoor Proofs.Tryz RowKit AM SpanLaw Q Zz
namespace Go.AM
def Qw(pf:FuncId→Bool):Op→Nat
 | .move _|.assign _|.pick ..|.build ..|.binOp ..|.unOp ..|.convert ..|.makeFunc ..|.fieldAddr ..|.field ..|.index ..|.extract ..|.nilCheck _=>0
 | .load ..|.indexAddr ..|.slice ..=>1
 | .call c=>match c.callee with
  | .builtin .len|.builtin .min|.builtin .max=>0
  | .value (.func g)=>if pf g then 1 else 2
  |_=>2
 |_=>2
def W9(a:AM.Spec):Prop:=∀args Y Z r Y' b,a args Y Z=some (r,Y',b)→Y'=Y∧b=Z
section
variable{C:Ctx}{pf:FuncId→Bool}
theorem K4{α:Type}{o:Option O}{Y Y':α}{Z b:Nat}{x:O}(h:(o.map fun y=>(y,Y,Z))=some (x,Y',b)):o=some x∧Y'=Y∧b=Z:=by obtain⟨y,c,a⟩:=zX h;injection a with d a;injection a with e f;subst d;subst e;subst f;exact⟨c,rfl,rfl⟩
theorem OI(j:∀g a,pf g=true→C.Γ g=some a→W9 a){op:Op}(e:Qw pf op≤1){o:Nat→O}{Y Y':Hp}{Z i:Nat}{x:O}(h:qt C (get o) Y Z op=some (x,Y',i)):Y'=Y∧i=Z:=by
 have d:∀{y:O},some (y,Y,Z)=some (x,Y',i)→Y'=Y∧i=Z:=by
  intro y h;injection h with h
  injection h with _ h;injection h with p q;exact⟨p.symm,q.symm⟩
 cases op<;>simp only[Qw]at e<;>(try omega)<;>simp only[qt]at h
 case move=>exact(K4 h).2
 case assign=>exact(K4 h).2
 case pick=>split at h<;>first|exact(K4 h).2|cases h
 case build=>split at h<;>first|exact(K4 h).2|cases h
 case load=>split at h<;>first|exact(K4 h).2|cases h
 case nilCheck=>split at h<;>first|exact d h|cases h
 case binOp=>split at h<;>first|exact(K4 h).2|cases h
 case unOp=>split at h<;>first|exact(K4 h).2|cases h
 case convert=>split at h<;>first|exact(K4 h).2|cases h
 case makeFunc=>split at h<;>first|exact d h|cases h
 case slice t x lo v s=>cases s<;>simp only at h<;>first|(split at h<;>first|exact(K4 h).2|cases h)|cases h
 case fieldAddr=>split at h<;>first|exact(K4 h).2|cases h
 case field=>split at h<;>first|exact(K4 h).2|cases h
 case indexAddr=>split at h<;>first|exact(K4 h).2|cases h
 case index=>split at h<;>first|exact(K4 h).2|cases h
 case extract=>split at h<;>first|exact(K4 h).2|cases h
 case call c=>
  unfold ZK at h;split at h
  ·rename_i xs _;cases k:c.callee with
   |invoke r m=>rw[k]at h;cases h
   |builtin b=>
    rw[k]at e h;cases b<;>simp at e<;>simp only[yQ]at h
    ·split at h<;>first|exact(K4 h).2|cases h
    ·exact(K4 h).2
    ·exact(K4 h).2
   |value f=>
    rw[k]at e h;cases f<;>simp at e;rename_i l;simp only[jQ,get]at h;split at h
    ·rename_i a u;exact j l a (by by_cases n:pf l=true;exact n;simp[n]at e) u _ _ _ _ _ _ h
    ·cases h
  ·cases h
theorem LF{op:Op}(d:Qw pf op=0){e:Operand→Option O}(Y Y2:Hp)(Z g:Nat):qt C e Y2 g op=(qt C e Y Z op).map fun r=>(r.1,Y2,g):=by
 cases op<;>simp only[Qw]at d<;>(try (exact absurd d (by omega)))<;>simp only[qt]
 case move x=>cases e x<;>rfl
 case assign x=>cases e x<;>rfl
 case pick c a b=>split<;>simp[vH,jT]
 case build t ps=>split<;>simp[vH,jT]
 case nilCheck x=>split<;>rfl
 case binOp=>split<;>simp[vH,jT]
 case unOp=>split<;>simp[vH,jT]
 case convert=>split<;>simp[vH,jT]
 case makeFunc=>split<;>rfl
 case fieldAddr=>split<;>simp[vH,jT]
 case field=>split<;>simp[vH,jT]
 case index=>split<;>simp[vH,jT]
 case extract=>split<;>simp[vH,jT]
 case call c=>
  unfold ZK;cases yS (c.args.toList.map e)with
  |none=>rfl
  |some xs=>
   simp only;cases h:c.callee with
   |value f=>rw[h]at d;cases f<;>simp at d;split at d<;>omega
   |invoke r m=>rfl
   |builtin b=>
    rw[h]at d;cases b<;>simp at d<;>simp only[yQ]
    ·split<;>simp[vH,jT]
    ·simp[vH,jT]
    ·simp[vH,jT]
theorem zdf{op:Op}(c:Qw pf op=0){b:Operand→Option O}{Y Y':Hp}{Z d:Nat}{x:O}(h:qt C b Y Z op=some (x,Y',d))(Y2:Hp)(a:Nat):qt C b Y2 a op=some (x,Y2,a):=by rw[LF c Y Y2 Z a,h];rfl
theorem K5{b a:Operand→Option O}:∀{l:List (Nat×Operand)},(∀p∈l,b p.2=a p.2)→vM b l=vM a l
 |[],_=>rfl
 |(i,x)::l,h=>by simp only[vM];rw[h (i,x) (by simp),K5 (l:=l) fun p Y=>h p (by simp[Y])]
theorem ux{o e:Operand→Option O}{op:Op}{Y:Hp}{Z:Nat}(h:∀x∈op.operands.toList,o x=e x):qt C o Y Z op=qt C e Y Z op:=by
 cases op<;>simp only[Op.operands]at h<;>simp only[qt]
 case move x=>rw[h x (by simp)]
 case assign x=>rw[h x (by simp)]
 case pick c a b=>rw[h c (by simp),h a (by simp),h b (by simp)]
 case box t x=>rw[h x (by simp)]
 case build t ps=>rw[K5 (l:=ps.toList) fun p Y=>h p.2 (by simp only[qX];exact⟨p,Y,rfl⟩)]
 case buildSlice t n ps=>rw[K5 (l:=ps.toList) fun p Y=>h p.2 (by simp only[qX];exact⟨p,Y,rfl⟩)]
 case load t x=>rw[h x (by simp)]
 case store t a x=>rw[h a (by simp),h x (by simp)]
 case nilCheck x=>rw[h x (by simp)]
 case binOp op t x y B=>rw[h x (by simp),h y (by simp)]
 case unOp op t x=>rw[h x (by simp)]
 case convert s d x=>rw[h x (by simp)]
 case makeFunc f a b=>rw[zkk (g:=e) fun x j=>h x (by simp at j⊢;exact .inl j),zkk (l:=b.toList) (g:=e) fun x j=>h x (by simp at j⊢;exact .inr j)]
 case makeSlice t l c=>rw[h l (by simp),h c (by simp)]
 case slice t x lo q w=>
  cases w with
  |some m=>rfl
  |none=>
   simp only;rw[h x (by simp)];have u:lo.map o=lo.map e:=by cases lo with
    |none=>rfl
    |some y=>simp only[zH];rw[h y (by simp)]
   have v:q.map o=q.map e:=by cases q with
    |none=>rfl
    |some y=>simp only[zH];rw[h y (by simp)]
   rw[u,v]
 case fieldAddr t x f=>rw[h x (by simp)]
 case field t x f=>rw[h x (by simp)]
 case indexAddr t x i=>rw[h x (by simp),h i (by simp)]
 case index t x i=>rw[h x (by simp),h i (by simp)]
 case extract x i=>rw[h x (by simp)]
 case makeMap t r=>cases r<;>rfl
 case lookup t x i D=>rw[h x (by simp),h i (by simp)]
 case mapUpdate t m k x=>rw[h m (by simp),h k (by simp),h x (by simp)]
 case insert t m k x=>rw[h m (by simp),h k (by simp),h x (by simp)]
 case call c=>
  unfold ZK;have z:c.args.toList.map o=c.args.toList.map e:=zkk fun x j=>h x (by simp only[Call.operands,uj,qP];exact .inr j)
  rw[z];cases yS (c.args.toList.map e)with
  |none=>rfl
  |some xs=>
   simp only;cases A:c.callee with
   |value f=>simp only;rw[h f (by simp[Call.operands,A])]
   |invoke r m=>rfl
   |builtin b=>rfl
def kK(C:Ctx)(a:Array Oper)(o:Oper)(b:Nat→O)(Y:Hp)(Z:Nat):Option (O×Hp×Nat):=
 if Region.wanted o (Q4 a b)=true then qt C (get b) Y Z o.op else some (.yb [],Y,Z)
theorem jc(b:Array Oper)(o:Oper)(a:St):jn C b o a=(kK C b o a.σ a.Y a.Z).map fun r=>⟨put a.σ o.dst r.1,r.2.1,r.2.2⟩:=by
 unfold jn kK;split
 ·cases qt C (get a.σ) a.Y a.Z o.op<;>rfl
 ·rfl
theorem Q5{a:Array Oper}{o:Oper}{e c:Nat→O}{Y:Hp}{Z:Nat}(h:∀t,t∈o.looksAt a→e t=c t):kK C a o e Y Z=kK C a o c Y Z:=by
 have i:Region.wanted o (Q4 a e)=Region.wanted o (Q4 a c):=by
  unfold Region.wanted;split
  ·rfl
  ·rename_i j b k;have:Q4 a e j=Q4 a c j:=by
    unfold Q4;split
    ·rename_i d hd;rw[h d (by simp[Oper.looksAt,k,hd])]
    ·rfl
   rw[this]
 unfold kK;rw[i];split
 ·refine ux fun x l=>?_
  cases x with
  |tmp t=>simp only[get];rw[h t];simp only[Oper.looksAt,qP,List.mem_filterMap];exact .inl ⟨.tmp t,l,rfl⟩
  |const x=>rfl
  |global g=>rfl
  |func f=>rfl
 ·rfl
theorem xK{a:Nat→O}{d:Option Tmp}{x:O}{t:Nat}(h:∀e,d=some e→e≠t):put a d x t=a t:=by
 cases d with
 |none=>rfl
 |some e=>exact qY _ _ _ _ fun b=>h e rfl b.symm
theorem me{a:Nat→O}{d e:Option Tmp}{x y:O}(h:∀k,d=some k→e≠some k):put (put a d x) e y=put (put a e y) d x:=by
 cases d with
 |none=>rfl
 |some k=>
  cases e with
  |none=>rfl
  |some m=>
   have b:m≠k:=fun c=>h k rfl (by rw[c])
   funext i;simp only[put,qZ];by_cases f:i=m<;>by_cases g:i=k<;>simp_all
def OJ(pf:FuncId→Bool)(c:Array Oper)(a b:Oper):Bool:=
 a.apart c b&&(Qw pf a.op==0||Qw pf b.op==0||(decide (Qw pf a.op≤1)&&decide (Qw pf b.op≤1)))
theorem bS{b:Array Oper}{o:Oper}{d:Nat→O}{Y Y':Hp}{Z f:Nat}{x:O}(g:Qw pf o.op=0)(h:kK C b o d Y Z=some (x,Y',f))(Y2:Hp)(a:Nat):kK C b o d Y2 a=some (x,Y2,a):=by
 unfold kK at h⊢;split at h
 ·rename_i c;rw[zf c];exact zdf g h Y2 a
 ·rename_i c;rw[zj c];injection h with h
  injection h with e _;subst e;rfl
theorem K6(b:∀g a,pf g=true→C.Γ g=some a→W9 a){c:Array Oper}{o:Oper}{e:Nat→O}{Y Y':Hp}{Z d:Nat}{x:O}(f:Qw pf o.op≤1)(h:kK C c o e Y Z=some (x,Y',d)):Y'=Y∧d=Z:=by
 unfold kK at h;split at h
 ·exact OI b f h
 ·injection h with h;injection h with _ h;injection h with i j;exact⟨i.symm,j.symm⟩
theorem B7{c:Array Oper}{a b:Oper}(k:Qw pf a.op=0)(q:∀d,a.dst=some d→d ∉ b.looksAt c)(s:∀d,a.dst=some d→b.dst≠some d)(u:∀d,b.dst=some d→d ∉ a.looksAt c)(f:St) :
  (jn C c a f).bind (jn C c b)=(jn C c b f).bind (jn C c a):=by
 have v:∀x Y Z,kK C c b (put f.σ a.dst x) Y Z=kK C c b f.σ Y Z:=fun x Y Z=>Q5 fun t l=>xK fun e m h=>q e m (h ▸ l)
 have p:∀x Y Z,kK C c a (put f.σ b.dst x) Y Z=kK C c a f.σ Y Z:=fun x Y Z=>Q5 fun t l=>xK fun e m h=>u e m (h ▸ l)
 have j:∀x y,put (put f.σ a.dst x) b.dst y=put (put f.σ b.dst y) a.dst x:=fun x y=>me s
 rw[jc c a f,jc c b f];cases g:kK C c a f.σ f.Y f.Z with
 |none=>
  cases n:kK C c b f.σ f.Y f.Z with
  |none=>rfl
  |some r=>
   obtain⟨y,Y2,o⟩:=r;simp only[vU,lx,zH,zS];rw[jc];simp only[p];cases w:kK C c a f.σ Y2 o with
   |none=>rfl
   |some z=>obtain⟨x,A,E⟩:=z;rw[bS k w f.Y f.Z]at g;cases g
 |some r=>
  obtain⟨x,Y1,n1⟩:=r;have i:=bS k g f.Y f.Z;rw[g]at i;injection i with i;injection i with _ i;injection i with B D;subst B;subst D;simp only[zH,zS];rw[jc];simp only[v];cases n:kK C c b f.σ f.Y f.Z with
  |none=>rfl
  |some r=>obtain⟨y,Y2,o⟩:=r;simp only[zH,zS];rw[jc];simp only[p,bS k g Y2 o,zH,j]
theorem LG(j:∀g i,pf g=true→C.Γ g=some i→W9 i){c:Array Oper}{a b:Oper}(h:OJ pf c a b=true)(f:St) :
  (jn C c a f).bind (jn C c b)=(jn C c b f).bind (jn C c a):=by
 simp only[OJ,zF]at h;obtain⟨p,n⟩:=h;obtain⟨q,s,u⟩:=Oper.apart_spec p;simp only[qH,eO,zF,ql]at n;rcases n with(h|h)|⟨B,z⟩
 ·exact B7 h q s u f
 ·exact(B7 h u (fun d hd D=>s d D hd) q f).symm
 ·have E:∀x Y Z,kK C c b (put f.σ a.dst x) Y Z=kK C c b f.σ Y Z:=fun x Y Z=>Q5 fun t v=>xK fun e w k=>q e w (k ▸ v)
  have A:∀x Y Z,kK C c a (put f.σ b.dst x) Y Z=kK C c a f.σ Y Z:=fun x Y Z=>Q5 fun t v=>xK fun e w k=>u e w (k ▸ v)
  have o:∀x y,put (put f.σ a.dst x) b.dst y=put (put f.σ b.dst y) a.dst x:=fun x y=>me s
  rw[jc c a f,jc c b f];cases l:kK C c a f.σ f.Y f.Z with
  |none=>
   cases m:kK C c b f.σ f.Y f.Z with
   |none=>rfl
   |some r=>obtain⟨y,Y2,F⟩:=r;obtain⟨rfl,rfl⟩:=K6 j z m;simp only[vU,lx,zH,zS];rw[jc];simp only[A,l,vU]
  |some r=>
   obtain⟨x,Y1,n1⟩:=r;obtain⟨rfl,rfl⟩:=K6 j B l;simp only[zH,zS];rw[jc];simp only[E];cases m:kK C c b f.σ f.Y f.Z with
   |none=>rfl
   |some r=>obtain⟨y,Y2,F⟩:=r;obtain⟨rfl,rfl⟩:=K6 j z m;simp only[zH,zS];rw[jc];simp only[A,l,zH,o]
def kO(C:Ctx)(a:Array Oper):List Nat→St→Option St
 |[],b=>some b
 |i::l,b=>match a[i]? with
  |none=>kO C a l b
  |some o=>(jn C a o b).bind (kO C a l)
def mf(acc:List Nat)(o:Oper):Nat:=o.after.toList.foldl (fun s e=>if Region.binds .any e then s||| 2 ^ e.on||| acc.getD e.on 0 else s) 0
def uy(c:Oper→Oper→Bool)(b:Array Oper):List Oper→Nat→List Nat→Bool
 |[],_,_=>true
 |o::l,i,a=>
  o.after.toList.all (fun e=>!Region.binds .any e||decide (e.on<i)) &&
  (List.range i).all (fun j=>(mf a o).testBit j||(match b[j]? with|some p=>c p o|none=>false)) &&
  uy c b l (i+1) (a++[mf a o])
def bT(a:Array Oper)(L:Nat→Prop):Prop:=∀k o,L k→a[k]?=some o→∀e∈o.after.toList,Region.binds .any e=true→L e.on
def si(L:Nat→Prop)(o:Oper):Prop:=∀e∈o.after.toList,Region.binds .any e=true→L e.on
theorem sj(acc:List Nat)(j:Nat):∀(l:List Edge) (s:Nat),(l.foldl (fun s e=>if Region.binds .any e then s||| 2 ^ e.on||| acc.getD e.on 0 else s) s).testBit j=true →
  s.testBit j=true∨∃e∈l,Region.binds .any e=true∧(j=e.on∨(acc.getD e.on 0).testBit j=true)
 |[],s,h=>.inl h
 |e::l,s,h=>by
  simp only[Qp]at h;rcases sj acc j l _ h with h1|⟨c,h1,d,f⟩
  ·split at h1
   ·rename_i a;simp only[Nat.testBit_or,qH]at h1;rcases h1 with(h1|h1)|h1
    ·exact .inl h1
    ·refine .inr ⟨e,by simp,a,.inl ?_⟩;by_cases b:j=e.on
     ·exact b
     ·rw[Nat.testBit_two_pow_of_ne (fun h=>b h.symm)]at h1;cases h1
    ·exact .inr ⟨e,by simp,a,.inr h1⟩
   ·exact .inl h1
  ·exact .inr ⟨c,by simp[h1],d,f⟩
def zlU(a:Array Oper)(b:List Nat):Prop:=∀(k m:Nat),b[k]?=some m→∀o,a[k]?=some o→∀L,bT a L→si L o→∀j,m.testBit j=true→L j
theorem aj{a:Array Oper}{b:List Nat}(n:zlU a b){o:Oper}(L:Nat→Prop)(k:bT a L)(Y:si L o)(p:∀e∈o.after.toList,Region.binds .any e=true→e.on<a.size)(j:Nat)(h:(mf b o).testBit j=true):L j:=by
 rcases sj b j _ 0 h with g|⟨e,g,l,c⟩
 ·simp at g
 ·have d:=Y e g l;rcases c with rfl|c
  ·exact d
  ·cases i:b[e.on]? with
   |none=>rw[KU,i]at c;simp at c
   |some m=>rw[KU,i]at c;have f:=p e g l;exact n e.on m i a[e.on] (by simp[f]) L k (k e.on _ d (by simp[f])) j c
theorem gD{y:Oper→Oper→Bool}{a:Array Oper}:∀{l:List Oper} {i:Nat} {b:List Nat},uy y a l i b=true→b.length=i→(∀k,l[k]?=a[i+k]?)→zlU a b →
  ∀k o,l[k]?=some o→(∀e∈o.after.toList,Region.binds .any e=true→e.on<i+k)∧∀j,j<i+k→(∀L,bT a L→si L o→L j)∨∃p,a[j]?=some p∧y p o=true
 |[],i,b,_,_,_,_,k,o,r=>by simp at r
 |o'::l,i,b,h,z,s,A,k,o,r=>by
  simp only[uy,zF,qW,qH,JK,ql,ZV]at h;obtain⟨⟨C,D⟩,E⟩:=h;have t:a[i]?=some o':=by have:=s 0;simpa using this.symm
  have G:i<a.size:=(qu.1 t).1;have B:∀e∈o'.after.toList,Region.binds .any e=true→e.on<i:=fun e v d=>by
   rcases C e v with h|h
   ·rw[d]at h;cases h
   ·exact h
  have u:∀L,bT a L→si L o'→∀j,(mf b o').testBit j=true→L j:=fun L g Y j n=>aj A L g Y (fun e v d=>by have:=B e v d;omega) j n
  cases k with
  |zero=>
   simp at r;subst r;refine⟨by simpa using B,fun j n=>?_⟩;rcases D j (by simpa using n)with h|h
   ·exact .inl fun L g Y=>u L g Y j h
   ·split at h
    ·rename_i p Y;exact .inr ⟨p,Y,h⟩
    ·cases h
  |succ k=>
   have w:zlU a (b++[mf b o']):=by
    intro q m f F c L g Y j n;by_cases x:q<b.length
    ·rw[qV x]at f;exact A q m f F c L g Y j n
    ·rw[qg (by omega)]at f;have:q=i:=by have:=(zq.1 f).1;simp at this;omega
     subst this;rw[z]at f;simp at f;subst f;rw[t]at c;injection c with c
     subst c;exact u L g Y j n
   have:=gD E (by simp[z]) (fun q=>by have:=s (q+1);simpa[N2,eL 1 q]using this) w k o (by simpa using r);rwa [show i+1+k=i+(k+1)from by omega]at this
def mg(b:Oper→Oper→Bool)(a:Array Oper):Bool:=uy b a a.toList 0 []
theorem gE{b:Oper→Oper→Bool}{a:Array Oper}(h:mg b a=true):∀i o,a[i]?=some o→(∀e∈o.after.toList,Region.binds .any e=true→e.on<i)∧∀j,j<i→(∀L,bT a L→si L o→L j)∨∃p,a[j]?=some p∧b p o=true:=by intro i o c;have:=gD h rfl (by simp) (fun k m d=>by simp at d) i o (by simpa using c);simpa using this
structure BS (C:Ctx) (ops:Array Oper) (cm:Oper→Oper→Bool) (A:St→Prop):Prop where
 ZC:∀(i:Nat) (o:Oper) (st st':St),ops[i]?=some o→A st→jn C ops o st=some st'→A st'
 comm:∀(i j:Nat) (a b:Oper) (st st':St),ops[i]?=some a→ops[j]?=some b→cm a b=true→A st→(jn C ops a st).bind (jn C ops b)=some st'→(jn C ops b st).bind (jn C ops a)=some st'
theorem ba{a:Array Oper}{t:Oper→Oper→Bool}{A:St→Prop}(m:BS C a t A){i:Nat}{o:Oper}(g:a[i]?=some o)(b:List Nat):∀(pre:List Nat) (c r:St),A c→(∀j∈pre,∃p,a[j]?=some p∧t p o=true) →
  kO C a (pre++i::b) c=some r→kO C a (i::(pre++b)) c=some r
 |[],c,r,_,_,h=>h
 |j::pre,c,r,u,h,e=>by
  obtain⟨p,Y,n⟩:=h j (by simp);simp only[q9,kO,Y]at e;cases hs:jn C a p c with
  |none=>rw[hs]at e;cases e
  |some d=>
   rw[hs,zS]at e;have f:=ba m g b pre d r (m.ZC j p c d Y u hs) (fun k w=>h k (by simp[w])) e;simp only[kO,g]at f;cases q:jn C a o d with
   |none=>rw[q]at f;cases f
   |some s=>
    rw[q,zS]at f;have l:=m.comm j i p o c s Y g n u (by rw[hs,zS];exact q);simp only[kO,g,q9,Y];cases v:jn C a o c with
    |none=>rw[v]at l;cases l
    |some x=>rw[v,zS]at l;rw[zS,l,zS];exact f
def vZ(a:AM.Spec):Prop:=∀args Y Z r Y' b,a args Y Z=some (r,Y',b)→Z≤b∧∀id blk,id<Z→Y id=some blk→blk.arr=false→Y' id=some blk
def B8(L:List Tmp):Op→Bool
 | .load _ (.tmp a)=>L.contains a
 | .indexAddr _ (.tmp a) _=>L.contains a
 |_=>false
def ixB(L:List Tmp):Op→Bool
 | .indexAddr _ (.tmp a) _=>L.contains a
 |_=>false
def mh(a:FuncId→Bool):Op→Bool
 | .call ⟨.value (.func g),_,_⟩=>a g
 | .call ⟨.builtin .append,_,_⟩=>true
 | .buildSlice _ _ _=>true
 |_=>false
def zdg:Op→Bool
 | .store _ _ _=>true
 |_=>false
def mi(D:List (Tmp×Tmp)):Op→Op→Bool
 | .load _ (.tmp a),.store _ (.tmp b) _=>D.contains (a,b)
 |_,_=>false
def Ui(D:List (Tmp×Tmp))(L:List Tmp)(a:FuncId→Bool)(p o:Op):Bool:=mi D p o||(B8 L p&&mh a o)||(ixB L p&&zdg o)
def zco(D:List (Tmp×Tmp))(L:List Tmp)(b:FuncId→Bool)(a:Array Oper)(p o:Oper):Bool:=
 p.apart a o&&o.apart a p&&p.guard.isNone&&o.guard.isNone&&(Ui D L b p.op o.op||Ui D L b o.op p.op)
def LH(L:List Tmp):Bool:=L.any fun s=>decide (zB≤s)
def sk(L:List Tmp):Op→Bool
 | .buildSlice _ _ a=>a.toList.all fun p=>match p.2 with
  | .tmp z=>L.contains (z+zB)
  |_=>false
 |_=>false
def cX:Op→Bool
 | .load _ (.tmp _)=>true
 | .indexAddr _ (.tmp _) _=>true
 |_=>false
def Uj(L:List Tmp)(a:Array Oper)(p o:Oper):Bool:=LH L&&p.apart a o&&p.guard.isNone&&o.guard.isNone&&cX p.op&&sk L o.op
def Ik(pf:FuncId→Bool)(D:List (Tmp×Tmp))(L:List Tmp)(b:FuncId→Bool)(a:Array Oper)(p o:Oper):Bool:=OJ pf a p o||zco D L b a p o||Uj L a p o
def topB(pf:FuncId→Bool)(o:Op):Bool:=decide (Qw pf o≤1)||match o with
 | .store _ _ _=>true
 | .call ⟨.builtin .append,_,_⟩=>true
 | .buildSlice _ _ _=>true
 |_=>false
def FX(pf:FuncId→Bool)(L:List Tmp)(ops:Array Oper):Bool:=!LH L||ops.all fun o=>topB pf o.op&&L.all fun s=>decide (s<zB)||o.dst != some (s-zB)||(o.guard.isNone&&match o.op with
 | .move (.tmp b)=>L.contains (b+zB)
 | .build _ a=>a.toList.all fun p=>match p.2 with
  | .tmp z=>L.contains (z+zB)
  |_=>false
 |_=>false)
def uz(pf:FuncId→Bool)(D:List (Tmp×Tmp))(L:List Tmp)(a:FuncId→Bool)(ops:Array Oper):Bool:=(D.isEmpty&&L.isEmpty)||ops.all fun o=>D.all (fun p=>o.dst != some p.2&&(o.dst != some p.1||match o.op with
    | .fieldAddr _ (.tmp s) _=>D.contains (s,p.2)
    | .indexAddr _ (.tmp s) _=>D.contains (s,p.2)&&L.contains s
    |_=>false)) &&
 L.all (fun s=>o.dst != some s||match o.op with
  | .fieldAddr _ (.tmp b) _=>L.contains b
  | .indexAddr _ (.tmp b) _=>L.contains b
  |_=>false) &&
 (decide (Qw pf o.op≤1)||match o.op with
  | .store _ _ _=>true
  | .call ⟨.value (.func g),_,_⟩=>D.all (fun p=>L.contains p.2)&&a g
  | .call ⟨.builtin .append,_,_⟩=>D.all (fun p=>L.contains p.2)
  | .buildSlice _ _ _=>D.all (fun p=>L.contains p.2)
  |_=>false)
def uA(pf:FuncId→Bool)(D:List (Tmp×Tmp))(L:List Tmp)(b:FuncId→Bool)(a:Array Oper):Bool:=FX pf L a&&uz pf D L b a
end
section
variable{C:Ctx}{pf:FuncId→Bool}
theorem Xe{Y Y1:Hp}{x y:O}(h:we Y x=some (y,Y1)){id:Nat}{b:jz}(c:Y id=some b)(e:b.arr=false):Y1 id=some b:=by
 unfold we at h;split at h
 ·split at h
  ·rename_i f a;split at h
   ·rename_i d;injection h with h
    injection h with _ h;subst h;rw[qY]
    ·exact c
    ·rintro rfl;rw[c]at a;injection a with a;subst a;rw[e]at d;cases d.1
   ·cases h
  ·cases h
 all_goals first
  |(injection h with h;injection h with _ h;subst h;exact c)
  |(split at h<;>first|(injection h with h;injection h with _ h;subst h;exact c)|cases h)
  |cases h
theorem VR:∀{xs ys:zc} {Y Y1:Hp},qU Y xs=some (ys,Y1)→∀{id:Nat} {b:jz},Y id=some b→b.arr=false→Y1 id=some b
 |[],ys,Y,Y1,h,id,b,a,c=>by simp only[qU]at h;injection h with h;injection h with _ h;subst h;exact a
 |x::l,ys,Y,Y1,h,id,b,a,c=>by
  simp only[qU]at h;split at h
  ·rename_i y Y2 d;split at h
   ·rename_i r e f;injection h with h;injection h with _ h;subst h
    exact VR f (Xe d a c) c
   ·cases h
  ·cases h
theorem JQ{Y Y1:Hp}{x y:O}(h:qf Y x=some (y,Y1)){id:Nat}{b:jz}(a:Y id=some b)(c:b.arr=false):Y1 id=some b:=by
 unfold qf at h;split at h
 ·split at h
  ·rename_i l e d;injection h with h;injection h with _ h;subst h
   exact VR d a c
  ·cases h
 ·exact Xe h a c
theorem LI{P:Program}{Y Y':Hp}{t:TypeId}{p x:O}(h:Q2 P Y t p x=some Y'){id:Nat}{b:jz}(e:Y id=some b)(d:b.arr=false):∃f,Y' id=some f∧f.arr=false:=by
 unfold Q2 at h;split at h
 ·rename_i id' i j;split at h
  ·rename_i m l;split at h
   ·rename_i y Y1 c;have g:Y1 id=some b:=by
     split at c
     ·exact JQ c e d
     ·injection c with c;injection c with _ c;subst c;exact e
    split at h
    ·rename_i o n a _;split at h
     ·split at h
      ·injection h with h;subst h;by_cases k:id=id'
       ·subst k;rw[g]at a;injection a with a
        subst a;exact⟨_,w9 _ _ _,d⟩
       ·exact⟨b,by rw[qY _ _ _ _ k];exact g,d⟩
      ·cases h
     ·cases h
    ·cases h
   ·cases h
  ·cases h
 ·cases h
theorem FY{P:Program}{Y Y':Hp}{t:TypeId}{id i j:Nat}{x:O}{b:jz}(h:Q2 P Y t (.ref id i j) x=some Y')(a:Y id=some b)(c:b.arr=false){k:Nat}(d:k≠id):Y' k=Y k:=by
 simp only[Q2,a,c]at h;simp only[zU,wK]at h;split at h
 ·split at h
  ·split at h
   ·injection h with h;subst h;exact qY _ _ _ _ d
   ·cases h
  ·cases h
 ·cases h
theorem cY{a:Array Oper}{l c:Oper}(o:l.apart a c=true){b:St}(p:∀Y Z y Y' f,kK C a l b.σ Y Z=some (y,Y',f)→Y'=Y∧f=Z)
  (g:∀z Y' f,kK C a c b.σ b.Y b.Z=some (z,Y',f)→(kK C a l b.σ Y' f).map (·.1)=(kK C a l b.σ b.Y b.Z).map (·.1)) :
  (jn C a l b).bind (jn C a c)=(jn C a c b).bind (jn C a l):=by
 obtain⟨B,D,E⟩:=Oper.apart_spec o;have cs:∀y Y Z,kK C a c (put b.σ l.dst y) Y Z=kK C a c b.σ Y Z:=fun y Y Z=>Q5 fun u s=>xK fun e t h=>B e t (h ▸ s)
 have x:∀y Y Z,kK C a l (put b.σ c.dst y) Y Z=kK C a l b.σ Y Z:=fun y Y Z=>Q5 fun u s=>xK fun e t h=>E e t (h ▸ s)
 have i:∀y z,put (put b.σ l.dst y) c.dst z=put (put b.σ c.dst z) l.dst y:=fun y z=>me D
 rw[jc a l b,jc a c b];cases v:kK C a c b.σ b.Y b.Z with
 |none=>
  cases j:kK C a l b.σ b.Y b.Z with
  |none=>rfl
  |some q=>obtain⟨y,Y1,w⟩:=q;obtain⟨rfl,rfl⟩:=p _ _ _ _ _ j;simp only[zH,vU,zS,lx];rw[jc];simp only[cs,v,vU]
 |some q=>
  obtain⟨z,Y',f⟩:=q;have d:=g z Y' f v;cases j:kK C a l b.σ b.Y b.Z with
  |none=>
   rw[j]at d;have F:kK C a l b.σ Y' f=none:=by
    cases m:kK C a l b.σ Y' f with
    |none=>rfl
    |some r=>rw[m]at d;cases d
   simp only[zH,vU,zS,lx];rw[jc];simp only[x,F,vU]
  |some q=>
   obtain⟨y,Y1,w⟩:=q;obtain⟨rfl,rfl⟩:=p _ _ _ _ _ j;rw[j]at d;obtain⟨n,k,A⟩:∃n,kK C a l b.σ Y' f=some n∧n.1=y:=by
    cases m:kK C a l b.σ Y' f with
    |none=>rw[m]at d;cases d
    |some r=>rw[m]at d;injection d with d;exact⟨r,rfl,d⟩
   obtain⟨H,Y2,G⟩:=n;simp only at A;subst A;obtain⟨rfl,rfl⟩:=p _ _ _ _ _ k;simp only[zH,zS];rw[jc,jc];simp only[cs,v,x,k,zH,i]
theorem kL{a:Array Oper}{o:Oper}(g:o.guard=none)(b:Nat→O)(Y:Hp)(Z:Nat):kK C a o b Y Z=qt C (get b) Y Z o.op:=by
 have w:Region.wanted o (Q4 a b)=true:=by unfold Region.wanted;rw[g]
 simp only[kK,w,wi]
theorem JR{P:Program}{Y Y':Hp}{t:TypeId}{p:O}(a:∀id o n,p≠.own id o n)(q:O):wb P Y' t p q=wb P Y t p q:=by
 cases q with
 |v y=>
  cases y with
  |int w i=>
   cases p with
   |own id o n=>exact absurd rfl (a id o n)
   |_=>
    simp only[wb];cases yK P t with
    |none=>rfl
    |some e=>simp only;cases q8 P e<;>rfl
  |_=>simp only[wb]
 |_=>simp only[wb]
theorem LJ{L:List Tmp}{op:Op}(c:B8 L op=true){b:St}(g:kZ L b){Y':Hp}{Z k:Nat}(l:∀id blk,id<b.Z→b.Y id=some blk→blk.arr=false→Y' id=some blk) :
  (qt C (get b.σ) Y' k op).map (·.1)=(qt C (get b.σ) b.Y Z op).map (·.1):=by
 unfold B8 at c;split at c
 ·rename_i t a;obtain⟨⟨d,e⟩,_⟩:=g a (by simpa using c);have:xU C.P Y' t (b.σ a)=xU C.P b.Y t (b.σ a):=by
   cases f:b.σ a with
   |ref id i j=>obtain⟨m,blk,h,n⟩:=e id i j f;simp only[xU,l id blk m h n,h]
   |_=>rfl
  simp only[qt,get,this];cases xU C.P b.Y t (b.σ a)<;>rfl
 ·rename_i t a i;obtain⟨⟨d,e⟩,_⟩:=g a (by simpa using c);have:∀q,wb C.P Y' t (b.σ a) q=wb C.P b.Y t (b.σ a) q:=by exact fun q=>JR d q
  simp only[qt,show get b.σ (.tmp a)=some (b.σ a)from rfl];cases get b.σ i with
  |none=>rfl
  |some q=>simp only[this];cases wb C.P b.Y t (b.σ a) q<;>rfl
 ·cases c
theorem K7{op:Op}{c:Nat→O}{Y Y':Hp}{Z b:Nat}{y:O}(d:(∃t a,op=.load t (.tmp a))∨∃t a i,op=.indexAddr t (.tmp a) i)(h:qt C (get c) Y Z op=some (y,Y',b)):Y'=Y∧b=Z:=by
 rcases d with⟨t,a,rfl⟩|⟨t,a,i,rfl⟩
 ·simp only[qt,get]at h;exact(K4 h).2
 ·simp only[qt,get]at h;split at h
  ·exact(K4 h).2
  ·cases h
theorem OK{L:List Tmp}{op:Op}(h:B8 L op=true):(∃t a,op=.load t (.tmp a))∨∃t a i,op=.indexAddr t (.tmp a) i:=by
 unfold B8 at h;split at h
 ·exact .inl ⟨_,_,rfl⟩
 ·exact .inr ⟨_,_,_,rfl⟩
 ·cases h
theorem VS:∀{ps a:List (Nat×O)} {Y Y1:Hp},zy Y ps=some (a,Y1)→∀{id:Nat} {b:jz},Y id=some b→b.arr=false→Y1 id=some b
 |[],a,Y,Y1,h,id,b,c,d=>by simp only[zy]at h;injection h with h;injection h with _ h;subst h;exact c
 |(i,x)::l,a,Y,Y1,h,id,b,c,d=>by
  simp only[zy]at h;split at h
  ·rename_i y Y2 e;split at h
   ·rename_i r f g;injection h with h;injection h with _ h;subst h
    exact VS g (JQ e c d) d
   ·cases h
  ·cases h
theorem B9{P:Program}{Y Y':Hp}{Z g:Nat}{t u:TypeId}{s x y:O}(h:wU P Y Z t u s x=some (y,Y',g)):Z≤g∧∀id blk,id<Z→Y id=some blk→blk.arr=false→Y' id=some blk:=by
 unfold wU at h;split at h
 ·split at h
  ·split at h
   ·split at h
    ·split at h
     ·split at h
      ·injection h with h;injection h with _ h;injection h with d f;subst d;subst f;exact⟨ze _,fun _ _ _ c _=>c⟩
      ·injection h with h;injection h with _ h;injection h with d f;subst d;subst f;exact⟨by omega,fun id blk hid c _=>by rw[qY _ _ _ _ (by omega)];exact c⟩
     ·cases h
    ·split at h
     ·rename_i b a;split at h
      ·rename_i i;injection h with h;injection h with _ h;injection h with d f
       subst d;subst f;refine⟨by omega,fun id blk hid c j=>?_⟩;rw[qY _ _ _ _ (by omega),qY _ _ _ _ (fun e=>by
        subst e;rw[c]at a;injection a with a
        subst a;rw[j]at i;cases i.1)]
       exact c
      ·cases h
     ·cases h
    ·cases h
   ·cases h
  ·cases h
 ·cases h
theorem mj{f:FuncId→Bool}(c:∀g a,f g=true→C.Γ g=some a→vZ a){op:Op}(b:mh f op=true){j:Nat→O}{Y Y':Hp}{Z i:Nat}{z:O}(h:qt C (get j) Y Z op=some (z,Y',i)) :
  Z≤i∧∀id blk,id<Z→Y id=some blk→blk.arr=false→Y' id=some blk:=by
 unfold mh at b;split at b
 ·rename_i g k ts;simp only[qt,ZK]at h;split at h
  ·simp only[get,jQ]at h;split at h
   ·rename_i a hs;exact c g a b hs _ _ _ _ _ _ h
   ·cases h
  ·cases h
 ·rename_i k ts;simp only[qt,ZK]at h;split at h
  ·simp only[yQ]at h;split at h
   ·exact B9 h
   ·cases h
  ·cases h
 ·rename_i t len d;simp only[qt]at h;split at h
  ·rename_i ps l;unfold zv at h;split at h
   ·split at h
    ·rename_i n r s Y1 _ _ e;split at h
     ·split at h
      ·injection h with h;injection h with _ h;injection h with m o;subst m;subst o;refine⟨by omega,fun id blk hid p q=>?_⟩;rw[qY _ _ _ _ (by omega)];exact VS e p q
      ·cases h
     ·cases h
    ·cases h
   ·cases h
  ·cases h
 ·cases b
theorem sn{I:FuncId→Bool}(B:∀g n,I g=true→C.Γ g=some n→vZ n){D:List (Tmp×Tmp)}{L:List Tmp}{e:Array Oper}{l c:Oper}(J:Ui D L I l.op c.op=true)(f:l.guard=none)(K:c.guard=none)(o:l.apart e c=true){d:St}(N:WU D d)(M:kZ L d) :
  (jn C e l d).bind (jn C e c)=(jn C e c d).bind (jn C e l):=by
 simp only[Ui,qH,zF]at J;rcases J with(k|⟨s,E⟩)|⟨m,Q⟩
 ·unfold mi at k;split at k
  ·rename_i t a t' b x u R;refine cY o (fun Y Z y Y' v h=>?_) (fun z Y' v h=>?_)
   ·rw[kL f,u]at h;exact K7 (.inl ⟨_,_,rfl⟩) h
   ·rw[kL K,R]at h;rw[kL f,kL f,u];simp only[qt,get]at h;have r:xU C.P Y' t (d.σ a)=xU C.P d.Y t (d.σ a):=by
     cases F:d.σ a with
     |ref id i j=>
      obtain⟨id',i',j',blk,S,G,T,w⟩:=N (a,b) (by simpa using k) id i j F;rw[S]at h;split at h
      ·rename_i p q Y0 U;simp only[qw]at Y0;subst Y0;obtain⟨X,W,A⟩:=zX h;injection A with _ A
       injection A with A _;subst A;simp only[xU,FY W T w G]
      ·cases h
     |_=>rfl
    simp only[qt,get,r];cases xU C.P d.Y t (d.σ a)<;>rfl
  ·cases k
 ·refine cY o (fun Y Z y Y' v h=>?_) (fun z Y' v h=>?_)
  ·rw[kL f]at h;exact K7 (OK s) h
  ·rw[kL K]at h;rw[kL f,kL f];exact LJ s M (mj B E h).2
 ·unfold ixB at m;split at m
  ·rename_i t a i u;refine cY o (fun Y Z y Y' v h=>?_) (fun z Y' v h=>?_)
   ·rw[kL f,u]at h;exact K7 (.inr ⟨_,_,_,rfl⟩) h
   ·rw[kL f,kL f,u];obtain⟨⟨H,_⟩,_⟩:=M a (by simpa using m);have:∀q,wb C.P Y' t (d.σ a) q=wb C.P d.Y t (d.σ a) q:=by exact fun q=>JR H q
    simp only[qt,show get d.σ (.tmp a)=some (d.σ a)from rfl];cases get d.σ i with
    |none=>rfl
    |some q=>simp only[this];cases wb C.P d.Y t (d.σ a) q<;>rfl
  ·cases m
theorem Xf{P:Program}{t:TypeId}{f:Nat}{p:O}{id i j:Nat}(h:jj P t f p=some (.ref id i j)):∃a b,p=.ref id a b:=by
 unfold jj at h;split at h
 ·split at h
  ·split at h
   ·cases h
   ·injection h with h;cases h
  ·cases h
 ·split at h
  ·split at h
   ·cases h
   ·injection h with h;injection h with c _ _;subst c;exact⟨_,_,rfl⟩
  ·cases h
 ·cases h
theorem ml{P:Program}{t:TypeId}{f:Nat}{p:O}{id o n:Nat}(h:jj P t f p=some (.own id o n)):False:=by
 unfold jj at h;split at h
 ·split at h
  ·split at h
   ·cases h
   ·injection h with h;cases h
  ·cases h
 ·split at h
  ·split at h
   ·cases h
   ·injection h with h;cases h
  ·cases h
 ·cases h
theorem Xg{P:Program}{Y:Hp}{t:TypeId}{p q:O}{id i j:Nat}(h:wb P Y t p q=some (.ref id i j))(a:∀id o n,p≠.own id o n):∃b c,p=.ref id b c:=by
 unfold wb at h;split at h
 ·split at h
  ·split at h
   ·split at h
    ·obtain⟨z,_,e⟩:=zX h;cases e
    ·cases h
   ·exact absurd rfl (a _ _ _)
   ·cases h
  ·unfold Zu at h;split at h
   ·split at h
    ·split at h
     ·split at h
      ·injection h with h;cases h
      ·injection h with h;injection h with d _ _;subst d;exact⟨_,_,rfl⟩
      ·cases h
     ·cases h
    ·cases h
   ·cases h
 ·cases h
theorem mm{P:Program}{Y:Hp}{t:TypeId}{p q:O}{id o n:Nat}(h:wb P Y t p q=some (.own id o n)):False:=by
 unfold wb at h;split at h
 ·split at h
  ·split at h
   ·split at h
    ·obtain⟨z,_,e⟩:=zX h;cases e
    ·cases h
   ·split at h
    ·split at h
     ·injection h with h;cases h
     ·cases h
    ·cases h
   ·cases h
  ·unfold Zu at h;split at h
   ·split at h
    ·split at h
     ·split at h
      ·injection h with h;cases h
      ·injection h with h;cases h
      ·cases h
     ·cases h
    ·cases h
   ·cases h
 ·cases h
theorem mn{x:O}(h:x.Yh=true)(Y:Hp):we Y x=some (x,Y):=by cases x<;>first|rfl|cases h
theorem mo:∀{cs:zc},cs.all O.Yh=true→∀Y:Hp,qU Y cs=some (cs,Y)
 |[],_,_=>rfl
 |x::cs,h,Y=>by simp only[qN,zF]at h;simp only[qU,mn h.1,mo h.2]
theorem OL{x:O}(h:x.shut=true)(a:∀cs,x≠.agg cs):x.Yh=true:=by cases x<;>first|exact absurd rfl (a _)|exact h
theorem OM{x:O}(h:x.shut=true)(Y:Hp):qf Y x=some (x,Y):=by
 by_cases a:∀cs,x≠.agg cs
 ·have b:=mn (OL h a) Y;unfold qf;split
  ·exact absurd rfl (a _)
  ·exact b
 ·have:∃cs,x=.agg cs:=Classical.byContradiction fun c=>a fun cs e=>c ⟨cs,e⟩
  obtain⟨cs,rfl⟩:=this;simp only[qf,mo (cs:=cs) h]
theorem LK{x:O}(h:x.Jd=true)(a:∀cs,x≠.yb cs):x.shut=true:=by cases x<;>first|exact absurd rfl (a _)|exact h
theorem LL{x y:O}(h:x.Jd=true){Y Y1:Hp}(a:qf Y x=some (y,Y1)):Y1=Y:=by
 by_cases b:∀cs,x≠.yb cs
 ·rw[OM (LK h b)]at a;injection a with a
  injection a with _ a;exact a.symm
 ·exfalso;apply b;rintro cs rfl;cases a
theorem mq:∀{ps a:List (Nat×O)} {Y Y1:Hp},(∀p∈ps,p.2.Jd=true)→zy Y ps=some (a,Y1)→Y1=Y
 |[],a,Y,Y1,_,h=>by injection h with h;injection h with _ h;exact h.symm
 |(i,x)::l,a,Y,Y1,hs,h=>by
  simp only[zy]at h;split at h
  ·rename_i y Y2 b;split at h
   ·rename_i r c d;injection h with h;injection h with _ h;subst h
    rw[mq (fun p Y=>hs p (by simp[Y])) d,LL (hs (i,x) (by simp)) b]
   ·cases h
  ·cases h
theorem uB{x:O}(h:x.Jd=true)(a:x.cells.all O.wY=true):x.cells.all O.Yh=true:=by
 cases x with
 |agg cs=>exact h
 |yb cs=>simp[O.cells,O.wY]at a
 |_=>simpa[O.cells,O.Jd,O.shut]using h
theorem Ca{v:Value}{p:O}(h:eX v=some p):p.Yh=true:=by unfold eX at h;split at h<;>first|(injection h with h;subst h;rfl)|cases h
theorem cZ:∀{l:List Value} {ps:zc},xb l=some ps→ps.all O.Yh=true
 |[],ps,h=>by injection h with h;subst h;rfl
 |x::l,ps,h=>by
  simp only[xb]at h;split at h
  ·rename_i p r a b;injection h with h
   subst h;rw[qN,Ca a,cZ b];rfl
  ·cases h
theorem mr{P:Program}{t:TypeId}{z:zc}(h:jr P t=some z):z.all O.Yh=true:=by
 unfold jr at h;cases a:(P.info? t).bind (·.zero)with
 |none=>rw[a]at h;cases h
 |some q=>rw[a]at h;exact cZ h
theorem bd:∀{xs cs:zc} {off:Nat},cs.all O.Yh=true→xs.all O.Yh=true→(jt cs off xs).all O.Yh=true
 |[],cs,off,h,_=>h
 |x::xs,cs,off,h,a=>by
  simp only[qN,zF]at a;simp only[jt];refine bd ?_ a.2;rw[qW]at h⊢;intro y b;rcases List.mem_or_eq_of_mem_set b with b|rfl
  ·exact h y b
  ·exact a.1
theorem bU{b:Nat→Option (Nat×Nat)}:∀{ps:List (Nat×O)} {cs r:zc},cs.all O.Yh=true→(∀p∈ps,p.2.Jd=true)→qc b cs ps=some r→r.all O.Yh=true
 |[],cs,r,h,_,a=>by injection a with a;subst a;exact h
 |(i,x)::l,cs,r,h,Y,a=>by
  simp only[qc]at a;split at a
  ·split at a
   ·rename_i c;exact bU (bd h (uB (Y (i,x) (by simp)) c.2.2)) (fun p Y'=>Y p (by simp[Y'])) a
   ·cases a
  ·cases a
theorem Cb{P:Program}{t:TypeId}{ps:List (Nat×O)}{y:O}(Y:∀p∈ps,p.2.Jd=true)(h:zR P t ps=some y):y.shut=true:=by
 unfold zR at h;split at h
 ·rename_i c z _ a;obtain⟨r,b,rfl⟩:=zX h;exact bU (mr a) Y b
 ·rename_i z _ a;split at h
  ·split at h
   ·obtain⟨r,b,rfl⟩:=zX h;exact bU (mr a) Y b
   ·cases h
  ·cases h
 ·cases h
theorem mu{a:Operand→Option O}:∀{l:List (Nat×Operand)} {ps:List (Nat×O)},vM a l=some ps→∀p∈ps,∃q∈l,a q.2=some p.2
 |[],ps,h,p,Y=>by injection h with h;subst h;cases Y
 |(i,x)::l,ps,h,p,Y=>by
  simp only[vM]at h;split at h
  ·rename_i y r b c;injection h with h
   subst h;rcases zL.1 Y with rfl|Y
   ·exact⟨(i,x),by simp,b⟩
   ·obtain⟨q,d,e⟩:=mu c p Y;exact⟨q,by simp[d],e⟩
  ·cases h
theorem Il{L:List Tmp}{a:St}(h:kZ L a){z:Tmp}(b:L.contains (z+zB)=true):(a.σ z).Jd=true:=by have:=(h (z+zB) (by simpa using b)).2 (Nat.le_add_left _ _);simpa using this
theorem mv{L:List Tmp}{c:St}(h:kZ L c){a:List (Nat×Operand)}(Y:(a.all fun p=>match p.2 with|.tmp z=>L.contains (z+zB)|_=>false)=true){ps:List (Nat×O)}(hs:vM (get c.σ) a=some ps):∀p∈ps,p.2.Jd=true:=by
 intro p b;obtain⟨q,d,e⟩:=mu hs p b;have:=qW.1 Y q d;split at this
 ·rename_i z f;rw[f]at e;simp only[get,qw]at e;rw[←e];exact Il h this
 ·cases this
theorem zdh{x:O}(h:x.shut=true):x.Jd=true:=by cases x<;>first|rfl|exact h
def bV(Y:Hp)(Z:Nat):Prop:=∀id b,Y id=some b→id<Z
theorem Xh{Y Y1:Hp}{x y:O}(h:we Y x=some (y,Y1)){id:Nat}{b:jz}(a:Y1 id=some b):Y id=some b:=by
 unfold we at h;split at h
 ·rename_i k off n;split at h
  ·rename_i d c;split at h
   ·injection h with h;injection h with _ h;subst h;by_cases e:id=k
    ·subst e;rw[w9]at a;cases a
    ·rwa [qY _ _ _ _ e]at a
   ·cases h
  ·cases h
 all_goals first
  |(injection h with h;injection h with _ h;subst h;exact a)
  |(split at h<;>first|(injection h with h;injection h with _ h;subst h;exact a)|cases h)
  |cases h
theorem VT:∀{xs ys:zc} {Y Y1:Hp},qU Y xs=some (ys,Y1)→∀{id:Nat} {b:jz},Y1 id=some b→Y id=some b
 |[],ys,Y,Y1,h,id,b,a=>by simp only[qU]at h;injection h with h;injection h with _ h;subst h;exact a
 |x::l,ys,Y,Y1,h,id,b,a=>by
  simp only[qU]at h;split at h
  ·rename_i y Y2 c;split at h
   ·rename_i r d e;injection h with h;injection h with _ h;subst h
    exact Xh c (VT e a)
   ·cases h
  ·cases h
theorem bf{Y Y1:Hp}{x y:O}(h:qf Y x=some (y,Y1)){id:Nat}{b:jz}(a:Y1 id=some b):Y id=some b:=by
 unfold qf at h;split at h
 ·split at h
  ·rename_i l d c;injection h with h;injection h with _ h;subst h
   exact VT c a
  ·cases h
 ·exact Xh h a
theorem VU:∀{ps a:List (Nat×O)} {Y Y1:Hp},zy Y ps=some (a,Y1)→∀{id:Nat} {b:jz},Y1 id=some b→Y id=some b
 |[],a,Y,Y1,h,id,b,c=>by simp only[zy]at h;injection h with h;injection h with _ h;subst h;exact c
 |(i,x)::l,a,Y,Y1,h,id,b,c=>by
  simp only[zy]at h;split at h
  ·rename_i y Y2 d;split at h
   ·rename_i r e f;injection h with h;injection h with _ h;subst h
    exact bf d (VU f c)
   ·cases h
  ·cases h
theorem uC{Y:Hp}{Z:Nat}(h:∀id b,Y id=some b→id<Z)(x:jz):bV (qZ Y Z (some x)) (Z+1):=by
 intro id b a;by_cases e:id=Z
 ·omega
 ·rw[qY _ _ _ _ e]at a;have:=h id b a;omega
theorem LM{P:Program}{Y Y':Hp}{t:TypeId}{p x:O}(h:Q2 P Y t p x=some Y'){Z:Nat}(f:bV Y Z):bV Y' Z:=by
 unfold Q2 at h;split at h
 ·rename_i k i j;split at h
  ·rename_i g d;split at h
   ·rename_i y Y1 a;have l:∀id b,Y1 id=some b→Y id=some b:=fun id b c=>by
     split at a
     ·exact bf a c
     ·injection a with a;injection a with _ a;subst a;exact c
    split at h
    ·split at h
     ·split at h
      ·injection h with h;subst h;intro id b c;by_cases e:id=k
       ·subst e;exact f id g d
       ·rw[qY _ _ _ _ e]at c;exact f id b (l id b c)
      ·cases h
     ·cases h
    ·cases h
   ·cases h
  ·cases h
 ·cases h
theorem FZ{P:Program}{Y Y':Hp}{Z f:Nat}{t u:TypeId}{s x y:O}(h:wU P Y Z t u s x=some (y,Y',f))(e:bV Y Z):bV Y' f:=by
 unfold wU at h;split at h
 ·split at h
  ·split at h
   ·split at h
    ·split at h
     ·split at h
      ·injection h with h;injection h with _ h;injection h with a c;subst a;subst c;exact e
      ·injection h with h;injection h with _ h;injection h with a c;subst a;subst c;exact uC e _
     ·cases h
    ·split at h
     ·rename_i k _ _ b g;split at h
      ·injection h with h;injection h with _ h;injection h with a c;subst a;subst c;refine uC (fun id i d=>?_) _;unfold qZ at d;split at d
       ·cases d
       ·exact e id i d
      ·cases h
     ·cases h
    ·cases h
   ·cases h
  ·cases h
 ·cases h
theorem LN{P:Program}{Y Y':Hp}{Z c:Nat}{t:TypeId}{len:Nat}{ps:List (Nat×O)}{y:O}(h:zv P Y Z t len ps=some (y,Y',c))(d:bV Y Z):bV Y' c:=by
 unfold zv at h;split at h
 ·split at h
  ·rename_i n i j Y1 _ _ a;split at h
   ·split at h
    ·injection h with h;injection h with _ h;injection h with e f;subst e;subst f;exact uC (fun id b g=>d id b (VU a g)) _
    ·cases h
   ·cases h
  ·cases h
 ·cases h
theorem LO(e:∀g a,pf g=true→C.Γ g=some a→W9 a){op:Op}(b:topB pf op=true){i:Nat→O}{Y Y':Hp}{Z f:Nat}{y:O}(h:qt C (get i) Y Z op=some (y,Y',f))(d:bV Y Z):bV Y' f:=by
 simp only[topB,qH,ql]at b;rcases b with b|b
 ·obtain⟨rfl,rfl⟩:=OI e b h;exact d
 ·split at b
  ·simp only[qt]at h;split at h
   ·obtain⟨l,j,c⟩:=zX h;injection c with _ c;injection c with c k;subst c;subst k;exact LM j d
   ·cases h
  ·simp only[qt,ZK]at h;split at h
   ·simp only[yQ]at h;split at h
    ·exact FZ h d
    ·cases h
   ·cases h
  ·simp only[qt]at h;split at h
   ·exact LN h d
   ·cases h
  ·cases b
theorem LP{P:Program}{Y Y':Hp}{t:TypeId}{p y:O}(hs:∀id b,Y id=some b→Y' id=some b)(h:xU P Y t p=some y):xU P Y' t p=some y:=by
 cases p with
 |ref id i j=>
  simp only[xU]at h⊢;cases a:Y id with
  |none=>rw[a]at h;cases h
  |some b=>rw[a]at h;rw[hs id b a];exact h
 |_=>exact h
theorem mw{P:Program}{Y Y':Hp}{t:TypeId}{p q y:O}(hs:∀id b,Y id=some b→Y' id=some b)(h:wb P Y t p q=some y):wb P Y' t p q=some y:=by
 by_cases a:∀id o n,p≠.own id o n
 ·rw[JR (Y:=Y) a];exact h
 ·have:∃id o n,p=.own id o n:=by refine Classical.byContradiction fun g=>a fun id o n e=>g ⟨id,o,n,e⟩
  obtain⟨id,o,n,rfl⟩:=this;cases q with
  |v z=>
   cases z with
   |int k i=>
    simp only[wb]at h⊢;cases d:yK P t with
    |none=>rw[d]at h;exact h
    |some e=>
     rw[d]at h;simp only at h⊢;cases f:q8 P e with
     |none=>rw[f]at h;cases h
     |some m=>
      rw[f]at h;simp only at h⊢;cases c:Y id with
      |none=>rw[c]at h;cases h
      |some b=>rw[c]at h;rw[hs id b c];exact h
   |_=>cases h
  |_=>cases h
theorem LQ{op:Op}(e:cX op=true){d:Nat→O}{Y Y':Hp}{Z g:Nat}{y:O}{k:Hp}{n1:Nat}(hs:∀id b,Y id=some b→Y' id=some b)(h:qt C (get d) Y Z op=some (y,k,n1)):qt C (get d) Y' g op=some (y,Y',g):=by
 unfold cX at e;split at e
 ·rename_i t a;simp only[qt,get]at h⊢;obtain⟨z,f,c⟩:=zX h;injection c with c _
  subst c;rw[LP hs f];rfl
 ·rename_i t a i;simp only[qt,show get d (.tmp a)=some (d a)from rfl]at h⊢;cases j:get d i with
  |none=>rw[j]at h;cases h
  |some q=>
   rw[j]at h;obtain⟨z,f,c⟩:=zX h;injection c with c _
   subst c;simp only[mw hs f];rfl
 ·cases e
theorem F0{op:Op}(h:cX op=true):(∃t a,op=.load t (.tmp a))∨∃t a i,op=.indexAddr t (.tmp a) i:=by
 unfold cX at h;split at h
 ·exact .inl ⟨_,_,rfl⟩
 ·exact .inr ⟨_,_,_,rfl⟩
 ·cases h
theorem ON{L:List Tmp}{a:Array Oper}{l c:Oper}(v:Uj L a l c=true){d f:St}(x:kZ L d)(A:bV d.Y d.Z)(hs:(jn C a l d).bind (jn C a c)=some f):(jn C a c d).bind (jn C a l)=some f:=by
 simp only[Uj,zF,Option.isNone_iff_eq_none]at v;obtain⟨⟨⟨⟨⟨_,m⟩,o⟩,B⟩,g⟩,e⟩:=v;cases k:kK C a l d.σ d.Y d.Z with
 |none=>rw[jc,k]at hs;cases hs
 |some q=>
  obtain⟨y,G,n1⟩:=q;rw[←cY m (fun Y Z y Y' D h=>by rw[kL o]at h;exact K7 (F0 g) h) (fun z Y' D h=>?_)]
  ·exact hs
  ·rw[kL B]at h;unfold sk at e;split at e
   ·rename_i t len p r;rw[r]at h;simp only[qt]at h;split at h
    ·rename_i ps s;have i:=mv x e s;unfold zv at h;split at h
     ·split at h
      ·rename_i n H I Y1 _ _ u;have E:=mq i u;subst E;split at h
       ·split at h
        ·injection h with h;injection h with _ h;injection h with F J;have j:∀id b,d.Y id=some b→Y' id=some b:=fun id b w=>by rw[←F,qY _ _ _ _ (by have:=A id b w;omega)];exact w
         rw[kL o]at k⊢;rw[kL o,k,LQ g j k];rfl
        ·cases h
       ·cases h
      ·cases h
     ·cases h
    ·cases h
   ·cases e
def AskA(D:List (Tmp×Tmp))(L:List Tmp)(a:St):Prop:=(WU D a∧kZ L a)∧(LH L=true→bV a.Y a.Z)
theorem F1(W:∀g l,pf g=true→C.Γ g=some l→W9 l){X:FuncId→Bool}(hbk:∀g l,X g=true→C.Γ g=some l→vZ l){D:List (Tmp×Tmp)}{L:List Tmp}{J:Array Oper}(hpl:uz pf D L X J=true){i:Nat}{o:Oper}{h K:St}(ho:J[i]?=some o)(H:WU D h∧zcm L h)(hs:jn C J o h=some K):WU D K∧zcm L K:=by
  simp only[uz,qH,zF]at hpl;rcases hpl with⟨hD,hL⟩|hpl
  ·have hD:D=[]:=by simpa using hD
   have hL:L=[]:=by simpa using hL
   subst hD;subst hL;exact⟨(fun p Y=>(by cases Y)),(fun s hs=>(by cases hs))⟩
  have h0:=aW.1 hpl o (zeL ho);simp only[zF,qH,ql]at h0;obtain⟨⟨hd,hld⟩,hk⟩:=h0;rw[jc]at hs;obtain⟨r,a,Lp⟩:=zX hs;obtain⟨y,Y1,R⟩:=r;subst Lp;have B:(∀id blk,h.Y id=some blk→blk.arr=false→D.all (fun p=>L.contains p.2)=false∨id<h.Z→∃M,Y1 id=some M∧M.arr=false)∧h.Z≤R:=by
   have k:∀{op:Op},o.op=op→mh X op=true→D.all (fun p=>L.contains p.2)=true→(∀id blk,h.Y id=some blk→blk.arr=false→D.all (fun p=>L.contains p.2)=false∨id<h.Z→∃M,Y1 id=some M∧M.arr=false)∧h.Z≤R:=by
    intro op c hf N;unfold kK at a;split at a
    ·rw[c]at a;obtain⟨m,d⟩:=mj hbk hf a;refine⟨fun id blk A w h3=>?_,m⟩;rcases h3 with h3|h3
     ·rw[N]at h3;cases h3
     ·exact⟨blk,d id blk h3 A w,w⟩
    ·injection a with a;injection a with _ a;injection a with m d;subst m;subst d;exact⟨fun id blk A w _=>⟨blk,A,w⟩,ze _⟩
   rcases hk with hk|hk
   ·obtain⟨rfl,rfl⟩:=K6 W hk a;exact⟨fun id blk A w _=>⟨blk,A,w⟩,ze _⟩
   ·split at hk
    ·rename_i t q x c;unfold kK at a;split at a
     ·rw[c]at a;simp only[qt]at a;split at a
      ·obtain⟨w,m,d⟩:=zX a;injection d with _ d;injection d with d E;subst d;subst E;exact⟨fun id blk A w _=>LI m A w,ze _⟩
      ·cases a
     ·injection a with a;injection a with _ a;injection a with m d;subst m;subst d;exact⟨fun id blk A w _=>⟨blk,A,w⟩,ze _⟩
    ·rename_i g aZ ts c;simp only[zF]at hk;exact k c (by simpa[mh]using hk.2) hk.1
    ·rename_i aZ ts c;exact k c rfl hk
    ·rename_i t n ps c;exact k c rfl hk
    ·cases hk
  refine⟨fun p Y=>?_,fun s S=>?_⟩
  rotate_left
  ·have hl:=qW.1 hld s S;simp only[qH,bne_iff_ne]at hl;have I:(∀id o' n,put h.σ o.dst y s≠.own id o' n)∧∀id i' j',put h.σ o.dst y s=.ref id i' j'→id<h.Z∧∃blk,h.Y id=some blk∧blk.arr=false:=by
    by_cases u:o.dst=some s
    ·have v:put h.σ o.dst y s=y:=by rw[u];exact w9 _ _ _
     rw[v];rcases hl with hl|hl
     ·exact absurd u hl
     ·split at hl
      ·rename_i t b f c;obtain⟨F,G⟩:=H.2 b (by simpa using hl);unfold kK at a;split at a
       ·rw[c]at a;simp only[qt,get]at a;obtain⟨z,m,d⟩:=zX a;injection d with d _
        subst d;refine⟨fun id o' n e=>?_,fun id i' j' e=>?_⟩
        ·subst e;exact ml m
        ·subst e;obtain⟨i0,j0,E⟩:=Xf m;exact G _ _ _ E
       ·injection a with a;injection a with a _;subst a;exact⟨(fun _ _ _ e=>by cases e),(fun _ _ _ e=>by cases e)⟩
      ·rename_i t b ix c;obtain⟨F,G⟩:=H.2 b (by simpa using hl);unfold kK at a;split at a
       ·rw[c]at a;simp only[qt,get]at a;split at a
        ·rename_i p0 q0 Y0 hq0;simp only[qw]at Y0;subst Y0;obtain⟨z,m,d⟩:=zX a;injection d with d _
         subst d;refine⟨fun id o' n e=>?_,fun id i' j' e=>?_⟩
         ·subst e;exact mm m
         ·subst e;obtain⟨i0,j0,E⟩:=Xg m F;exact G _ _ _ E
        ·cases a
       ·injection a with a;injection a with a _;subst a;exact⟨(fun _ _ _ e=>by cases e),(fun _ _ _ e=>by cases e)⟩
      ·cases hl
    ·have v:put h.σ o.dst y s=h.σ s:=xK (fun e T=>by rintro rfl;exact u T);rw[v];exact H.2 s S
   refine⟨I.1,fun id i' j' e=>?_⟩;obtain⟨A,blk,w,h3⟩:=I.2 id i' j' e;exact⟨zlO A B.2,B.1 id blk w h3 (.inr A)⟩
  ·have hd:=qW.1 hd p Y;simp only[zF,qH,bne_iff_ne]at hd;obtain⟨hd2,hd1⟩:=hd;have hpb:put h.σ o.dst y p.2=h.σ p.2:=xK (fun e T=>by rintro rfl;exact hd2 T);have P:∀id i j,put h.σ o.dst y p.1=.ref id i j→∃id' i' j' blk,h.σ p.2=.ref id' i' j'∧id≠id'∧h.Y id'=some blk∧blk.arr=false:=by
    intro id i j e;by_cases u:o.dst=some p.1
    ·have v:put h.σ o.dst y p.1=y:=by rw[u];exact w9 _ _ _
     rw[v]at e;subst e;rcases hd1 with hd1|hd1
     ·exact absurd u hd1
     ·split at hd1
      ·rename_i t b f c;unfold kK at a;split at a
       ·rw[c]at a;simp only[qt,get]at a;obtain⟨z,m,d⟩:=zX a;injection d with d _
        subst d;obtain⟨i0,j0,E⟩:=Xf m;exact H.1 (b,p.2) (by simpa using hd1) _ _ _ E
       ·injection a with a;injection a with a _;cases a
      ·rename_i t b ix c;simp only[zF]at hd1;obtain⟨F,G⟩:=H.2 b (by simpa using hd1.2);unfold kK at a;split at a
       ·rw[c]at a;simp only[qt,get]at a;split at a
        ·rename_i p0 q0 Y0 hq0;simp only[qw]at Y0;subst Y0;obtain⟨z,m,d⟩:=zX a;injection d with d _
         subst d;obtain⟨i0,j0,E⟩:=Xg m F;exact H.1 (b,p.2) (by simpa using hd1.1) _ _ _ E
        ·cases a
       ·injection a with a;injection a with a _;cases a
      ·cases hd1
    ·have v:put h.σ o.dst y p.1=h.σ p.1:=xK (fun e T=>by rintro rfl;exact u T);rw[v]at e;exact H.1 p Y id i j e
   intro id i j e;obtain⟨id',i',j',blk,eb,hne,hbl,U⟩:=P id i j e;have Q:D.all (fun p=>L.contains p.2)=false∨id'<h.Z:=by
    cases N:D.all (fun p=>L.contains p.2)
    ·exact .inl rfl
    ·refine .inr ?_;have:=qW.1 N p Y;exact((H.2 p.2 (by simpa using this)).2 id' i' j' eb).1
   obtain⟨M,hb1,hb2⟩:=B.1 id' blk hbl U Q;exact⟨id',i',j',M,by show put h.σ o.dst y p.2=_;rw[hpb];exact eb,hne,hb1,hb2⟩
theorem zdi(w:∀g h,pf g=true→C.Γ g=some h→W9 h){L:List Tmp}{j:Array Oper}(G:FX pf L j=true)(J:LH L=true){i:Nat}{o:Oper}{d f:St}(K:j[i]?=some o)(x:kZ L d)(H:bV d.Y d.Z)(hs:jn C j o d=some f) :
  (∀s∈L,zB≤s→(f.σ (s-zB)).Jd=true)∧bV f.Y f.Z:=by
 simp only[FX,J,Bool.not_true,jo]at G;have I:=aW.1 G o (zeL K);simp only[zF]at I;obtain⟨m,n⟩:=I;rw[jc]at hs;obtain⟨r,a,A⟩:=zX hs;obtain⟨y,Y1,B⟩:=r;subst A;refine⟨fun s p q=>?_,?_⟩
 ·have c:=qW.1 n s p;simp only[qH,ql,bne_iff_ne,zF,Option.isNone_iff_eq_none]at c;by_cases hd:o.dst=some (s-zB)
  ·have k:put d.σ o.dst y (s-zB)=y:=by rw[hd];exact w9 _ _ _
   show(put d.σ o.dst y (s-zB)).Jd=true;rw[k];rcases c with(c|c)|⟨M,c⟩
   ·exact absurd c (Fo.2 q)
   ·exact absurd hd c
   ·rw[kL M]at a;split at c
    ·rename_i b l;rw[l]at a;simp only[qt,get,zH]at a;injection a with a
     injection a with a _;rw[←a];exact Il x c
    ·rename_i t D l;rw[l]at a;simp only[qt]at a;split at a
     ·rename_i ps u;obtain⟨z,E,v⟩:=zX a;injection v with v _
      subst v;exact zdh (Cb (mv x c u) E)
     ·cases a
    ·cases c
  ·have k:put d.σ o.dst y (s-zB)=d.σ (s-zB):=xK (fun e N F=>hd (by rw[N,F]));show(put d.σ o.dst y (s-zB)).Jd=true;rw[k];exact(x s p).2 q
 ·show bV Y1 B;unfold kK at a;split at a
  ·exact LO w m a H
  ·injection a with a;injection a with _ a;injection a with E v;subst E;subst v;exact H
theorem OO(l:∀g d,pf g=true→C.Γ g=some d→W9 d){r:FuncId→Bool}(m:∀g d,r g=true→C.Γ g=some d→vZ d){D:List (Tmp×Tmp)}{L:List Tmp}{n:Array Oper}(k:uA pf D L r n=true):BS C n (Ik pf D L r n) (AskA D L):=by
 simp only[uA,zF]at k;obtain⟨E,k⟩:=k;refine⟨fun i o w t x f hs=>?_,fun i j a b w t I J c f hs=>?_⟩
 ·obtain⟨y,z⟩:=F1 l m k x ⟨f.1.1,fun s hs=>(f.1.2 s hs).1⟩ hs;cases q:LH L
  ·refine⟨⟨y,fun s h=>⟨z s h,fun F=>?_⟩⟩,fun e=>by rw[q]at e;cases e⟩;have:=List.any_eq_false.1 q s h;simp at this;omega
  ·obtain⟨G,H⟩:=zdi l E q x f.1.2 (f.2 q) hs;exact⟨⟨y,fun s h=>⟨z s h,G s h⟩⟩,fun _=>H⟩
 ·simp only[Ik,qH]at c;rcases c with(c|c)|c
  ·rw[←LG l c w];exact hs
  ·simp only[zco,zF,qH,Option.isNone_iff_eq_none]at c;obtain⟨⟨⟨⟨u,p⟩,A⟩,B⟩,hm⟩:=c;rcases hm with hm|hm
   ·rw[←sn m hm A B u f.1.1 f.1.2];exact hs
   ·rw[sn m hm B A p f.1.1 f.1.2];exact hs
  ·have v:LH L=true:=by simp only[Uj,zF]at c;exact c.1.1.1.1.1
   exact ON c f.1.2 (f.2 v) hs
end
end Go.AM
