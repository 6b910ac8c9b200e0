/- Lemmas. -/
import Derived.Orders
import Derived.LoopNIn
import Derived.RangeFuncRecord
import Derived.RangeFuncSeq
import Derived.Test.YtnjndeeldhifoaaGreatDoorG2
set_option maxRecDepth 8000
open Go Proofs Proofs.YtnjndeeldhifoaaGreatDoor Proofs.Tryz RowKit AM SpanLaw Q Zz
namespace Go.AM
def k6(pf:FuncId->Bool):Op->Nat
 | .move _|.assign _|.pick ..|.build ..|.binOp ..|.unOp ..|.convert ..|.makeFunc ..|.fieldAddr ..|.field ..|.index ..|.extract ..|.nilCheck _=>0
 | .load ..|.indexAddr ..|.slice ..=>1
 | .call c=>match c.callee with
  | .builtin .len|.builtin .min|.builtin .max=>0
  | .value (.func g)=>if pf g then 1 else 2
  |_=>2
 |_=>2
def Zk(a:AM.Spec):Prop:=∀args Y Z r c Z',a args Y Z=some (r,c,Z')->(c=Y/\Z'=Z)/\∀b,Y Z=none->a args (ql Y Z b) (Z+1)=some (r,ql Y Z b,Z+1)
section
variable{C:Ctx}{pf:FuncId->Bool}
theorem WS{α:Type}{o:Option O}{Y b:α}{Z Z':Nat}{x:O}(h:(o.map fun y=>(y,Y,Z))=some (x,b,Z')):o=some x/\b=Y/\Z'=Z:=by obtain⟨y,c,a⟩:=zH h;injection a with d a;injection a with e f;subst d;subst e;subst f;exact⟨c,rfl,rfl⟩
theorem ET(j:∀g a,pf g=true->C.Γ g=some a->Zk a){op:Op}(e:k6 pf op<=1){U:Nat->O}{Y i:Hp}{Z Z':Nat}{x:O}(h:zF C (get U) Y Z op=some (x,i,Z')):i=Y/\Z'=Z:=by
 have d:∀{y:O},some (y,Y,Z)=some (x,i,Z')->i=Y/\Z'=Z:=by
  intro y h;injection h with h
  injection h with _ h;injection h with o p;exact⟨o.symm,p.symm⟩
 cases op<;>simp only[k6]at e<;>(try omega)<;>simp only[zF]at h
 case move=>exact(WS h).2
 case assign=>exact(WS h).2
 case pick=>split at h<;>first|exact(WS h).2|cases h
 case build=>split at h<;>first|exact(WS h).2|cases h
 case load=>split at h<;>first|exact(WS h).2|cases h
 case nilCheck=>split at h<;>first|exact d h|cases h
 case binOp=>split at h<;>first|exact(WS h).2|cases h
 case unOp=>split at h<;>first|exact(WS h).2|cases h
 case convert=>split at h<;>first|exact(WS h).2|cases h
 case makeFunc=>split at h<;>first|exact d h|cases h
 case slice t x lo u q=>cases q<;>simp only at h<;>first|(split at h<;>first|exact(WS h).2|cases h)|cases h
 case fieldAddr=>split at h<;>first|exact(WS h).2|cases h
 case field=>split at h<;>first|exact(WS h).2|cases h
 case indexAddr=>split at h<;>first|exact(WS h).2|cases h
 case index=>split at h<;>first|exact(WS h).2|cases h
 case extract=>split at h<;>first|exact(WS h).2|cases h
 case call c=>
  unfold kY at h;split at h
  ·rename_i xs _;cases k:c.callee with
   |invoke r m=>rw[k]at h;cases h
   |builtin b=>
    rw[k]at e h;cases b<;>simp at e<;>simp only[wL]at h
    ·split at h<;>first|exact(WS h).2|cases h
    ·exact(WS h).2
    ·exact(WS h).2
   |value f=>
    rw[k]at e h;cases f<;>simp at e;rename_i l;simp only[yR,get]at h;split at h
    ·rename_i a s;exact(j l a (by by_cases n:pf l=true;exact n;simp[n]at e) s _ _ _ _ _ _ h).1
    ·cases h
  ·cases h
theorem BQ{op:Op}(d:k6 pf op=0){e:Operand->Option O}(Y Y2:Hp)(Z g:Nat):zF C e Y2 g op=(zF C e Y Z op).map fun r=>(r.1,Y2,g):=by
 cases op<;>simp only[k6]at d<;>(try (exact absurd d (by omega)))<;>simp only[zF]
 case move x=>cases e x<;>rfl
 case assign x=>cases e x<;>rfl
 case pick c a b=>split<;>simp[jO,yJ]
 case build t i=>split<;>simp[jO,yJ]
 case nilCheck x=>split<;>rfl
 case binOp=>split<;>simp[jO,yJ]
 case unOp=>split<;>simp[jO,yJ]
 case convert=>split<;>simp[jO,yJ]
 case makeFunc=>split<;>rfl
 case fieldAddr=>split<;>simp[jO,yJ]
 case field=>split<;>simp[jO,yJ]
 case index=>split<;>simp[jO,yJ]
 case extract=>split<;>simp[jO,yJ]
 case call c=>
  unfold kY;cases wH (c.args.toList.map e)with
  |none=>rfl
  |some xs=>
   simp only;cases h:c.callee with
   |value f=>rw[h]at d;cases f<;>simp at d;split at d<;>omega
   |invoke r m=>rfl
   |builtin b=>
    rw[h]at d;cases b<;>simp at d<;>simp only[wL]
    ·split<;>simp[jO,yJ]
    ·simp[jO,yJ]
    ·simp[jO,yJ]
theorem Ph{op:Op}(c:k6 pf op=0){b:Operand->Option O}{Y d:Hp}{Z Z':Nat}{x:O}(h:zF C b Y Z op=some (x,d,Z'))(Y2:Hp)(a:Nat):zF C b Y2 a op=some (x,Y2,a):=by rw[BQ c Y Y2 Z a,h];rfl
theorem WT{b a:Operand->Option O}:∀{l:List (Nat×Operand)},(∀p∈l,b p.2=a p.2)->jW b l=jW a l
 |[],_=>rfl
 |(i,x)::l,h=>by simp only[jW];rw[h (i,x) (by simp),WT (l:=l) fun p Y=>h p (by simp[Y])]
theorem iP{o e:Operand->Option O}{op:Op}{Y:Hp}{Z:Nat}(h:∀x∈op.operands.toList,o x=e x):zF C o Y Z op=zF C e Y Z op:=by
 cases op<;>simp only[Op.operands]at h<;>simp only[zF]
 case move x=>rw[h x (by simp)]
 case assign x=>rw[h x (by simp)]
 case pick c a b=>rw[h c (by simp),h a (by simp),h b (by simp)]
 case box t x=>rw[h x (by simp)]
 case build t q=>rw[WT (l:=q.toList) fun p Y=>h p.2 (by simp only[zN];exact⟨p,Y,rfl⟩)]
 case buildSlice t n q=>rw[WT (l:=q.toList) fun p Y=>h p.2 (by simp only[zN];exact⟨p,Y,rfl⟩)]
 case load t x=>rw[h x (by simp)]
 case store t a x=>rw[h a (by simp),h x (by simp)]
 case nilCheck x=>rw[h x (by simp)]
 case binOp op t x y D=>rw[h x (by simp),h y (by simp)]
 case unOp op t x=>rw[h x (by simp)]
 case convert s d x=>rw[h x (by simp)]
 case makeFunc f a b=>rw[zcR (g:=e) fun x j=>h x (by simp at j⊢;exact .inl j),zcR (l:=b.toList) (g:=e) fun x j=>h x (by simp at j⊢;exact .inr j)]
 case makeSlice t l c=>rw[h l (by simp),h c (by simp)]
 case slice t x lo u z=>
  cases z with
  |some m=>rfl
  |none=>
   simp only;rw[h x (by simp)];have v:lo.map o=lo.map e:=by cases lo with
    |none=>rfl
    |some y=>simp only[zL];rw[h y (by simp)]
   have w:u.map o=u.map e:=by cases u with
    |none=>rfl
    |some y=>simp only[zL];rw[h y (by simp)]
   rw[v,w]
 case fieldAddr t x f=>rw[h x (by simp)]
 case field t x f=>rw[h x (by simp)]
 case indexAddr t x i=>rw[h x (by simp),h i (by simp)]
 case index t x i=>rw[h x (by simp),h i (by simp)]
 case extract x i=>rw[h x (by simp)]
 case makeMap t r=>cases r<;>rfl
 case lookup t x i E=>rw[h x (by simp),h i (by simp)]
 case mapUpdate t m k x=>rw[h m (by simp),h k (by simp),h x (by simp)]
 case insert t m k x=>rw[h m (by simp),h k (by simp),h x (by simp)]
 case call c=>
  unfold kY;have A:c.args.toList.map o=c.args.toList.map e:=zcR fun x j=>h x (by simp only[Call.operands,Array.toList_append,qh];exact .inr j)
  rw[A];cases wH (c.args.toList.map e)with
  |none=>rfl
  |some xs=>
   simp only;cases B:c.callee with
   |value f=>simp only;rw[h f (by simp[Call.operands,B])]
   |invoke r m=>rfl
   |builtin b=>rfl
def jk(C:Ctx)(a:Array Oper)(o:Oper)(U:Nat->O)(Y:Hp)(Z:Nat):Option (O×Hp×Nat):=
 if Region.wanted o (vW a U)=true then zF C (get U) Y Z o.op else some (.q8 [],Y,Z)
theorem yc(a:Array Oper)(o:Oper)(st:St):yb C a o st=(jk C a o st.U st.Y st.Z).map fun r=>⟨put st.U o.dst r.1,r.2.1,r.2.2⟩:=by
 unfold yb jk;split
 ·cases zF C (get st.U) st.Y st.Z o.op<;>rfl
 ·rfl
theorem xP{a:Array Oper}{o:Oper}{U c:Nat->O}{Y:Hp}{Z:Nat}(h:∀t,t∈o.looksAt a->U t=c t):jk C a o U Y Z=jk C a o c Y Z:=by
 have e:Region.wanted o (vW a U)=Region.wanted o (vW a c):=by
  unfold Region.wanted;split
  ·rfl
  ·rename_i j b i;have:vW a U j=vW a c j:=by
    unfold vW;split
    ·rename_i d hd;rw[h d (by simp[Oper.looksAt,i,hd])]
    ·rfl
   rw[this]
 unfold jk;rw[e];split
 ·refine iP fun x k=>?_
  cases x with
  |tmp t=>simp only[get];rw[h t];simp only[Oper.looksAt,qh,List.mem_filterMap];exact .inl ⟨.tmp t,k,rfl⟩
  |const x=>rfl
  |global g=>rfl
  |func f=>rfl
 ·rfl
theorem kI{U:Nat->O}{d:Option Tmp}{x:O}{t:Nat}(h:∀e,d=some e->e≠t):put U d x t=U t:=by
 cases d with
 |none=>rfl
 |some e=>exact qu _ _ _ _ fun a=>h e rfl a.symm
theorem cr{U:Nat->O}{d e:Option Tmp}{x y:O}(h:∀k,d=some k->e≠some k):put (put U d x) e y=put (put U e y) d x:=by
 cases d with
 |none=>rfl
 |some k=>
  cases e with
  |none=>rfl
  |some m=>
   have a:m≠k:=fun b=>h k rfl (by rw[b])
   funext i;simp only[put,ql];by_cases c:i=m<;>by_cases f:i=k<;>simp_all
def EU(pf:FuncId->Bool)(c:Array Oper)(a b:Oper):Bool:=
 a.apart c b&&(k6 pf a.op==0||k6 pf b.op==0||(decide (k6 pf a.op<=1)&&decide (k6 pf b.op<=1)))
theorem Ks{b:Array Oper}{o:Oper}{U:Nat->O}{Y d:Hp}{Z Z':Nat}{x:O}(f:k6 pf o.op=0)(h:jk C b o U Y Z=some (x,d,Z'))(Y2:Hp)(a:Nat):jk C b o U Y2 a=some (x,Y2,a):=by
 unfold jk at h⊢;split at h
 ·rename_i c;rw[ze c];exact Ph f h Y2 a
 ·rename_i c;rw[zj c];injection h with h
  injection h with e _;subst e;rfl
theorem Z6(b:∀g a,pf g=true->C.Γ g=some a->Zk a){c:Array Oper}{o:Oper}{U:Nat->O}{Y d:Hp}{Z Z':Nat}{x:O}(e:k6 pf o.op<=1)(h:jk C c o U Y Z=some (x,d,Z')):d=Y/\Z'=Z:=by
 unfold jk at h;split at h
 ·exact ET b e h
 ·injection h with h;injection h with _ h;injection h with f i;exact⟨f.symm,i.symm⟩
theorem nq{c:Array Oper}{a b:Oper}(j:k6 pf a.op=0)(p:∀d,a.dst=some d->d ∉ b.looksAt c)(q:∀d,a.dst=some d->b.dst≠some d)(s:∀d,b.dst=some d->d ∉ a.looksAt c)(st:St) :
  (yb C c a st).bind (yb C c b)=(yb C c b st).bind (yb C c a):=by
 have u:∀x Y Z,jk C c b (put st.U a.dst x) Y Z=jk C c b st.U Y Z:=fun x Y Z=>xP fun t k=>kI fun e l g=>p e l (g ▸ k)
 have o:∀x Y Z,jk C c a (put st.U b.dst x) Y Z=jk C c a st.U Y Z:=fun x Y Z=>xP fun t k=>kI fun e l g=>s e l (g ▸ k)
 have i:∀x y,put (put st.U a.dst x) b.dst y=put (put st.U b.dst y) a.dst x:=fun x y=>cr q
 rw[yc c a st,yc c b st];cases f:jk C c a st.U st.Y st.Z with
 |none=>
  cases m:jk C c b st.U st.Y st.Z with
  |none=>rfl
  |some r=>
   obtain⟨y,Y2,n⟩:=r;simp only[Qn,Option.bind_none,zL,zV];rw[yc];simp only[o];cases v:jk C c a st.U Y2 n with
   |none=>rfl
   |some w=>obtain⟨x,z,D⟩:=w;rw[Ks j v st.Y st.Z]at f;cases f
 |some r=>
  obtain⟨x,Y1,n1⟩:=r;have h:=Ks j f st.Y st.Z;rw[f]at h;injection h with h;injection h with _ h;injection h with A B;subst A;subst B;simp only[zL,zV];rw[yc];simp only[u];cases m:jk C c b st.U st.Y st.Z with
  |none=>rfl
  |some r=>obtain⟨y,Y2,n⟩:=r;simp only[zL,zV];rw[yc];simp only[o,Ks j f Y2 n,zL,i]
theorem BR(i:∀g f,pf g=true->C.Γ g=some f->Zk f){c:Array Oper}{a b:Oper}(h:EU pf c a b=true)(st:St) :
  (yb C c a st).bind (yb C c b)=(yb C c b st).bind (yb C c a):=by
 simp only[EU,zx]at h;obtain⟨o,m⟩:=h;obtain⟨p,q,s⟩:=Oper.apart_spec o;simp only[qR,jh,zx,qG]at m;rcases m with(h|h)|⟨A,w⟩
 ·exact nq h p q s st
 ·exact(nq h s (fun d hd B=>q d B hd) p st).symm
 ·have D:∀x Y Z,jk C c b (put st.U a.dst x) Y Z=jk C c b st.U Y Z:=fun x Y Z=>xP fun t u=>kI fun e v j=>p e v (j ▸ u)
  have z:∀x Y Z,jk C c a (put st.U b.dst x) Y Z=jk C c a st.U Y Z:=fun x Y Z=>xP fun t u=>kI fun e v j=>s e v (j ▸ u)
  have n:∀x y,put (put st.U a.dst x) b.dst y=put (put st.U b.dst y) a.dst x:=fun x y=>cr q
  rw[yc c a st,yc c b st];cases k:jk C c a st.U st.Y st.Z with
  |none=>
   cases l:jk C c b st.U st.Y st.Z with
   |none=>rfl
   |some r=>obtain⟨y,Y2,E⟩:=r;obtain⟨rfl,rfl⟩:=Z6 i w l;simp only[Qn,Option.bind_none,zL,zV];rw[yc];simp only[z,k,Qn]
  |some r=>
   obtain⟨x,Y1,n1⟩:=r;obtain⟨rfl,rfl⟩:=Z6 i A k;simp only[zL,zV];rw[yc];simp only[D];cases l:jk C c b st.U st.Y st.Z with
   |none=>rfl
   |some r=>obtain⟨y,Y2,E⟩:=r;obtain⟨rfl,rfl⟩:=Z6 i w l;simp only[zL,zV];rw[yc];simp only[z,k,zL,n]
def jm(C:Ctx)(a:Array Oper):List Nat->St->Option St
 |[],st=>some st
 |i::l,st=>match a[i]? with
  |none=>jm C a l st
  |some o=>(yb C a o st).bind (jm C a l)
def ct(acc:List Nat)(o:Oper):Nat:=o.after.toList.foldl (fun s e=>if Region.binds .any e then s||| 2 ^ e.on||| acc.getD e.on 0 else s) 0
def iQ(c:Oper->Oper->Bool)(b:Array Oper):List Oper->Nat->List Nat->Bool
 |[],_,_=>true
 |o::l,i,a=>
  o.after.toList.all (fun e=>!Region.binds .any e||decide (e.on<i)) &&
  (List.range i).all (fun j=>(ct a o).testBit j||(match b[j]? with|some p=>c p o|none=>false)) &&
  iQ c b l (i+1) (a++[ct a o])
def Kt(a:Array Oper)(L:Nat->Prop):Prop:=∀k o,L k->a[k]?=some o->∀e∈o.after.toList,Region.binds .any e=true->L e.on
def gz(L:Nat->Prop)(o:Oper):Prop:=∀e∈o.after.toList,Region.binds .any e=true->L e.on
theorem gA(acc:List Nat)(j:Nat):∀(l:List Edge) (s:Nat),(l.foldl (fun s e=>if Region.binds .any e then s||| 2 ^ e.on||| acc.getD e.on 0 else s) s).testBit j=true ->
  s.testBit j=true\/∃e∈l,Region.binds .any e=true/\(j=e.on\/(acc.getD e.on 0).testBit j=true)
 |[],s,h=>.inl h
 |e::l,s,h=>by
  simp only[List.foldl_cons]at h;rcases gA acc j l _ h with h1|⟨c,h1,d,f⟩
  ·split at h1
   ·rename_i a;simp only[Nat.testBit_or,qR]at h1;rcases h1 with(h1|h1)|h1
    ·exact .inl h1
    ·refine .inr ⟨e,by simp,a,.inl ?_⟩;by_cases b:j=e.on
     ·exact b
     ·rw[Nat.testBit_two_pow_of_ne (fun h=>b h.symm)]at h1;cases h1
    ·exact .inr ⟨e,by simp,a,.inr h1⟩
   ·exact .inl h1
  ·exact .inr ⟨c,by simp[h1],d,f⟩
def Xh(a:Array Oper)(b:List Nat):Prop:=∀(k m:Nat),b[k]?=some m->∀o,a[k]?=some o->∀L,Kt a L->gz L o->∀j,m.testBit j=true->L j
theorem JC{a:Array Oper}{b:List Nat}(n:Xh a b){o:Oper}(L:Nat->Prop)(k:Kt a L)(Y:gz L o)(p:∀e∈o.after.toList,Region.binds .any e=true->e.on<a.size)(j:Nat)(h:(ct b o).testBit j=true):L j:=by
 rcases gA b j _ 0 h with g|⟨e,g,l,c⟩
 ·simp at g
 ·have d:=Y e g l;rcases c with rfl|c
  ·exact d
  ·cases i:b[e.on]? with
   |none=>rw[WE,i]at c;simp at c
   |some m=>rw[WE,i]at c;have f:=p e g l;exact n e.on m i a[e.on] (by simp[f]) L k (k e.on _ d (by simp[f])) j c
theorem aa{y:Oper->Oper->Bool}{a:Array Oper}:∀{l:List Oper} {i:Nat} {b:List Nat},iQ y a l i b=true->b.length=i->(∀k,l[k]?=a[i+k]?)->Xh a b ->
  ∀k o,l[k]?=some o->(∀e∈o.after.toList,Region.binds .any e=true->e.on<i+k)/\∀j,j<i+k->(∀L,Kt a L->gz L o->L j)\/∃p,a[j]?=some p/\y p o=true
 |[],i,b,_,_,_,_,k,o,r=>by simp at r
 |o'::l,i,b,h,z,s,A,k,o,r=>by
  simp only[iQ,zx,zQ,qR,kU,qG,jl]at h;obtain⟨⟨C,D⟩,E⟩:=h;have t:a[i]?=some o':=by have:=s 0;simpa using this.symm
  have G:i<a.size:=(qb.1 t).1;have B:∀e∈o'.after.toList,Region.binds .any e=true->e.on<i:=fun e v d=>by
   rcases C e v with h|h
   ·rw[d]at h;cases h
   ·exact h
  have u:∀L,Kt a L->gz L o'->∀j,(ct b o').testBit j=true->L j:=fun L g Y j n=>JC A L g Y (fun e v d=>by have:=B e v d;omega) j n
  cases k with
  |zero=>
   simp at r;subst r;refine⟨by simpa using B,fun j n=>?_⟩;rcases D j (by simpa using n)with h|h
   ·exact .inl fun L g Y=>u L g Y j h
   ·split at h
    ·rename_i p Y;exact .inr ⟨p,Y,h⟩
    ·cases h
  |succ k=>
   have w:Xh a (b++[ct b o']):=by
    intro q m f F c L g Y j n;by_cases x:q<b.length
    ·rw[wU x]at f;exact A q m f F c L g Y j n
    ·rw[qZ (by omega)]at f;have:q=i:=by have:=(zh.1 f).1;simp at this;omega
     subst this;rw[z]at f;simp at f;subst f;rw[t]at c;injection c with c
     subst c;exact u L g Y j n
   have:=aa E (by simp[z]) (fun q=>by have:=s (q+1);simpa[zdc,NV 1 q]using this) w k o (by simpa using r);rwa [show i+1+k=i+(k+1)from by omega]at this
def cu(b:Oper->Oper->Bool)(a:Array Oper):Bool:=iQ b a a.toList 0 []
theorem ab{b:Oper->Oper->Bool}{a:Array Oper}(h:cu b a=true):∀i o,a[i]?=some o->(∀e∈o.after.toList,Region.binds .any e=true->e.on<i)/\∀j,j<i->(∀L,Kt a L->gz L o->L j)\/∃p,a[j]?=some p/\b p o=true:=by intro i o c;have:=aa h rfl (by simp) (fun k m d=>by simp at d) i o (by simpa using c);simpa using this
structure mU (C:Ctx) (ops:Array Oper) (cm:Oper->Oper->Bool) (A:St->Prop):Prop where
 keep:∀(i:Nat) (o:Oper) (st st':St),ops[i]?=some o->A st->yb C ops o st=some st'->A st'
 comm:∀(i j:Nat) (a b:Oper) (st st':St),ops[i]?=some a->ops[j]?=some b->cm a b=true->A st->(yb C ops a st).bind (yb C ops b)=some st'->(yb C ops b st).bind (yb C ops a)=some st'
theorem J5{a:Array Oper}{q:Oper->Oper->Bool}{A:St->Prop}(g:mU C a q A){i:Nat}{o:Oper}(e:a[i]?=some o)(b:List Nat):∀(pre:List Nat) (st r:St),A st->(∀j∈pre,∃p,a[j]?=some p/\q p o=true) ->
  jm C a (pre++i::b) st=some r->jm C a (i::(pre++b)) st=some r
 |[],st,r,_,_,h=>h
 |j::pre,st,r,s,h,c=>by
  obtain⟨p,Y,l⟩:=h j (by simp);simp only[q7,jm,Y]at c;cases hs:yb C a p st with
  |none=>rw[hs]at c;cases c
  |some st1=>
   rw[hs,zV]at c;have d:=J5 g e b pre st1 r (g.keep j p st st1 Y s hs) (fun k u=>h k (by simp[u])) c;simp only[jm,e]at d;cases m:yb C a o st1 with
   |none=>rw[m]at d;cases d
   |some n=>
    rw[m,zV]at d;have f:=g.comm j i p o st n Y e l s (by rw[hs,zV];exact m);simp only[jm,e,q7,Y];cases t:yb C a o st with
    |none=>rw[t]at f;cases f
    |some v=>rw[t,zV]at f;rw[zV,f,zV];exact d
def Zb(a:AM.Spec):Prop:=∀args Y Z r b Z',a args Y Z=some (r,b,Z')->Z<=Z'/\∀id blk,id<Z->Y id=some blk->blk.arr=false->b id=some blk
def nr(L:List Tmp):Op->Bool
 | .load _ (.tmp a)=>L.contains a
 | .indexAddr _ (.tmp a) _=>L.contains a
 |_=>false
def ixB(L:List Tmp):Op->Bool
 | .indexAddr _ (.tmp a) _=>L.contains a
 |_=>false
def cv(a:FuncId->Bool):Op->Bool
 | .call ⟨.value (.func g),_,_⟩=>a g
 | .call ⟨.builtin .append,_,_⟩=>true
 | .buildSlice _ _ _=>true
 | .alloc _=>true
 |_=>false
def Pj:Op->Bool
 | .store _ _ _=>true
 |_=>false
def cw(D:List (Tmp×Tmp)):Op->Op->Bool
 | .load _ (.tmp a),.store _ (.tmp b) _=>D.contains (a,b)
 |_,_=>false
def Ln(D:List (Tmp×Tmp))(L:List Tmp)(a:FuncId->Bool)(p o:Op):Bool:=cw D p o||(nr L p&&cv a o)||(ixB L p&&Pj o)
def Od(D:List (Tmp×Tmp))(L:List Tmp)(b:FuncId->Bool)(a:Array Oper)(p o:Oper):Bool:=
 p.apart a o&&o.apart a p&&p.guard.isNone&&o.guard.isNone&&(Ln D L b p.op o.op||Ln D L b o.op p.op)
def BS(L:List Tmp):Bool:=L.any fun s=>decide (zB<=s)
def JD(L:List Tmp):Op->Bool
 | .buildSlice _ _ a=>a.toList.all fun p=>match p.2 with
  | .tmp z=>L.contains (z+zB)
  |_=>false
 |_=>false
def K8:Op->Bool
 | .load _ (.tmp _)=>true
 | .indexAddr _ (.tmp _) _=>true
 |_=>false
def Xi(pf:FuncId->Bool):Op->Bool
 | .call ⟨.value (.func g),_,_⟩=>pf g
 |_=>false
def EV:Op->Bool
 | .alloc _=>true
 |_=>false
def Lo(pf:FuncId->Bool)(L:List Tmp)(a:Array Oper)(p o:Oper):Bool:=BS L&&p.apart a o&&p.guard.isNone&&o.guard.isNone&&(K8 p.op||Xi pf p.op)&&(JD L o.op||EV o.op)
def Ao(pf:FuncId->Bool)(D:List (Tmp×Tmp))(L:List Tmp)(b:FuncId->Bool)(a:Array Oper)(p o:Oper):Bool:=EU pf a p o||Od D L b a p o||Lo pf L a p o
def Pk(pf:FuncId->Bool)(o:Op):Bool:=decide (k6 pf o<=1)||match o with
 | .store _ _ _=>true
 | .call ⟨.builtin .append,_,_⟩=>true
 | .buildSlice _ _ _=>true
 | .alloc _=>true
 |_=>false
def sG(pf:FuncId->Bool)(L:List Tmp)(ops:Array Oper):Bool:=!BS L||ops.all fun o=>Pk pf o.op&&L.all fun s=>decide (s<zB)||o.dst != some (s-zB)||(o.guard.isNone&&match o.op with
 | .move (.tmp b)=>L.contains (b+zB)
 | .build _ a=>a.toList.all fun p=>match p.2 with
  | .tmp z=>L.contains (z+zB)
  |_=>false
 |_=>false)
def iR(pf:FuncId->Bool)(D:List (Tmp×Tmp))(L:List Tmp)(a:FuncId->Bool)(ops:Array Oper):Bool:=(D.isEmpty&&L.isEmpty)||ops.all fun o=>D.all (fun p=>o.dst != some p.2&&(o.dst != some p.1||match o.op with
    | .fieldAddr _ (.tmp s) _=>D.contains (s,p.2)
    | .indexAddr _ (.tmp s) _=>D.contains (s,p.2)&&L.contains s
    |_=>false)) &&
 L.all (fun s=>o.dst != some s||match o.op with
  | .fieldAddr _ (.tmp b) _=>L.contains b
  | .indexAddr _ (.tmp b) _=>L.contains b
  |_=>false) &&
 (decide (k6 pf o.op<=1)||match o.op with
  | .store _ _ _=>true
  | .call ⟨.value (.func g),_,_⟩=>D.all (fun p=>L.contains p.2)&&a g
  | .call ⟨.builtin .append,_,_⟩=>D.all (fun p=>L.contains p.2)
  | .buildSlice _ _ _=>D.all (fun p=>L.contains p.2)
  | .alloc _=>D.all (fun p=>L.contains p.2)
  |_=>false)
def iS(pf:FuncId->Bool)(D:List (Tmp×Tmp))(L:List Tmp)(b:FuncId->Bool)(a:Array Oper):Bool:=sG pf L a&&iR pf D L b a
end
section
variable{C:Ctx}{pf:FuncId->Bool}
theorem YS{Y Y1:Hp}{x y:O}(h:wg Y x=some (y,Y1)){id:Nat}{b:jV}(c:Y id=some b)(e:b.arr=false):Y1 id=some b:=by
 unfold wg at h;split at h
 ·split at h
  ·rename_i f a;split at h
   ·rename_i d;injection h with h
    injection h with _ h;subst h;rw[qu]
    ·exact c
    ·rintro rfl;rw[c]at a;injection a with a;subst a;rw[e]at d;cases d.1
   ·cases h
  ·cases h
 all_goals first
  |(injection h with h;injection h with _ h;subst h;exact c)
  |(split at h<;>first|(injection h with h;injection h with _ h;subst h;exact c)|cases h)
  |cases h
theorem YA:∀{xs ys:zb} {Y Y1:Hp},qJ Y xs=some (ys,Y1)->∀{id:Nat} {b:jV},Y id=some b->b.arr=false->Y1 id=some b
 |[],ys,Y,Y1,h,id,b,a,c=>by simp only[qJ]at h;injection h with h;injection h with _ h;subst h;exact a
 |x::l,ys,Y,Y1,h,id,b,a,c=>by
  simp only[qJ]at h;split at h
  ·rename_i y Y2 d;split at h
   ·rename_i r e f;injection h with h;injection h with _ h;subst h
    exact YA f (YS d a c) c
   ·cases h
  ·cases h
theorem QW{Y Y1:Hp}{x y:O}(h:qe Y x=some (y,Y1)){id:Nat}{b:jV}(a:Y id=some b)(c:b.arr=false):Y1 id=some b:=by
 unfold qe at h;split at h
 ·split at h
  ·rename_i l e d;injection h with h;injection h with _ h;subst h
   exact YA d a c
  ·cases h
 ·exact YS h a c
theorem BT{P:Program}{Y e:Hp}{t:TypeId}{p x:O}(h:xM P Y t p x=some e){id:Nat}{b:jV}(f:Y id=some b)(d:b.arr=false):∃g,e id=some g/\g.arr=false:=by
 unfold xM at h;split at h
 ·rename_i id' i j;split at h
  ·rename_i o m;split at h
   ·rename_i y Y1 c;have k:Y1 id=some b:=by
     split at c
     ·exact QW c f d
     ·injection c with c;injection c with _ c;subst c;exact f
    split at h
    ·rename_i q n a _;split at h
     ·split at h
      ·injection h with h;subst h;by_cases l:id=id'
       ·subst l;rw[k]at a;injection a with a
        subst a;exact⟨_,wQ _ _ _,d⟩
       ·exact⟨b,by rw[qu _ _ _ _ l];exact k,d⟩
      ·cases h
     ·cases h
    ·cases h
   ·cases h
  ·cases h
 ·cases h
theorem sH{P:Program}{Y a:Hp}{t:TypeId}{id i j:Nat}{x:O}{b:jV}(h:xM P Y t (.ref id i j) x=some a)(c:Y id=some b)(d:b.arr=false){k:Nat}(e:k≠id):a k=Y k:=by
 simp only[xM,c,d]at h;simp only[zE,wE]at h;split at h
 ·split at h
  ·split at h
   ·injection h with h;subst h;exact qu _ _ _ _ e
   ·cases h
  ·cases h
 ·cases h
theorem K9{a:Array Oper}{l c:Oper}(n:l.apart a c=true){st:St}(o:∀Y Z y d Z',jk C a l st.U Y Z=some (y,d,Z')->d=Y/\Z'=Z)
  (f:∀z d Z',jk C a c st.U st.Y st.Z=some (z,d,Z')->(jk C a l st.U d Z').map (·.1)=(jk C a l st.U st.Y st.Z).map (·.1)) :
  (yb C a l st).bind (yb C a c)=(yb C a c st).bind (yb C a l):=by
 obtain⟨A,B,D⟩:=Oper.apart_spec n;have cs:∀y Y Z,jk C a c (put st.U l.dst y) Y Z=jk C a c st.U Y Z:=fun y Y Z=>xP fun u p=>kI fun e s g=>A e s (g ▸ p)
 have w:∀y Y Z,jk C a l (put st.U c.dst y) Y Z=jk C a l st.U Y Z:=fun y Y Z=>xP fun u p=>kI fun e s g=>D e s (g ▸ p)
 have h:∀y z,put (put st.U l.dst y) c.dst z=put (put st.U c.dst z) l.dst y:=fun y z=>cr B
 rw[yc a l st,yc a c st];cases t:jk C a c st.U st.Y st.Z with
 |none=>
  cases i:jk C a l st.U st.Y st.Z with
  |none=>rfl
  |some q=>obtain⟨y,Y1,v⟩:=q;obtain⟨rfl,rfl⟩:=o _ _ _ _ _ i;simp only[zL,Qn,zV,Option.bind_none];rw[yc];simp only[cs,t,Qn]
 |some q=>
  obtain⟨z,d,Z'⟩:=q;have b:=f z d Z' t;cases i:jk C a l st.U st.Y st.Z with
  |none=>
   rw[i]at b;have E:jk C a l st.U d Z'=none:=by
    cases k:jk C a l st.U d Z' with
    |none=>rfl
    |some r=>rw[k]at b;cases b
   simp only[zL,Qn,zV,Option.bind_none];rw[yc];simp only[w,E,Qn]
  |some q=>
   obtain⟨y,Y1,v⟩:=q;obtain⟨rfl,rfl⟩:=o _ _ _ _ _ i;rw[i]at b;obtain⟨m,j,x⟩:∃m,jk C a l st.U d Z'=some m/\m.1=y:=by
    cases k:jk C a l st.U d Z' with
    |none=>rw[k]at b;cases b
    |some r=>rw[k]at b;injection b with b;exact⟨r,rfl,b⟩
   obtain⟨G,Y2,F⟩:=m;simp only at x;subst x;obtain⟨rfl,rfl⟩:=o _ _ _ _ _ j;simp only[zL,zV];rw[yc,yc];simp only[cs,t,w,j,zL,h]
theorem jc{a:Array Oper}{o:Oper}(g:o.guard=none)(U:Nat->O)(Y:Hp)(Z:Nat):jk C a o U Y Z=zF C (get U) Y Z o.op:=by
 have w:Region.wanted o (vW a U)=true:=by unfold Region.wanted;rw[g]
 simp only[jk,w,qI]
theorem QX{P:Program}{Y b:Hp}{t:TypeId}{p:O}(a:∀id o n,p≠.own id o n)(q:O):qi P b t p q=qi P Y t p q:=by
 cases q with
 |v y=>
  cases y with
  |int w i=>
   cases p with
   |own id o n=>exact absurd rfl (a id o n)
   |_=>
    simp only[qi];cases wC P t with
    |none=>rfl
    |some e=>simp only;cases qj P e<;>rfl
  |_=>simp only[qi]
 |_=>simp only[qi]
theorem BU{L:List Tmp}{op:Op}(b:nr L op=true){st:St}(g:xp L st){e:Hp}{Z Z':Nat}(k:∀id blk,id<st.Z->st.Y id=some blk->blk.arr=false->e id=some blk) :
  (zF C (get st.U) e Z' op).map (·.1)=(zF C (get st.U) st.Y Z op).map (·.1):=by
 unfold nr at b;split at b
 ·rename_i t a;obtain⟨⟨c,d⟩,_⟩:=g a (by simpa using b);have:kO C.P e t (st.U a)=kO C.P st.Y t (st.U a):=by
   cases f:st.U a with
   |ref id i j=>obtain⟨l,blk,h,m⟩:=d id i j f;simp only[kO,k id blk l h m,h]
   |_=>rfl
  simp only[zF,get,this];cases kO C.P st.Y t (st.U a)<;>rfl
 ·rename_i t a i;obtain⟨⟨c,d⟩,_⟩:=g a (by simpa using b);have:∀q,qi C.P e t (st.U a) q=qi C.P st.Y t (st.U a) q:=by exact fun q=>QX c q
  simp only[zF,show get st.U (.tmp a)=some (st.U a)from rfl];cases get st.U i with
  |none=>rfl
  |some q=>simp only[this];cases qi C.P st.Y t (st.U a) q<;>rfl
 ·cases b
theorem Ku{op:Op}{U:Nat->O}{Y b:Hp}{Z Z':Nat}{y:O}(c:(∃t a,op=.load t (.tmp a))\/∃t a i,op=.indexAddr t (.tmp a) i)(h:zF C (get U) Y Z op=some (y,b,Z')):b=Y/\Z'=Z:=by
 rcases c with⟨t,a,rfl⟩|⟨t,a,i,rfl⟩
 ·simp only[zF,get]at h;exact(WS h).2
 ·simp only[zF,get]at h;split at h
  ·exact(WS h).2
  ·cases h
theorem EW{L:List Tmp}{op:Op}(h:nr L op=true):(∃t a,op=.load t (.tmp a))\/∃t a i,op=.indexAddr t (.tmp a) i:=by
 unfold nr at h;split at h
 ·exact .inl ⟨_,_,rfl⟩
 ·exact .inr ⟨_,_,_,rfl⟩
 ·cases h
theorem YB:∀{e a:List (Nat×O)} {Y Y1:Hp},zv Y e=some (a,Y1)->∀{id:Nat} {b:jV},Y id=some b->b.arr=false->Y1 id=some b
 |[],a,Y,Y1,h,id,b,c,d=>by simp only[zv]at h;injection h with h;injection h with _ h;subst h;exact c
 |(i,x)::l,a,Y,Y1,h,id,b,c,d=>by
  simp only[zv]at h;split at h
  ·rename_i y Y2 f;split at h
   ·rename_i r g j;injection h with h;injection h with _ h;subst h
    exact YB j (QW f c d) d
   ·cases h
  ·cases h
theorem nt{P:Program}{Y g:Hp}{Z Z':Nat}{t u:TypeId}{s x y:O}(h:kA P Y Z t u s x=some (y,g,Z')):Z<=Z'/\∀id blk,id<Z->Y id=some blk->blk.arr=false->g id=some blk:=by
 unfold kA at h;split at h
 ·split at h
  ·split at h
   ·split at h
    ·split at h
     ·split at h
      ·injection h with h;injection h with _ h;injection h with d f;subst d;subst f;exact⟨zi _,fun _ _ _ c _=>c⟩
      ·injection h with h;injection h with _ h;injection h with d f;subst d;subst f;exact⟨by omega,fun id blk hid c _=>by rw[qu _ _ _ _ (by omega)];exact c⟩
     ·cases h
    ·split at h
     ·rename_i b a;split at h
      ·rename_i i;injection h with h;injection h with _ h;injection h with d f
       subst d;subst f;refine⟨by omega,fun id blk hid c j=>?_⟩;rw[qu _ _ _ _ (by omega),qu _ _ _ _ (fun e=>by
        subst e;rw[c]at a;injection a with a
        subst a;rw[j]at i;cases i.1)]
       exact c
      ·cases h
     ·cases h
    ·cases h
   ·cases h
  ·cases h
 ·cases h
theorem Xj{t:TypeId}{U:Nat->O}{Y a:Hp}{Z Z':Nat}{z:O}(h:zF C (get U) Y Z (.alloc t)=some (z,a,Z')):∃b,a=ql Y Z b/\Z'=Z+1:=by
 simp only[zF]at h;split at h
 ·split at h
  ·injection h with h;injection h with _ h;injection h with c d;exact⟨_,c.symm,d.symm⟩
  ·cases h
 ·cases h
theorem cx{k:FuncId->Bool}(c:∀g a,k g=true->C.Γ g=some a->Zb a){op:Op}(b:cv k op=true){U:Nat->O}{Y l:Hp}{Z Z':Nat}{z:O}(h:zF C (get U) Y Z op=some (z,l,Z')) :
  Z<=Z'/\∀id blk,id<Z->Y id=some blk->blk.arr=false->l id=some blk:=by
 unfold cv at b;split at b
 ·rename_i g m ts;simp only[zF,kY]at h;split at h
  ·simp only[get,yR]at h;split at h
   ·rename_i a hs;exact c g a b hs _ _ _ _ _ _ h
   ·cases h
  ·cases h
 ·rename_i m ts;simp only[zF,kY]at h;split at h
  ·simp only[wL]at h;split at h
   ·exact nt h
   ·cases h
  ·cases h
 ·rename_i t len d;simp only[zF]at h;split at h
  ·rename_i q o;unfold zu at h;split at h
   ·split at h
    ·rename_i n r s Y1 _ _ e;split at h
     ·split at h
      ·injection h with h;injection h with _ h;injection h with f i;subst f;subst i;refine⟨by omega,fun id blk hid j p=>?_⟩;rw[qu _ _ _ _ (by omega)];exact YB e j p
      ·cases h
     ·cases h
    ·cases h
   ·cases h
  ·cases h
 ·rename_i t;obtain⟨u,f,i⟩:=Xj h;subst f;subst i;refine⟨by omega,fun id blk hid j _=>?_⟩;rw[qu _ _ _ _ (by omega)];exact j
 ·cases b
theorem gB{H:FuncId->Bool}(A:∀g m,H g=true->C.Γ g=some m->Zb m){D:List (Tmp×Tmp)}{L:List Tmp}{d:Array Oper}{l c:Oper}(I:Ln D L H l.op c.op=true)(e:l.guard=none)(J:c.guard=none)(n:l.apart d c=true){st:St}(N:Zw D st)(K:xp L st) :
  (yb C d l st).bind (yb C d c)=(yb C d c st).bind (yb C d l):=by
 simp only[Ln,qR,zx]at I;rcases I with(f|⟨s,B⟩)|⟨k,Q⟩
 ·unfold cw at f;split at f
  ·rename_i t a t' b x u R;refine K9 n (fun Y Z y o Z' h=>?_) (fun z o Z' h=>?_)
   ·rw[jc e,u]at h;exact Ku (.inl ⟨_,_,rfl⟩) h
   ·rw[jc J,R]at h;rw[jc e,jc e,u];simp only[zF,get]at h;have r:kO C.P o t (st.U a)=kO C.P st.Y t (st.U a):=by
     cases E:st.U a with
     |ref id i j=>
      obtain⟨id',i',j',blk,S,F,T,v⟩:=N (a,b) (by simpa using f) id i j E;rw[S]at h;split at h
      ·rename_i p q M W;simp only[wb]at M;subst M;obtain⟨h2,X,w⟩:=zH h;injection w with _ w
       injection w with w _;subst w;simp only[kO,sH X T v F]
      ·cases h
     |_=>rfl
    simp only[zF,get,r];cases kO C.P st.Y t (st.U a)<;>rfl
  ·cases f
 ·refine K9 n (fun Y Z y o Z' h=>?_) (fun z o Z' h=>?_)
  ·rw[jc e]at h;exact Ku (EW s) h
  ·rw[jc J]at h;rw[jc e,jc e];exact BU s K (cx A B h).2
 ·unfold ixB at k;split at k
  ·rename_i t a i u;refine K9 n (fun Y Z y o Z' h=>?_) (fun z o Z' h=>?_)
   ·rw[jc e,u]at h;exact Ku (.inr ⟨_,_,_,rfl⟩) h
   ·rw[jc e,jc e,u];obtain⟨⟨G,_⟩,_⟩:=K a (by simpa using k);have:∀q,qi C.P o t (st.U a) q=qi C.P st.Y t (st.U a) q:=by exact fun q=>QX G q
    simp only[zF,show get st.U (.tmp a)=some (st.U a)from rfl];cases get st.U i with
    |none=>rfl
    |some q=>simp only[this];cases qi C.P st.Y t (st.U a) q<;>rfl
  ·cases k
theorem YT{P:Program}{t:TypeId}{f:Nat}{p:O}{id i j:Nat}(h:yl P t f p=some (.ref id i j)):∃a b,p=.ref id a b:=by
 unfold yl at h;split at h
 ·split at h
  ·split at h
   ·cases h
   ·injection h with h;cases h
  ·cases h
 ·split at h
  ·split at h
   ·cases h
   ·injection h with h;injection h with c _ _;subst c;exact⟨_,_,rfl⟩
  ·cases h
 ·cases h
theorem cy{P:Program}{t:TypeId}{f:Nat}{p:O}{id o n:Nat}(h:yl P t f p=some (.own id o n)):False:=by
 unfold yl at h;split at h
 ·split at h
  ·split at h
   ·cases h
   ·injection h with h;cases h
  ·cases h
 ·split at h
  ·split at h
   ·cases h
   ·injection h with h;cases h
  ·cases h
 ·cases h
theorem YU{P:Program}{Y:Hp}{t:TypeId}{p q:O}{id i j:Nat}(h:qi P Y t p q=some (.ref id i j))(a:∀id o n,p≠.own id o n):∃b c,p=.ref id b c:=by
 unfold qi at h;split at h
 ·split at h
  ·split at h
   ·split at h
    ·obtain⟨z,_,e⟩:=zH h;cases e
    ·cases h
   ·exact absurd rfl (a _ _ _)
   ·cases h
  ·unfold vn at h;split at h
   ·split at h
    ·split at h
     ·split at h
      ·injection h with h;cases h
      ·injection h with h;injection h with d _ _;subst d;exact⟨_,_,rfl⟩
      ·cases h
     ·cases h
    ·cases h
   ·cases h
 ·cases h
theorem cz{P:Program}{Y:Hp}{t:TypeId}{p q:O}{id o n:Nat}(h:qi P Y t p q=some (.own id o n)):False:=by
 unfold qi at h;split at h
 ·split at h
  ·split at h
   ·split at h
    ·obtain⟨z,_,e⟩:=zH h;cases e
    ·cases h
   ·split at h
    ·split at h
     ·injection h with h;cases h
     ·cases h
    ·cases h
   ·cases h
  ·unfold vn at h;split at h
   ·split at h
    ·split at h
     ·split at h
      ·injection h with h;cases h
      ·injection h with h;cases h
      ·cases h
     ·cases h
    ·cases h
   ·cases h
 ·cases h
theorem cA{x:O}(h:x.ZL=true)(Y:Hp):wg Y x=some (x,Y):=by cases x<;>first|rfl|cases h
theorem cB:∀{cs:zb},cs.all O.ZL=true->∀Y:Hp,qJ Y cs=some (cs,Y)
 |[],_,_=>rfl
 |x::cs,h,Y=>by simp only[wJ,zx]at h;simp only[qJ,cA h.1,cB h.2]
theorem EX{x:O}(h:x.shut=true)(a:∀cs,x≠.agg cs):x.ZL=true:=by cases x<;>first|exact absurd rfl (a _)|exact h
theorem EY{x:O}(h:x.shut=true)(Y:Hp):qe Y x=some (x,Y):=by
 by_cases a:∀cs,x≠.agg cs
 ·have b:=cA (EX h a) Y;unfold qe;split
  ·exact absurd rfl (a _)
  ·exact b
 ·have:∃cs,x=.agg cs:=Classical.byContradiction fun c=>a fun cs e=>c ⟨cs,e⟩
  obtain⟨cs,rfl⟩:=this;simp only[qe,cB (cs:=cs) h]
theorem BV{x:O}(h:x.Qr=true)(a:∀cs,x≠.q8 cs):x.shut=true:=by cases x<;>first|exact absurd rfl (a _)|exact h
theorem BW{x y:O}(h:x.Qr=true){Y Y1:Hp}(a:qe Y x=some (y,Y1)):Y1=Y:=by
 by_cases b:∀cs,x≠.q8 cs
 ·rw[EY (BV h b)]at a;injection a with a
  injection a with _ a;exact a.symm
 ·exfalso;apply b;rintro cs rfl;cases a
theorem cC:∀{b a:List (Nat×O)} {Y Y1:Hp},(∀p∈b,p.2.Qr=true)->zv Y b=some (a,Y1)->Y1=Y
 |[],a,Y,Y1,_,h=>by injection h with h;injection h with _ h;exact h.symm
 |(i,x)::l,a,Y,Y1,hs,h=>by
  simp only[zv]at h;split at h
  ·rename_i y Y2 c;split at h
   ·rename_i r d e;injection h with h;injection h with _ h;subst h
    rw[cC (fun p Y=>hs p (by simp[Y])) e,BW (hs (i,x) (by simp)) c]
   ·cases h
  ·cases h
theorem iT{x:O}(h:x.Qr=true)(a:x.cells.all O.wz=true):x.cells.all O.ZL=true:=by
 cases x with
 |agg cs=>exact h
 |q8 cs=>simp[O.cells,O.wz]at a
 |_=>simpa[O.cells,O.Qr,O.shut]using h
theorem nu{v:Value}{p:O}(h:Xb v=some p):p.ZL=true:=by unfold Xb at h;split at h<;>first|(injection h with h;subst h;rfl)|cases h
theorem Va:∀{l:List Value} {a:zb},kh l=some a->a.all O.ZL=true
 |[],a,h=>by injection h with h;subst h;rfl
 |x::l,a,h=>by
  simp only[kh]at h;split at h
  ·rename_i p r b c;injection h with h
   subst h;rw[wJ,nu b,Va c];rfl
  ·cases h
theorem cD{P:Program}{t:TypeId}{z:zb}(h:yn P t=some z):z.all O.ZL=true:=by
 unfold yn at h;cases a:(P.info? t).bind (·.zero)with
 |none=>rw[a]at h;cases h
 |some q=>rw[a]at h;exact Va h
theorem J6:∀{xs cs:zb} {off:Nat},cs.all O.ZL=true->xs.all O.ZL=true->(yi cs off xs).all O.ZL=true
 |[],cs,off,h,_=>h
 |x::xs,cs,off,h,a=>by
  simp only[wJ,zx]at a;simp only[yi];refine J6 ?_ a.2;rw[zQ]at h⊢;intro y b;rcases kf b with b|rfl
  ·exact h y b
  ·exact a.1
theorem Kv{b:Nat->Option (Nat×Nat)}:∀{c:List (Nat×O)} {cs r:zb},cs.all O.ZL=true->(∀p∈c,p.2.Qr=true)->qF b cs c=some r->r.all O.ZL=true
 |[],cs,r,h,_,a=>by injection a with a;subst a;exact h
 |(i,x)::l,cs,r,h,Y,a=>by
  simp only[qF]at a;split at a
  ·split at a
   ·rename_i d;exact Kv (J6 h (iT (Y (i,x) (by simp)) d.2.2)) (fun p e=>Y p (by simp[e])) a
   ·cases a
  ·cases a
theorem nv{P:Program}{t:TypeId}{c:List (Nat×O)}{y:O}(Y:∀p∈c,p.2.Qr=true)(h:qg P t c=some y):y.shut=true:=by
 unfold qg at h;split at h
 ·rename_i d z _ a;obtain⟨r,b,rfl⟩:=zH h;exact Kv (cD a) Y b
 ·rename_i z _ a;split at h
  ·split at h
   ·obtain⟨r,b,rfl⟩:=zH h;exact Kv (cD a) Y b
   ·cases h
  ·cases h
 ·cases h
theorem cE{b:Operand->Option O}:∀{l:List (Nat×Operand)} {a:List (Nat×O)},jW b l=some a->∀p∈a,∃q∈l,b q.2=some p.2
 |[],a,h,p,Y=>by injection h with h;subst h;cases Y
 |(i,x)::l,a,h,p,Y=>by
  simp only[jW]at h;split at h
  ·rename_i y r c d;injection h with h
   subst h;rcases zC.1 Y with rfl|Y
   ·exact⟨(i,x),by simp,c⟩
   ·obtain⟨q,f,e⟩:=cE d p Y;exact⟨q,by simp[f],e⟩
  ·cases h
theorem Ap{L:List Tmp}{st:St}(h:xp L st){z:Tmp}(a:L.contains (z+zB)=true):(st.U z).Qr=true:=by have:=(h (z+zB) (by simpa using a)).2 (Nat.le_add_left _ _);simpa using this
theorem cF{L:List Tmp}{st:St}(h:xp L st){a:List (Nat×Operand)}(Y:(a.all fun p=>match p.2 with|.tmp z=>L.contains (z+zB)|_=>false)=true){c:List (Nat×O)}(hs:jW (get st.U) a=some c):∀p∈c,p.2.Qr=true:=by
 intro p b;obtain⟨q,d,e⟩:=cE hs p b;have:=zQ.1 Y q d;split at this
 ·rename_i z f;rw[f]at e;simp only[get,wb]at e;rw[<-e];exact Ap h this
 ·cases this
theorem Pm{x:O}(h:x.shut=true):x.Qr=true:=by cases x<;>first|rfl|exact h
def Kw(Y:Hp)(Z:Nat):Prop:=∀id b,Y id=some b->id<Z
theorem YV{Y Y1:Hp}{x y:O}(h:wg Y x=some (y,Y1)){id:Nat}{b:jV}(a:Y1 id=some b):Y id=some b:=by
 unfold wg at h;split at h
 ·rename_i k off n;split at h
  ·rename_i d c;split at h
   ·injection h with h;injection h with _ h;subst h;by_cases e:id=k
    ·subst e;rw[wQ]at a;cases a
    ·rwa [qu _ _ _ _ e]at a
   ·cases h
  ·cases h
 all_goals first
  |(injection h with h;injection h with _ h;subst h;exact a)
  |(split at h<;>first|(injection h with h;injection h with _ h;subst h;exact a)|cases h)
  |cases h
theorem YC:∀{xs ys:zb} {Y Y1:Hp},qJ Y xs=some (ys,Y1)->∀{id:Nat} {b:jV},Y1 id=some b->Y id=some b
 |[],ys,Y,Y1,h,id,b,a=>by simp only[qJ]at h;injection h with h;injection h with _ h;subst h;exact a
 |x::l,ys,Y,Y1,h,id,b,a=>by
  simp only[qJ]at h;split at h
  ·rename_i y Y2 c;split at h
   ·rename_i r d e;injection h with h;injection h with _ h;subst h
    exact YV c (YC e a)
   ·cases h
  ·cases h
theorem J7{Y Y1:Hp}{x y:O}(h:qe Y x=some (y,Y1)){id:Nat}{b:jV}(a:Y1 id=some b):Y id=some b:=by
 unfold qe at h;split at h
 ·split at h
  ·rename_i l d c;injection h with h;injection h with _ h;subst h
   exact YC c a
  ·cases h
 ·exact YV h a
theorem YD:∀{d a:List (Nat×O)} {Y Y1:Hp},zv Y d=some (a,Y1)->∀{id:Nat} {b:jV},Y1 id=some b->Y id=some b
 |[],a,Y,Y1,h,id,b,c=>by simp only[zv]at h;injection h with h;injection h with _ h;subst h;exact c
 |(i,x)::l,a,Y,Y1,h,id,b,c=>by
  simp only[zv]at h;split at h
  ·rename_i y Y2 e;split at h
   ·rename_i r f g;injection h with h;injection h with _ h;subst h
    exact J7 e (YD g c)
   ·cases h
  ·cases h
theorem iU{Y:Hp}{Z:Nat}(h:∀id b,Y id=some b->id<Z)(x:jV):Kw (ql Y Z (some x)) (Z+1):=by
 intro id b a;by_cases e:id=Z
 ·omega
 ·rw[qu _ _ _ _ e]at a;have:=h id b a;omega
theorem BX{P:Program}{Y f:Hp}{t:TypeId}{p x:O}(h:xM P Y t p x=some f){Z:Nat}(g:Kw Y Z):Kw f Z:=by
 unfold xM at h;split at h
 ·rename_i k i j;split at h
  ·rename_i l d;split at h
   ·rename_i y Y1 a;have m:∀id b,Y1 id=some b->Y id=some b:=fun id b c=>by
     split at a
     ·exact J7 a c
     ·injection a with a;injection a with _ a;subst a;exact c
    split at h
    ·split at h
     ·split at h
      ·injection h with h;subst h;intro id b c;by_cases e:id=k
       ·subst e;exact g id l d
       ·rw[qu _ _ _ _ e]at c;exact g id b (m id b c)
      ·cases h
     ·cases h
    ·cases h
   ·cases h
  ·cases h
 ·cases h
theorem sI{P:Program}{Y f:Hp}{Z Z':Nat}{t u:TypeId}{s x y:O}(h:kA P Y Z t u s x=some (y,f,Z'))(e:Kw Y Z):Kw f Z':=by
 unfold kA at h;split at h
 ·split at h
  ·split at h
   ·split at h
    ·split at h
     ·split at h
      ·injection h with h;injection h with _ h;injection h with a c;subst a;subst c;exact e
      ·injection h with h;injection h with _ h;injection h with a c;subst a;subst c;exact iU e _
     ·cases h
    ·split at h
     ·rename_i k _ _ b g;split at h
      ·injection h with h;injection h with _ h;injection h with a c;subst a;subst c;refine iU (fun id i d=>?_) _;unfold ql at d;split at d
       ·cases d
       ·exact e id i d
      ·cases h
     ·cases h
    ·cases h
   ·cases h
  ·cases h
 ·cases h
theorem BZ{P:Program}{Y c:Hp}{Z Z':Nat}{t:TypeId}{len:Nat}{d:List (Nat×O)}{y:O}(h:zu P Y Z t len d=some (y,c,Z'))(e:Kw Y Z):Kw c Z':=by
 unfold zu at h;split at h
 ·split at h
  ·rename_i n j k Y1 _ _ a;split at h
   ·split at h
    ·injection h with h;injection h with _ h;injection h with f g;subst f;subst g;exact iU (fun id b i=>e id b (YD a i)) _
    ·cases h
   ·cases h
  ·cases h
 ·cases h
theorem B0(f:∀g a,pf g=true->C.Γ g=some a->Zk a){op:Op}(c:Pk pf op=true){U:Nat->O}{Y k:Hp}{Z Z':Nat}{y:O}(h:zF C (get U) Y Z op=some (y,k,Z'))(e:Kw Y Z):Kw k Z':=by
 simp only[Pk,qR,qG]at c;rcases c with c|c
 ·obtain⟨rfl,rfl⟩:=ET f c h;exact e
 ·split at c
  ·simp only[zF]at h;split at h
   ·obtain⟨m,i,d⟩:=zH h;injection d with _ d;injection d with d l;subst d;subst l;exact BX i e
   ·cases h
  ·simp only[zF,kY]at h;split at h
   ·simp only[wL]at h;split at h
    ·exact sI h e
    ·cases h
   ·cases h
  ·simp only[zF]at h;split at h
   ·exact BZ h e
   ·cases h
  ·obtain⟨n,i,d⟩:=Xj h;subst i;subst d;intro id b j;unfold ql at j;split at j
   ·omega
   ·have:=e id b j;omega
  ·cases c
theorem B4{P:Program}{Y c:Hp}{t:TypeId}{p y:O}(hs:∀id b,Y id=some b->c id=some b)(h:kO P Y t p=some y):kO P c t p=some y:=by
 cases p with
 |ref id i j=>
  simp only[kO]at h⊢;cases a:Y id with
  |none=>rw[a]at h;cases h
  |some b=>rw[a]at h;rw[hs id b a];exact h
 |_=>exact h
theorem cG{P:Program}{Y d:Hp}{t:TypeId}{p q y:O}(hs:∀id b,Y id=some b->d id=some b)(h:qi P Y t p q=some y):qi P d t p q=some y:=by
 by_cases a:∀id o n,p≠.own id o n
 ·rw[QX (Y:=Y) a];exact h
 ·have:∃id o n,p=.own id o n:=by refine Classical.byContradiction fun j=>a fun id o n e=>j ⟨id,o,n,e⟩
  obtain⟨id,o,n,rfl⟩:=this;cases q with
  |v z=>
   cases z with
   |int k i=>
    simp only[qi]at h⊢;cases f:wC P t with
    |none=>rw[f]at h;exact h
    |some e=>
     rw[f]at h;simp only at h⊢;cases g:qj P e with
     |none=>rw[g]at h;cases h
     |some m=>
      rw[g]at h;simp only at h⊢;cases c:Y id with
      |none=>rw[c]at h;cases h
      |some b=>rw[c]at h;rw[hs id b c];exact h
   |_=>cases h
  |_=>cases h
theorem B5{op:Op}(d:K8 op=true){U:Nat->O}{Y e:Hp}{Z Z':Nat}{y:O}{j:Hp}{n1:Nat}(hs:∀id b,Y id=some b->e id=some b)(h:zF C (get U) Y Z op=some (y,j,n1)):zF C (get U) e Z' op=some (y,e,Z'):=by
 unfold K8 at d;split at d
 ·rename_i t a;simp only[zF,get]at h⊢;obtain⟨z,f,c⟩:=zH h;injection c with c _
  subst c;rw[B4 hs f];rfl
 ·rename_i t a i;simp only[zF,show get U (.tmp a)=some (U a)from rfl]at h⊢;cases g:get U i with
  |none=>rw[g]at h;cases h
  |some q=>
   rw[g]at h;obtain⟨z,f,c⟩:=zH h;injection c with c _
   subst c;simp only[cG hs f];rfl
 ·cases d
theorem sJ{op:Op}(h:K8 op=true):(∃t a,op=.load t (.tmp a))\/∃t a i,op=.indexAddr t (.tmp a) i:=by
 unfold K8 at h;split at h
 ·exact .inl ⟨_,_,rfl⟩
 ·exact .inr ⟨_,_,_,rfl⟩
 ·cases h
theorem B6{L:List Tmp}{t:TypeId}{len:Nat}{a:Array (Nat×Operand)}{st:St}(i:xp L st)(c:JD L (.buildSlice t len a)=true){g:Hp}{Z':Nat}{z:O}(h:zF C (get st.U) st.Y st.Z (.buildSlice t len a)=some (z,g,Z')):∃b,g=ql st.Y st.Z b/\Z'=st.Z+1:=by
 simp only[JD]at c;simp only[zF]at h;split at h
 ·rename_i m e;have d:=cF i c e;unfold zu at h;split at h
  ·split at h
   ·rename_i n o p Y1 _ _ f;have j:=cC d f;subst j;split at h
    ·split at h
     ·injection h with h;injection h with _ h;injection h with k l;exact⟨_,k.symm,l.symm⟩
     ·cases h
    ·cases h
   ·cases h
  ·cases h
 ·cases h
theorem EZ(r:∀g m,pf g=true->C.Γ g=some m->Zk m){L:List Tmp}{n:Array Oper}{l c:Oper}(I:Lo pf L n l c=true){st s:St}(N:xp L st)(J:Kw st.Y st.Z)(hs:(yb C n l st).bind (yb C n c)=some s):(yb C n c st).bind (yb C n l)=some s:=by
 simp only[Lo,zx,Option.isNone_iff_eq_none]at I;obtain⟨⟨⟨⟨⟨_,B⟩,x⟩,P⟩,d⟩,f⟩:=I;have D:k6 pf l.op<=1:=by
  rcases Bool.or_eq_true_iff.1 d with d|d
  ·rcases sJ d with⟨t,a,e⟩|⟨t,a,i,e⟩<;>simp[e,k6]
  ·unfold Xi at d;split at d
   ·rename_i g E ts j;simp[j,k6,d]
   ·cases d
 have F:st.Y st.Z=none:=by
  cases Q:st.Y st.Z with
  |none=>rfl
  |some b=>have:=J _ b Q;omega
 cases k:jk C n l st.U st.Y st.Z with
 |none=>rw[yc,k]at hs;cases hs
 |some q=>
  obtain⟨y,R,n1⟩:=q;rw[<-K9 B (fun Y Z y K Z' h=>Z6 r D h) (fun z K Z' h=>?_)]
  ·exact hs
  ·rw[jc P]at h;have u:∃b,K=ql st.Y st.Z b/\Z'=st.Z+1:=by
    rcases Bool.or_eq_true_iff.1 f with f|f
    ·have o:=f;unfold JD at f;split at f
     ·rename_i t len G j;rw[j]at h o;exact B6 N o h
     ·cases f
    ·unfold EV at f;split at f
     ·rename_i t j;rw[j]at h;exact Xj h
     ·cases f
   obtain⟨b,rfl,rfl⟩:=u;rcases Bool.or_eq_true_iff.1 d with d|d
   ·have v:∀id A,st.Y id=some A->ql st.Y st.Z b id=some A:=fun id A M=>by rw[qu _ _ _ _ (by have:=J id A M;omega)];exact M
    rw[jc x]at k⊢;rw[jc x,k,B5 d v k];rfl
   ·unfold Xi at d;split at d
    ·rename_i g E ts j;rw[jc x,j]at k⊢;rw[jc x,j,k];have H:zF C (get st.U) (ql st.Y st.Z b) (st.Z+1) (.call ⟨.value (.func g),E,ts⟩)=some (y,ql st.Y st.Z b,st.Z+1):=by
      simp only[zF,kY]at k⊢;cases w:wH (E.toList.map (get st.U))with
      |none=>rw[w]at k;cases k
      |some xs=>
       rw[w]at k;simp only[get,yR]at k⊢;cases p:C.Γ g with
       |none=>rw[p]at k;cases k
       |some m=>rw[p]at k;exact(r g m d p _ _ _ _ _ _ k).2 b F
     rw[H];rfl
    ·cases d
def AskA(D:List (Tmp×Tmp))(L:List Tmp)(st:St):Prop:=(Zw D st/\xp L st)/\(BS L=true->Kw st.Y st.Z)
theorem sK(X:∀g k,pf g=true->C.Γ g=some k->Zk k){bk:FuncId->Bool}(hbk:∀g k,bk g=true->C.Γ g=some k->Zb k){D:List (Tmp×Tmp)}{L:List Tmp}{I:Array Oper}(hpl:iR pf D L bk I=true){i:Nat}{o:Oper}{st J:St}(ho:I[i]?=some o)(G:Zw D st/\Oa L st)(hs:yb C I o st=some J):Zw D J/\Oa L J:=by
  simp only[iR,qR,zx]at hpl;rcases hpl with⟨hD,hL⟩|hpl
  ·have hD:D=[]:=by simpa using hD
   have hL:L=[]:=by simpa using hL
   subst hD;subst hL;exact⟨(fun p Y=>(by cases Y)),(fun s hs=>(by cases hs))⟩
  have h0:=JZ.1 hpl o (Sx ho);simp only[zx,qR,qG]at h0;obtain⟨⟨hd,hld⟩,hk⟩:=h0;rw[yc]at hs;obtain⟨r,a,rZ⟩:=zH hs;obtain⟨y,Y1,Q⟩:=r;subst rZ;have A:(∀id blk,st.Y id=some blk->blk.arr=false->D.all (fun p=>L.contains p.2)=false\/id<st.Z->∃K,Y1 id=some K/\K.arr=false)/\st.Z<=Q:=by
   have h:∀{op:Op},o.op=op->cv bk op=true->D.all (fun p=>L.contains p.2)=true->(∀id blk,st.Y id=some blk->blk.arr=false->D.all (fun p=>L.contains p.2)=false\/id<st.Z->∃K,Y1 id=some K/\K.arr=false)/\st.Z<=Q:=by
    intro op c hf M;unfold jk at a;split at a
    ·rw[c]at a;obtain⟨l,d⟩:=cx hbk hf a;refine⟨fun id blk w v h3=>?_,l⟩;rcases h3 with h3|h3
     ·rw[M]at h3;cases h3
     ·exact⟨blk,d id blk h3 w v,v⟩
    ·injection a with a;injection a with _ a;injection a with l d;subst l;subst d;exact⟨fun id blk w v _=>⟨blk,w,v⟩,zi _⟩
   rcases hk with hk|hk
   ·obtain⟨rfl,rfl⟩:=Z6 X hk a;exact⟨fun id blk w v _=>⟨blk,w,v⟩,zi _⟩
   ·split at hk
    ·rename_i t q x c;unfold jk at a;split at a
     ·rw[c]at a;simp only[zF]at a;split at a
      ·obtain⟨v,l,d⟩:=zH a;injection d with _ d;injection d with d B;subst d;subst B;exact⟨fun id blk w v _=>BT l w v,zi _⟩
      ·cases a
     ·injection a with a;injection a with _ a;injection a with l d;subst l;subst d;exact⟨fun id blk w v _=>⟨blk,w,v⟩,zi _⟩
    ·rename_i g aZ ts c;simp only[zx]at hk;exact h c (by simpa[cv]using hk.2) hk.1
    ·rename_i aZ ts c;exact h c rfl hk
    ·rename_i t n ps c;exact h c rfl hk
    ·rename_i t c;exact h c rfl hk
    ·cases hk
  refine⟨fun p Y=>?_,fun s R=>?_⟩
  rotate_left
  ·have hl:=zQ.1 hld s R;simp only[qR,zdg]at hl;have H:(∀id o' n,put st.U o.dst y s≠.own id o' n)/\∀id i' j',put st.U o.dst y s=.ref id i' j'->id<st.Z/\∃blk,st.Y id=some blk/\blk.arr=false:=by
    by_cases m:o.dst=some s
    ·have u:put st.U o.dst y s=y:=by rw[m];exact wQ _ _ _
     rw[u];rcases hl with hl|hl
     ·exact absurd m hl
     ·split at hl
      ·rename_i t b f c;obtain⟨E,F⟩:=G.2 b (by simpa using hl);unfold jk at a;split at a
       ·rw[c]at a;simp only[zF,get]at a;obtain⟨z,l,d⟩:=zH a;injection d with d _
        subst d;refine⟨fun id o' n e=>?_,fun id i' j' e=>?_⟩
        ·subst e;exact cy l
        ·subst e;obtain⟨i0,j0,B⟩:=YT l;exact F _ _ _ B
       ·injection a with a;injection a with a _;subst a;exact⟨(fun _ _ _ e=>by cases e),(fun _ _ _ e=>by cases e)⟩
      ·rename_i t b ix c;obtain⟨E,F⟩:=G.2 b (by simpa using hl);unfold jk at a;split at a
       ·rw[c]at a;simp only[zF,get]at a;split at a
        ·rename_i p0 q0 S hq0;simp only[wb]at S;subst S;obtain⟨z,l,d⟩:=zH a;injection d with d _
         subst d;refine⟨fun id o' n e=>?_,fun id i' j' e=>?_⟩
         ·subst e;exact cz l
         ·subst e;obtain⟨i0,j0,B⟩:=YU l E;exact F _ _ _ B
        ·cases a
       ·injection a with a;injection a with a _;subst a;exact⟨(fun _ _ _ e=>by cases e),(fun _ _ _ e=>by cases e)⟩
      ·cases hl
    ·have u:put st.U o.dst y s=st.U s:=kI (fun e T=>by rintro rfl;exact m T);rw[u];exact G.2 s R
   refine⟨H.1,fun id i' j' e=>?_⟩;obtain⟨w,blk,v,h3⟩:=H.2 id i' j' e;exact⟨wA w A.2,A.1 id blk v h3 (.inr w)⟩
  ·have hd:=zQ.1 hd p Y;simp only[zx,qR,zdg]at hd;obtain⟨hd2,hd1⟩:=hd;have hpb:put st.U o.dst y p.2=st.U p.2:=kI (fun e T=>by rintro rfl;exact hd2 T);have N:∀id i j,put st.U o.dst y p.1=.ref id i j->∃id' i' j' blk,st.U p.2=.ref id' i' j'/\id≠id'/\st.Y id'=some blk/\blk.arr=false:=by
    intro id i j e;by_cases m:o.dst=some p.1
    ·have u:put st.U o.dst y p.1=y:=by rw[m];exact wQ _ _ _
     rw[u]at e;subst e;rcases hd1 with hd1|hd1
     ·exact absurd m hd1
     ·split at hd1
      ·rename_i t b f c;unfold jk at a;split at a
       ·rw[c]at a;simp only[zF,get]at a;obtain⟨z,l,d⟩:=zH a;injection d with d _
        subst d;obtain⟨i0,j0,B⟩:=YT l;exact G.1 (b,p.2) (by simpa using hd1) _ _ _ B
       ·injection a with a;injection a with a _;cases a
      ·rename_i t b ix c;simp only[zx]at hd1;obtain⟨E,F⟩:=G.2 b (by simpa using hd1.2);unfold jk at a;split at a
       ·rw[c]at a;simp only[zF,get]at a;split at a
        ·rename_i p0 q0 S hq0;simp only[wb]at S;subst S;obtain⟨z,l,d⟩:=zH a;injection d with d _
         subst d;obtain⟨i0,j0,B⟩:=YU l E;exact G.1 (b,p.2) (by simpa using hd1.1) _ _ _ B
        ·cases a
       ·injection a with a;injection a with a _;cases a
      ·cases hd1
    ·have u:put st.U o.dst y p.1=st.U p.1:=kI (fun e T=>by rintro rfl;exact m T);rw[u]at e;exact G.1 p Y id i j e
   intro id i j e;obtain⟨id',i',j',blk,eb,hne,Ul,W⟩:=N id i j e;have P:D.all (fun p=>L.contains p.2)=false\/id'<st.Z:=by
    cases M:D.all (fun p=>L.contains p.2)
    ·exact .inl rfl
    ·refine .inr ?_;have:=zQ.1 M p Y;exact((G.2 p.2 (by simpa using this)).2 id' i' j' eb).1
   obtain⟨K,Lf,hb2⟩:=A.1 id' blk Ul W P;exact⟨id',i',j',K,by show put st.U o.dst y p.2=_;rw[hpb];exact eb,hne,Lf,hb2⟩
theorem Pn(v:∀g f,pf g=true->C.Γ g=some f->Zk f){L:List Tmp}{h:Array Oper}(F:sG pf L h=true)(I:BS L=true){i:Nat}{o:Oper}{st d:St}(J:h[i]?=some o)(w:xp L st)(G:Kw st.Y st.Z)(hs:yb C h o st=some d) :
  (∀s∈L,zB<=s->(d.U (s-zB)).Qr=true)/\Kw d.Y d.Z:=by
 simp only[sG,I,Bool.not_true,Bool.false_or]at F;have H:=JZ.1 F o (Sx J);simp only[zx]at H;obtain⟨l,m⟩:=H;rw[yc]at hs;obtain⟨r,a,x⟩:=zH hs;obtain⟨y,Y1,A⟩:=r;subst x;refine⟨fun s n p=>?_,?_⟩
 ·have c:=zQ.1 m s n;simp only[qR,qG,zdg,zx,Option.isNone_iff_eq_none]at c;by_cases hd:o.dst=some (s-zB)
  ·have j:put st.U o.dst y (s-zB)=y:=by rw[hd];exact wQ _ _ _
   show(put st.U o.dst y (s-zB)).Qr=true;rw[j];rcases c with(c|c)|⟨K,c⟩
   ·exact absurd c (Nat.not_lt.2 p)
   ·exact absurd hd c
   ·rw[jc K]at a;split at c
    ·rename_i b k;rw[k]at a;simp only[zF,get,zL]at a;injection a with a
     injection a with a _;rw[<-a];exact Ap w c
    ·rename_i t B k;rw[k]at a;simp only[zF]at a;split at a
     ·rename_i N q;obtain⟨z,D,u⟩:=zH a;injection u with u _
      subst u;exact Pm (nv (cF w c q) D)
     ·cases a
    ·cases c
  ·have j:put st.U o.dst y (s-zB)=st.U (s-zB):=kI (fun e M E=>hd (by rw[M,E]));show(put st.U o.dst y (s-zB)).Qr=true;rw[j];exact(w s n).2 p
 ·show Kw Y1 A;unfold jk at a;split at a
  ·exact B0 v l a G
  ·injection a with a;injection a with _ a;injection a with D u;subst D;subst u;exact G
theorem E0(k:∀g d,pf g=true->C.Γ g=some d->Zk d){r:FuncId->Bool}(m:∀g d,r g=true->C.Γ g=some d->Zb d){D:List (Tmp×Tmp)}{L:List Tmp}{n:Array Oper}(l:iS pf D L r n=true):mU C n (Ao pf D L r n) (AskA D L):=by
 simp only[iS,zx]at l;obtain⟨B,l⟩:=l;refine⟨fun i o st t w f hs=>?_,fun i j a b st t H I c f hs=>?_⟩
 ·obtain⟨x,y⟩:=sK k m l w ⟨f.1.1,fun s hs=>(f.1.2 s hs).1⟩ hs;cases q:BS L
  ·refine⟨⟨x,fun s h=>⟨y s h,fun E=>?_⟩⟩,fun e=>by rw[q]at e;cases e⟩;have:=List.any_eq_false.1 q s h;simp at this;omega
  ·obtain⟨F,G⟩:=Pn k B q w f.1.2 (f.2 q) hs;exact⟨⟨x,fun s h=>⟨y s h,F s h⟩⟩,fun _=>G⟩
 ·simp only[Ao,qR]at c;rcases c with(c|c)|c
  ·rw[<-BR k c st];exact hs
  ·simp only[Od,zx,qR,Option.isNone_iff_eq_none]at c;obtain⟨⟨⟨⟨u,p⟩,z⟩,A⟩,hm⟩:=c;rcases hm with hm|hm
   ·rw[<-gB m hm z A u f.1.1 f.1.2];exact hs
   ·rw[gB m hm A z p f.1.1 f.1.2];exact hs
  ·have v:BS L=true:=by simp only[Lo,zx]at c;exact c.1.1.1.1.1
   exact EZ k c f.1.2 (f.2 v) hs
end
def vU(C:Ctx)(code:Code)(st:St)(K:Exit->St->Prop):Prop:=∃e a,qB C code st=some (e,a)/\K e a
def cH(C:Ctx)(b:Array Oper)(l:List Oper)(st:St)(K:St->Prop):Prop:=∃a,kE C b l st=some a/\K a
def QE{α:Type}(o:Option α)(K:α->Prop):Prop:=∃x,o=some x/\K x
theorem nw{α:Type}{o o':Option α}(K:α->Prop)(h:o=o'):QE o K=QE o' K:=by rw[h]
theorem sL{α:Type}(x:α)(K:α->Prop):QE (some x) K=K x:=by simp[QE]
def ae(C:Ctx)(o:Option O)(x y:Code)(st:St)(K:Exit->St->Prop):Prop:=(o=some (.v (.bool true))/\vU C x st K)\/(o=some (.v (.bool false))/\vU C y st K)
theorem ny{C:Ctx}{o o':Option O}{x y:Code}{st:St}{K:Exit->St->Prop}(h:o=o'):ae C o x y st K=ae C o' x y st K:=by rw[h]
theorem sM(C:Ctx)(x y:Code)(st:St)(K:Exit->St->Prop):ae C (some (.v (.bool true))) x y st K=vU C x st K:=by simp[ae]
theorem nz(C:Ctx)(x y:Code)(st:St)(K:Exit->St->Prop):ae C (some (.v (.bool false))) x y st K=vU C y st K:=by simp[ae]
def cI(C:Ctx)(b:Code)(K:Exit->St->Prop)(e:Exit)(st:St):Prop:=match e with
 | .normal=>vU C b st K
 |e=>K e st
def YW(id:Nat)(K:Exit->St->Prop)(e:Exit)(st:St):Prop:=match e with
 | .exit i=>if i=id then K .normal st else K (.exit i) st
 |e=>K e st
def Wg(K:Exit->St->Prop)(st:St):Prop:=K .normal st
theorem iV(C:Ctx)(b:Code)(K:Exit->St->Prop)(st:St):cI C b K .normal st=vU C b st K:=rfl
theorem B7(C:Ctx)(b:Code)(K:Exit->St->Prop)(st:St):cI C b K .ret st=K .ret st:=rfl
theorem sN(C:Ctx)(b:Code)(K:Exit->St->Prop)(i:Nat)(st:St):cI C b K (.exit i) st=K (.exit i) st:=rfl
theorem fq(id:Nat)(K:Exit->St->Prop)(st:St):YW id K .normal st=K .normal st:=rfl
theorem sO(id:Nat)(K:Exit->St->Prop)(st:St):YW id K .ret st=K .ret st:=rfl
theorem Xk(id:Nat)(K:Exit->St->Prop)(st:St):YW id K (.exit id) st=K .normal st:=by simp[YW]
theorem JE{C:Ctx}{code:Code}{st:St}{b:Exit}{a:St}(K:Exit->St->Prop)(h:qB C code st=some (b,a)):vU C code st K=K b a:=by
 unfold vU;apply propext;constructor
 ·rintro⟨e,c,f,d⟩;rw[h]at f;obtain⟨rfl,rfl⟩:b=e/\a=c:=by simpa using f
  exact d
 ·exact fun d=>⟨_,_,h,d⟩
theorem nA(C:Ctx)(st:St)(K:Exit->St->Prop):vU C .skip st K=K .normal st:=JE K (by simp only[qB])
theorem nB(C:Ctx)(id:Nat)(st:St)(K:Exit->St->Prop):vU C (.exit id) st K=K (.exit id) st:=JE K (by simp only[qB])
theorem Lp(C:Ctx)(st:St)(K:Exit->St->Prop):vU C .ret st K=K .ret st:=JE K (by simp only[qB])
theorem B8(C:Ctx)(l:Nat)(st:St)(K:Exit->St->Prop):vU C (.label l) st K=K .normal st:=JE K (by simp only[qB])
theorem nC(C:Ctx)(i:Nat)(a:Array Oper)(d:Bool)(c st:St)(K:Exit->St->Prop)(g:mR (C.fz i) c=some st)(h:Zw (C.dyn i) st)(j:xp (C.Ey i) st):vU C (.region i a d) c K=cH C a a.toList st (Wg K):=by
 unfold vU cH Wg;simp only[qB,g,h,j,and_self,qI];apply propext;constructor
 ·rintro⟨e,b,h,f⟩;split at h
  ·rename_i s hs;obtain⟨rfl,rfl⟩:Exit.normal=e/\s=b:=by simpa using h
   exact⟨_,hs,f⟩
  ·cases h
 ·rintro⟨b,h,f⟩;exact⟨.normal,b,by rw[h],f⟩
theorem Zl(C:Ctx)(i:Nat)(a:Array Oper)(d:Bool)(st:St)(K:Exit->St->Prop)(h:Zw (C.dyn i) st)(b:xp (C.Ey i) st)(c:C.fz i=[]:=by rfl):vU C (.region i a d) st K=cH C a a.toList st (Wg K):=
 nC C i a d st st K (by rw[c];rfl) h b
theorem Z7(C:Ctx)(i:Nat)(a:Array Oper)(d:Bool)(st:St)(K:Exit->St->Prop)(h:C.dyn i=[])(b:C.Ey i=[])(c:C.fz i=[]:=by rfl):vU C (.region i a d) st K=cH C a a.toList st (Wg K):=Zl C i a d st K (by rw[h];intro p Y;cases Y) (by rw[b];intro p Y;cases Y) c
theorem iW(C:Ctx)(a b:Code)(st:St)(K:Exit->St->Prop):vU C (.seq a b) st K=vU C a st (cI C b K):=by
 unfold vU;simp only[qB];apply propext;constructor
 ·rintro⟨e,c,h,d⟩;split at h
  ·rename_i s hs;exact⟨.normal,s,hs,e,c,h,d⟩
  ·rename_i r k;refine⟨e,c,h,?_⟩;cases e<;>simp_all[cI]
 ·rintro⟨e,c,h,d⟩;cases e
  case normal=>obtain⟨i,f,j,g⟩:=d;exact⟨i,f,by rw[h];exact j,g⟩
  all_goals exact⟨_,c,by rw[h],d⟩
theorem E1(C:Ctx)(c:Operand)(x y:Code)(st:St)(K:Exit->St->Prop):vU C (.cond c x y) st K=ae C (get st.U c) x y st K:=by
 unfold vU ae;simp only[qB];apply propext;constructor
 ·rintro⟨e,a,h,d⟩;split at h
  ·rename_i b;exact .inl ⟨b,e,a,h,d⟩
  ·rename_i b;exact .inr ⟨b,e,a,h,d⟩
  ·cases h
 ·rintro (⟨b,e,a,h,d⟩|⟨b,e,a,h,d⟩)
  ·exact⟨e,a,by rw[b];exact h,d⟩
  ·exact⟨e,a,by rw[b];exact h,d⟩
theorem B9(C:Ctx)(id:Nat)(b:Code)(st:St)(K:Exit->St->Prop):vU C (.block id b) st K=vU C b st (YW id K):=by
 unfold vU;simp only[qB];apply propext;constructor
 ·rintro⟨e,a,h,c⟩;split at h
  ·rename_i i s hs;refine⟨.exit i,s,hs,?_⟩;unfold YW;split at h
   ·rename_i d;obtain⟨rfl,rfl⟩:Exit.normal=e/\s=a:=by simpa using h
    simp[d,c]
   ·rename_i d;obtain⟨rfl,rfl⟩:Exit.exit i=e/\s=a:=by simpa using h
    simp[d,c]
  ·rename_i r f;refine⟨e,a,h,?_⟩;cases e<;>simp_all[YW]
 ·rintro⟨e,a,h,c⟩;cases e
  case exit i=>
   unfold YW at c;simp only[h];by_cases d:i=id
   ·simp only[d,qI]at c⊢;exact⟨_,_,rfl,c⟩
   ·simp only[d,wE]at c⊢;exact⟨_,_,rfl,c⟩
  all_goals exact⟨_,a,by rw[h],c⟩
def UB(C:Ctx)(b:Code)(K:Exit->St->Prop)(e:Exit)(st:St):Prop:=match e with
 | .normal=>vU C b st K
 |_=>False
def Po(I:Nat->Hp->Nat->Prop)(k:Nat)(U:Nat->O)(K:Exit->St->Prop)(e:Exit)(st:St):Prop:=match e with
 | .normal=>I (k+1) st.Y st.Z
 | .ret=>K .ret ⟨U,st.Y,st.Z⟩
 | .exit i=>K (.exit i) ⟨U,st.Y,st.Z⟩
 |_=>False
theorem Ca{C:Ctx}{f:Operand}{s:Array Tmp}{a b:Code}{st:St}{K:Exit->St->Prop}{p:Tmp}{g:FuncId}{cap:zb}{it:xo}{xs:zb}{Y1:Hp}
  (o:s.toList=[p]) (v:get st.U f=some (.fn (.func g) [] cap)) (hit:C.it g=some it) (w:it cap st.Y=some (xs,Y1)) (I:Nat->Hp->Nat->Prop) (x:I 0 Y1 st.Z)
  (h:∀k Y Z (t:k<xs.length),I k Y Z->vU C a ⟨ql st.U p xs[k],Y,Z⟩ (UB C b (Po I k st.U K))) (i:∀Y Z,I xs.length Y Z->K .normal ⟨st.U,Y,Z⟩):vU C (.rangeFunc f s a b) st K:=by
 have q:∀d k Y Z,xs.length-k=d->k<=xs.length->I k Y Z->∃e Y2 c,WK (qB C a) (qB C b) st.U p (xs.drop k) Y Z=some (e,Y2,c)/\K e ⟨st.U,Y2,c⟩:=by
  intro d
  induction d with
  |zero=>
   intro k Y Z hd t r;obtain rfl:k=xs.length:=by omega
   exact⟨.normal,Y,Z,by rw[zp];rfl,i Y Z r⟩
  |succ d y=>
   intro k Y Z hd t r;have j:k<xs.length:=by omega
   obtain⟨z,D,l,m⟩:=h k Y Z j r;rw[zd j];simp only[WK,l];cases z<;>try exact m.elim
   obtain⟨A,u,B,n⟩:=m;simp only[B];cases A<;>try exact n.elim
   ·exact y (k+1) u.Y u.Z (by omega) (by omega) n
   ·exact⟨_,_,_,rfl,n⟩
   ·exact⟨_,_,_,rfl,n⟩
 obtain⟨e,Y2,c,l,m⟩:=q _ 0 Y1 st.Z rfl (ka _) x;rw[wZ]at l;exact⟨e,⟨st.U,Y2,c⟩,by simp only[qB,o,v,hit,w,l],m⟩
theorem Lq(C:Ctx)(a:Array Oper)(st:St)(K:St->Prop):cH C a [] st K=K st:=by simp[cH,kE]
def E2(C:Ctx)(a:Array Oper)(l:List Oper)(K:St->Prop)(st:St):Prop:=cH C a l st K
theorem E3(C:Ctx)(a:Array Oper)(l:List Oper)(K:St->Prop)(st:St):E2 C a l K st=cH C a l st K:=rfl
theorem E4(C:Ctx)(a:Array Oper)(o:Oper)(l:List Oper)(st:St)(K:St->Prop):cH C a (o::l) st K=QE (yb C a o st) (E2 C a l K):=by
 unfold cH QE E2 cH;simp only[kE];apply propext;constructor
 ·rintro⟨b,h,c⟩;split at h
  ·rename_i s hs;exact⟨s,hs,b,h,c⟩
  ·cases h
 ·rintro⟨s,hs,b,h,c⟩;exact⟨b,by rw[hs];exact h,c⟩
theorem zO(C:Ctx)(b:Code)(st:St)(K:Exit->St->Prop):vU C (.loop b) st K=vU C b st (cI C (.loop b) K):=by
 unfold vU;simp only[qB];rw[iJ];apply propext;constructor
 ·rintro⟨e,a,h,c⟩;split at h
  ·rename_i s hs;exact⟨.normal,s,hs,e,a,by simpa only[qB]using h,c⟩
  ·rename_i r j;refine⟨e,a,h,?_⟩;cases e<;>simp_all[cI]
 ·rintro⟨e,a,h,c⟩;cases e
  case normal=>obtain⟨g,d,i,f⟩:=c;exact⟨g,d,by rw[h];simpa only[qB]using i,f⟩
  all_goals exact⟨_,a,by rw[h],c⟩
def iX(I:St->Prop)(a:St->Nat)(n:Nat)(K:Exit->St->Prop)(e:Exit)(st:St):Prop:=match e with
 | .normal=>I st/\a st<n
 |e=>K e st
theorem ft(I:St->Prop)(a:St->Nat)(n:Nat)(K:Exit->St->Prop)(st:St):iX I a n K .normal st=(I st/\a st<n):=rfl
theorem sP(I:St->Prop)(a:St->Nat)(n:Nat)(K:Exit->St->Prop)(st:St):iX I a n K .ret st=K .ret st:=rfl
theorem nD(I:St->Prop)(a:St->Nat)(n i:Nat)(K:Exit->St->Prop)(st:St):iX I a n K (.exit i) st=K (.exit i) st:=rfl
theorem vU.mono{C:Ctx}{code:Code}{st:St}{K b:Exit->St->Prop}(h:vU C code st K)(c:∀e st,K e st->b e st):vU C code st b:=
 let⟨e,a,d,f⟩:=h
 ⟨e,a,d,c _ _ f⟩
theorem jI{C:Ctx}{b:Code}{st:St}{K:Exit->St->Prop}(I:St->Prop)(d:St->Nat)(h:I st)(a:∀st,I st->vU C b st (iX I d (d st) K)):vU C (.loop b) st K:=by
 have f:∀n st,d st=n->I st->vU C (.loop b) st K:=by
  intro n
  induction n using Nat.strongRecOn with
  |_ n i=>
   intro st j k;rw[zO];refine(a st k).mono fun e c g=>?_
   cases e
   case normal=>exact i (d c) (j ▸ g.2) c rfl g.1
   all_goals exact g
 exact f _ st rfl h
def YX(P:Program)(fn:Func)(R:O->Hp->Nat->Prop)(e:Exit)(st:St):Prop:=match e with
 | .normal|.ret=>QE (kZ P fn st) (fun x=>R x st.Y st.Z)
 |_=>False
theorem nE(P:Program)(fn:Func)(R:O->Hp->Nat->Prop)(st:St):YX P fn R .normal st=QE (kZ P fn st) (fun x=>R x st.Y st.Z):=rfl
theorem E5(P:Program)(fn:Func)(R:O->Hp->Nat->Prop)(st:St):YX P fn R .ret st=QE (kZ P fn st) (fun x=>R x st.Y st.Z):=rfl
theorem zY{C:Ctx}{fn:Func}{code:Code}{args:zb}{Y:Hp}{Z:Nat}{R:O->Hp->Nat->Prop}(f:fn.body=some code)
  (h:vU C code ⟨jX args,Y,Z⟩ (YX C.P fn R)):∃x d Z',jG C fn args Y Z=some (x,d,Z')/\R x d Z':=by
 obtain⟨e,st,g,a⟩:=h;unfold jG;simp only[f,g];unfold YX at a;split at a
 ·obtain⟨x,b,c⟩:=a;exact⟨x,st.Y,st.Z,by simp[b],c⟩
 ·obtain⟨x,b,c⟩:=a;exact⟨x,st.Y,st.Z,by simp[b],c⟩
 ·exact a.elim
def qU(r:O)(x:O)(Y:Hp)(_:Nat):Prop:=(freeze Y x).map (·.1)=some r
theorem zl{C:Ctx}{fn:Func}{code:Code}{args:zb}{r:O}(a:fn.body=some code)
  (h:vU C code ⟨jX args,fun _=>none,0⟩ (YX C.P fn (qU r))):zt C fn args=some r:=by
 obtain⟨x,d,Z',b,c⟩:=zY a h;unfold zt;simp only[b];exact c
theorem QF(d:Option Tmp)(op:Op)(t:TypeId)(p:String)(a:Array Edge)(y:Nat->Option Bool):Region.wanted ⟨d,op,t,p,a,none⟩ y=true:=rfl
theorem nF(d:Option Tmp)(op:Op)(t:TypeId)(p:String)(a:Array Edge)(j:Nat)(b:Bool)(y:Nat->Option Bool):Region.wanted ⟨d,op,t,p,a,some (j,b)⟩ y=(y j==some b):=rfl
theorem nG(C:Ctx)(a:Array Oper)(d:Option Tmp)(op:Op)(t:TypeId)(p:String)(b:Array Edge)(st:St):yb C a ⟨d,op,t,p,b,none⟩ st =
  (zF C (get st.U) st.Y st.Z op).map fun r=>⟨put st.U d r.1,r.2.1,r.2.2⟩:=by
 simp only[yb,QF,qI];cases zF C (get st.U) st.Y st.Z op<;>rfl
variable{dr:Prop}
section
variable{C:Ctx}{pf:FuncId->Bool}
def xq(a:Array Bool)(k:Nat):Prop:=a.getD k false=true
theorem ag{i n:Nat}(h:i<n):List.range n=List.range i++i::List.range' (i+1) (n-i-1):=by
 have a:List.range n=List.range' 0 i++List.range' i (n-i):=by rw[zbw,show List.range' 0 n=List.range' 0 (i+(n-i))from by rw[show i+(n-i)=n from by omega],<-List.range'_append_1];simp
 rw[a,zbw];congr 1;rw[show n-i=(n-i-1)+1 from by omega,List.range'_succ];simp
theorem E6{a:Array Oper}{cm:Oper->Oper->Bool}{A:St->Prop}(D:mU C a cm A)(E:cu cm a=true):∀(fuel t:Nat) (listed:Array Bool) (st:St),A st->listed.size=a.size->Kt a (xq listed) ->
  ((List.range a.size).filter fun i=>!listed.getD i true).length<=fuel ->
  ∀r:St,jm C a ((List.range a.size).filter fun i=>!listed.getD i true) st=some r->jm C a (Region.linearise.go .any a fuel t listed []) st=some r:=by
 intro fuel
 induction fuel with
 |zero=>intro t listed st _ _ _ Q r c;rw[ZK (Nat.le_zero.1 Q)]at c;exact c
 |succ fuel ih=>
  intro t listed st R S F Q r c;simp only[Region.linearise.go];change jm C a (match(Region.ready .any a listed)[t % (Region.ready .any a listed).length]? with
   |some i=>Region.linearise.go .any a fuel (t/(Region.ready .any a listed).length) (listed.setIfInBounds i true) [i]
   |none=>[].reverse) st=some r
  have q:∀k,k<a.size->listed.getD k true=listed.getD k false:=fun k hk=>by
   have:k<listed.size:=by omega
   simp[this]
  have d:∀i,i∈Region.ready .any a listed↔i<a.size/\listed.getD i true=false/\∃o,a[i]?=some o/\gz (xq listed) o:=by
   intro i;unfold Region.ready;simp only[kX,jl,zx,kU];constructor
   ·rintro⟨G,T,h3⟩;refine⟨G,T,a[i],by simp[G],fun e s u=>?_⟩;simp only[G,xm,zL,bE]at h3;have:=JZ.1 h3 e (by simpa using s);simpa[u,xq]using this
   ·rintro⟨G,T,o,m,Y⟩;refine⟨G,T,?_⟩;simp only[m,zL,bE];refine JZ.2 fun e s=>?_
    cases u:Region.binds .any e with
    |false=>rfl
    |true=>simpa[xq]using Y e (by simpa using s) u
  cases W:(Region.ready .any a listed)[t % (Region.ready .any a listed).length]? with
  |none=>
   have H:Region.ready .any a listed=[]:=by
    cases c:Region.ready .any a listed with
    |nil=>rfl
    |cons x xs=>rw[c]at W;have w:t % (x::xs).length<(x::xs).length:=Nat.mod_lt _ (by simp);simp at W;simp at w;omega
   have I:∀n k,k<n->k<a.size->listed.getD k true=true:=by
    intro n
    induction n with
    |zero=>intro k hk;omega
    |succ n J=>
     intro k hk g;by_cases X:k<n
     ·exact J k X g
     ·have hkk:k=n:=by omega
      subst hkk;cases u:listed.getD k true with
      |true=>rfl
      |false=>
       have m:a[k]?=some a[k]:=by simp[g]
       have v:k∈Region.ready .any a listed:=(d k).2 ⟨g,u,a[k],m,fun e s hbe=>by have w:=(ab E k _ m).1 e s hbe;have:=J e.on w (by omega);rw[q e.on (by omega)]at this;exact this⟩
       rw[H]at v;cases v
   have:((List.range a.size).filter fun i=>!listed.getD i true)=[]:=by rw[List.filter_eq_nil_iff];intro k hk;have g:=jl.1 hk;rw[I (k+1) k (by omega) g];simp
   rw[this]at c;exact c
  |some i=>
   simp only[];obtain⟨K,hul,o,m,Y⟩:=(d i).1 (zD W);rw[linearise_go_acc,List.reverse_singleton,List.singleton_append];have y:∀k,(listed.setIfInBounds i true).getD k true=if k=i then true else listed.getD k true:=by
    intro k;by_cases hk:k=i
    ·subst hk;have:k<listed.size:=by omega
     simp[this]
    ·rw[zj hk];simp[X4 (fun h=>hk h.symm)]
   have hlf:∀k,xq (listed.setIfInBounds i true) k↔k=i\/xq listed k:=by
    intro k;unfold xq;by_cases hk:k=i
    ·subst hk;have:k<listed.size:=by omega
     simp[this]
    ·simp[X4 (fun h=>hk h.symm),hk]
   have f:((List.range a.size).filter fun k=>!listed.getD k true)=((List.range i).filter fun k=>!listed.getD k true)++i::((List.range' (i+1) (a.size-i-1)).filter fun k=>!listed.getD k true):=by rw[ag K,J0,List.filter_cons_of_pos (by rw[hul];rfl)]
   have b:((List.range a.size).filter fun k=>!(listed.setIfInBounds i true).getD k true)=((List.range i).filter fun k=>!listed.getD k true)++((List.range' (i+1) (a.size-i-1)).filter fun k=>!listed.getD k true):=by
    rw[ag K,J0,List.filter_cons_of_neg (by rw[y];simp)];congr 1
    ·exact List.filter_congr fun k hk=>by have:=jl.1 hk;rw[y,zj (by omega)]
    ·exact List.filter_congr fun k hk=>by have:=(List.mem_range'_1.1 hk).1;rw[y,zj (by omega)]
   have L:Kt a (xq (listed.setIfInBounds i true)):=by
    intro k o' hk l e s u;rw[hlf]at hk⊢;rcases hk with rfl|hk
    ·rw[m]at l;injection l with l
     subst l;exact .inr (Y e s u)
    ·exact .inr (F k o' hk l e s u)
   have p:((List.range a.size).filter fun k=>!(listed.setIfInBounds i true).getD k true).length<=fuel:=by rw[b];rw[f]at Q;simp only[yy,zU]at Q⊢;omega
   have M:=fun st R=>ih (t/(Region.ready .any a listed).length) (listed.setIfInBounds i true) st R (by simpa using S) L p
   rw[f]at c;have c:=J5 D m _ _ _ r R (fun j hj=>by
    obtain⟨z,N⟩:=kX.1 hj;have z:=jl.1 z;rcases(ab E i o m).2 j z with h|h
    ·have:=h (xq listed) F Y;unfold xq at this;rw[<-q j (by omega)]at this;rw[this]at N;cases N
    ·exact h) c
   simp only[jm,m]at c⊢;cases B:yb C a o st with
   |none=>rw[B]at c;cases c
   |some P=>rw[B]at c;simp only[zV]at c⊢;exact M P (D.keep i o st P m R B) r (by rw[b];exact c)
theorem iY(a:Array Oper)(st:St):∀(l:List Oper) (i:Nat),(∀k,l[k]?=a[i+k]?)->i+l.length=a.size->jm C a (List.range' i l.length) st=kE C a l st:=by
 intro l
 induction l generalizing st with
 |nil=>intro i _ _;rfl
 |cons o l d=>
  intro i c e;have f:a[i]?=some o:=by have:=c 0;simpa using this.symm
  simp only[zU,List.range'_succ,jm,f,kE];cases hs:yb C a o st with
  |none=>rfl
  |some b=>simp only[zV];exact d b (i+1) (fun k=>by have:=c (k+1);simpa[zdc,NV 1 k]using this) (by simp at e;omega)
theorem J8(a:Array Oper)(st:St):jm C a (List.range a.size) st=kE C a a.toList st:=by have:=iY (C:=C) a st a.toList 0 (by simp) (by simp);rw[zbw];simpa using this
theorem Lr{a:Array Oper}{f:Oper->Oper->Bool}{A:St->Prop}(c:mU C a f A)(d:cu f a=true)(t:Nat)(st r:St)(g:A st)(h:kE C a a.toList st=some r):jm C a (Region.linearise .any a t) st=some r:=by
 unfold Region.linearise;refine E6 c d a.size t _ st g (by simp) (fun k o b=>by unfold xq at b;rw[QQ,Array.getElem?_replicate]at b;split at b<;>simp at b) (zA (Sy _ _) (by simp)) r ?_
 have:((List.range a.size).filter fun i=>!(Array.replicate a.size false).getD i true)=List.range a.size:=by rw[List.filter_eq_self];intro i e;have e:=jl.1 e;simp[e]
 rw[this,J8];exact h
end
section
variable{C:Ctx}{pf:FuncId->Bool}{w0:World}{S0 L:Nat->Prop}{N Z0:Nat}{G0:Nat->GI}{n0:Nat}
theorem Wh{w:World}{S:Nat->Prop}{G:Nat->GI}{Z:Nat}{f:Array Oper}{U:Nat->O}{a:Act}(hs:∀t,zW w S G Z (U t) (a.tmps.getD t undef)):yielded f a.tmps=vW f U:=by
 funext j;unfold yielded vW;cases hd:(f[j]?).bind (·.dst)with
 |none=>rfl
 |some d=>
  simp only[zV];have k:=hs d;have m:∀b:Bool,a.tmps.getD d undef=.bool b->a.tmps[d]?=some (.bool b):=by
   intro b l;by_cases g:d<a.tmps.size
   ·simp[g]at l⊢;exact l
   ·simp[g]at l;simp[undef]at l
  cases i:U d with
  |v x=>
   rw[i]at k;obtain⟨e,o⟩:=k.wF;cases x with
   |bool b=>simp only[m b e]
   |_=>
    cases n:a.tmps[d]? with
    |none=>rfl
    |some y=>
     have:a.tmps.getD d undef=y:=by simp[n]
     rw[this]at e;subst e;rfl
  |_=>
   cases n:a.tmps[d]? with
   |none=>rfl
   |some y=>
    have:a.tmps.getD d undef=y:=by simp[n]
    rw[i,this]at k;cases y with
    |bool b=>cases k with
     |c h=>cases h
    |_=>rfl
def r7(F:Fence):Prop:=F=Fence.wide\/∃l,F=Fence.wide.inRound l
theorem r7.fn{F:Fence}(h:r7 F)(f:FuncId):F.fn f:=by rcases h with rfl|⟨l,rfl⟩<;>trivial
theorem r7.deep{F:Fence}(h:r7 F):F.depth=none:=by rcases h with rfl|⟨l,rfl⟩<;>rfl
theorem r7.calls{F:Fence}(h:r7 F){n:Nat}{P:Program}{f:FuncId}{args:Array Value}{w:World}{R:Ending->World->Prop}(a:Calls P f args w R):CallsIn F n P f args w R:=by
 rcases h with rfl|⟨l,rfl⟩
 ·exact fk.2 a
 ·exact(fk.2 a:CallsIn Fence.wide n P f args w R)
theorem ZZ(k:∀g r,C.Γ g=some r->kF dr C.P g r){m:Array Oper}(t:∀(i:Nat) (o:Oper),m[i]?=some o->∀d,o.dst=some d->d<N){F:Fence}{n:Nat}(hF:r7 F){Q:Exit->Act->World->Prop} :
  ∀(l:List Nat) (st j:St) (a:Act) (w:World),jm C m l st=some j->b4 dr C.P w0 S0 L N Z0 G0 n0 st a w->(∀W s,b4 dr C.P w0 S0 L N Z0 G0 n0 j W s->Q .normal W s)->wpOpsIn F n C.P m Q l a w
 |[],st,j,a,w,h,hs,B=>by
  simp only[jm]at h;injection h with h
  subst h;exact B a w hs
 |i::l,st,j,a,w,h,hs,B=>by
  simp only[wpOpsIn];cases D:m[i]? with
  |none=>simp only[jm,D]at h;exact ZZ k t hF l st j a w h hs B
  |some o=>
   simp only[jm,D]at h;cases b:yb C m o st with
   |none=>rw[b]at h;cases h
   |some st1=>
    rw[b]at h;simp only[zV]at h;obtain⟨S,G,u⟩:=hs;unfold yb at b;simp only[];rw[Wh u.kb];split at b
    ·rename_i E;rw[ze E];split at b
     ·rename_i x Y Z z;injection b with b
      subst b;have H:∀c,o.op≠.defer c:=by intro c I;rw[I]at z;simp[zF]at z
      refine⟨fun f _=>hF.fn f,?_⟩;rw[Sz _ _ _ H];have J:=K7 k u.inv (a:=a.eval) (fun y pv X=>x0 u.kb X) (o:=o) z;rcases J with⟨v,s,K,M,A,R,T⟩|⟨g,vs,A,I⟩
      ·have p:b4 dr C.P w0 S0 L N Z0 G0 n0 ⟨put st.U o.dst x,Y,Z⟩ (a.put o.dst v) s:=⟨K,M,u.step R T (t i o D)⟩;have q:=ZZ (n:=n) k t hF l _ j _ s h p B;rcases A with A|⟨A,rfl⟩
       ·rw[A];exact q
       ·rw[A];exact q
      ·rw[A];refine⟨fun h=>by simp[hF.deep]at h,hF.calls (I.mono fun e s hh=>?_)⟩;obtain⟨v,K,M,rfl,R,T⟩:=hh;have p:b4 dr C.P w0 S0 L N Z0 G0 n0 ⟨put st.U o.dst x,Y,Z⟩ (a.put o.dst v) s:=⟨K,M,u.step R T (t i o D)⟩;exact ZZ k t hF l _ j _ s h p B
     ·cases b
    ·rename_i E;rw[zj E];injection b with b
     subst b;exact⟨fun f _=>hF.fn f,ZZ k t hF l _ j _ w h ⟨S,G,u.step (.refl u.inv) yY (t i o D)⟩ B⟩
def yS:Code->Bool
 | .seq a b=>yS a&&yS b
 | .cond _ a b=>yS a&&yS b
 | .block _ b=>yS b
 | .loop b=>yS b
 | .rangeFunc _ _ _ _=>false
 | .scope _=>false
 |_=>true
def kj(pf:FuncId->Bool)(c:Nat->List (Tmp×Tmp))(e:Nat->List Tmp)(f:FuncId->Bool)(N:Nat):Code->Bool
 | .region i g h=>g.all (fun o=>match o.dst with|some d=>decide (d<N)|none=>true)&&(!h||(cu (Ao pf (c i) (e i) f g) g&&iS pf (c i) (e i) f g))
 | .seq a b=>kj pf c e f N a&&kj pf c e f N b
 | .cond _ a b=>kj pf c e f N a&&kj pf c e f N b
 | .block _ b=>kj pf c e f N b
 | .loop b=>kj pf c e f N b
 | .rangeFunc _ j a b=>j.all (fun p=>decide (p<N))&&yS a&&yS b&&kj pf c e f N a&&kj pf c e f N b
 |_=>true
theorem b4.drew{st:St}{a:Act}{w:World}(h:b4 dr C.P w0 S0 L N Z0 G0 n0 st a w):b4 dr C.P w0 S0 L N Z0 G0 n0 st a {w with drawn:=w.drawn+1}:=by obtain⟨S,G,c⟩:=h;refine⟨S,G,c.inv.same rfl,fun t=>(c.kb t).mono (fun b d=>⟨d,rfl⟩) (zi _) (fun _ _=>rfl),c.size,c.defers,c.s0,c.s1,c.own,c.fr.trans (Fr.drew w L) fun _ _ h=>h,c.up,c.loc⟩
theorem b4.top{st:St}{a:Act}{w:World}(h:b4 dr C.P w0 S0 L N Z0 G0 n0 st a w):Kw st.Y st.Z:=by obtain⟨S,G,b⟩:=h;exact b.inv.top
theorem b4.zby{st:St}{a:Act}{w:World}(h:b4 dr C.P w0 S0 L N Z0 G0 n0 st a w){t:Nat}{y:O}{Y1:Hp}(g:qe st.Y (st.U t)=some (y,Y1)):b4 dr C.P w0 S0 L N Z0 G0 n0 ⟨ql st.U t y,Y1,st.Z⟩ a w:=by
 obtain⟨S,G,h⟩:=h;obtain⟨f,k,c,_,_⟩:=jF (dr:=dr) h.inv g (h.kb t);have d:∀b,yP st.Y G b->L b\/w0.heap.size<=b:=by rintro b ⟨id,blk,hid,rfl⟩;exact h.own id blk hid
 refine⟨f,G,k.inv,fun s=>?_,h.size,h.defers.step k,fun b e=>k.keep (dr:=dr) b (h.s0 b e),fun b e=>?_,fun id b e=>?_,h.fr,h.up,h.loc⟩
 ·show zW w f G st.Z (ql st.U t y s) _;by_cases hs:s=t
  ·subst hs;rw[wQ];exact .c c
  ·rw[qu _ _ _ _ hs];exact(h.kb s).mono (k.same h.inv) (zi _) (fun _ _=>rfl)
 ·rcases k.from_ b e with h1|h1|h1
  ·exact h.s1 b h1
  ·exact .inr (d b h1)
  ·exact .inr (.inr (zA h.fr.size h1))
 ·rcases k.own id b e with h1|h1
  ·exact d _ h1
  ·exact .inr (zA h.fr.size h1)
theorem b4.mR{a:Act}{w:World}:∀{l:List Tmp} {st st1:St},b4 dr C.P w0 S0 L N Z0 G0 n0 st a w->AM.mR l st=some st1->b4 dr C.P w0 S0 L N Z0 G0 n0 st1 a w
 |[],st,st1,h,e=>by
  simp only[AM.mR]at e;injection e with e
  rw[<-e];exact h
 |t::l,st,st1,h,e=>by
  simp only[AM.mR]at e;split at e
  ·rename_i y Y1 b;exact b4.mR (h.zby b) e
  ·cases e
def YN(S:Nat->Prop)(G:Nat->GI)(Y:Hp)(b:Nat):Prop:=¬S b/\∀id blk,Y id=some blk->(G id).g≠b
theorem YN.step{P:Program}{Y d:Hp}{Z Z':Nat}{S e:Nat->Prop}{G f:Nat->GI}{w g:World}{b:Nat}(h:YN S G Y b)(k:j6 dr P Y Z S G w d Z' e f g)(j:b<w.heap.size):YN e f d b:=by
 refine⟨fun hs=>?_,fun id blk hid i=>?_⟩
 ·rcases k.from_ b hs with h1|⟨id,blk,h1,c⟩|h1
  ·exact h.1 h1
  ·exact h.2 id blk h1 c
  ·omega
 ·rcases k.own id blk hid with⟨id',a,h1,c⟩|h1
  ·exact h.2 id' a h1 (c.trans i)
  ·omega
theorem YN.same{P:Program}{Y c:Hp}{Z Z':Nat}{S d:Nat->Prop}{G e:Nat->GI}{w a:World}{b:Nat}(h:YN S G Y b)(k:j6 dr P Y Z S G w c Z' d e a)(f:b<w.heap.size):a.heap[b]?=w.heap[b]?:=
 k.fr.block b f fun⟨id,blk,g,i⟩=>h.2 id blk g i
section
variable{P:Program}{S:Nat->Prop}{G:Nat->GI}
theorem Inv.frame{w d:World}{Y:Hp}{Z:Nat}{B:Nat->Prop}(h:Inv P w S G Y Z)(e:Fr dr w B d)(f:∀b,B b->YN S G Y b):Inv P d S G Y Z:=by
 have g:∀b,S b->S b/\d.heap[b]?=w.heap[b]?:=fun b a=>⟨a,e.block b (h.st b a) fun c=>(f b c).1 a⟩
 exact⟨fun b a=>wA (h.st b a) e.size,h.top,fun id b a=>(h.live id b a).mono g (zi _) (fun _ _=>rfl) (e.block _ (h.live id b a).lt fun c=>(f _ c).2 id b a rfl),h.apart,h.inj,h.bF.mono g⟩
theorem Marks.frame{w a:World}{Y:Hp}{B:Nat->Prop}{ds:List Deferred}(h:Marks n0 w S Y G ds)(b:Fr dr w B a)(d:∀D,aR D∈ds->¬B D):Marks n0 a S Y G ds:=by obtain⟨f,g,e,i,j⟩:=h;refine⟨zA f b.size,g,e,i,fun D hd=>?_⟩;obtain⟨k,c,l⟩:=j D hd;exact⟨k,(b.block D (qb.1 c).1 (d D (by rw[e];exact YM hd))).trans c,l⟩
theorem nH{D a:Nat}(h:aR D=aR a):D=a:=by
 unfold aR at h;injection h with h
 injection h
theorem Marks.at{w:World}{Y:Hp}{ds:List Deferred}(h:Marks n0 w S Y G ds){D:Nat}(hd:aR D∈ds):n0<=D/\w.heap[D]?=some (.deferred (some []))/\¬S D/\∀id b,Y id=some b->(G id).g≠D:=by obtain⟨f,i,rfl,j,a⟩:=h;obtain⟨c,d,e⟩:=zN.1 hd;rw[<-nH e];exact a c d
theorem jR.frame{st:St}{a:Act}{w e:World}{B:Nat->Prop}(h:jR dr P w0 S0 L N Z0 G0 n0 st S G a w)(c:Fr dr w B e)(g:∀b,B b->YN S G st.Y b)(j:∀b,B b->L b\/w0.heap.size<=b)
  (k:∀D,aR D∈a.defers->¬B D):jR dr P w0 S0 L N Z0 G0 n0 st S G a e:=by
 have l:∀b,S b->S b/\e.heap[b]?=w.heap[b]?:=fun b d=>⟨d,c.block b (h.inv.st b d) fun f=>(g b f).1 d⟩
 refine⟨h.inv.frame c g,fun t=>(h.kb t).mono l (zi _) (fun _ _=>rfl),h.size,h.defers.frame c k,h.s0,h.s1,h.own,h.fr.trans c fun b d m=>?_,h.up,h.loc⟩;rcases j b m with i|i
 ·exact i
 ·omega
theorem jR.NX{st:St}{a:Act}{w d:World}{B:Nat->Prop}(h:jR dr P w0 S0 L N Z0 G0 0 st S G a w)(e:Fr dr w B d)(g:∀b,B b->YN S G st.Y b)(i:∀D,aR D∈a.defers->¬B D):jR dr P d S (yP st.Y G) N st.Z G 0 st S G a d:=by
 have j:∀b,S b->S b/\d.heap[b]?=w.heap[b]?:=fun b c=>⟨c,e.block b (h.inv.st b c) fun f=>(g b f).1 c⟩
 exact⟨h.inv.frame e g,fun t=>(h.kb t).mono j (zi _) (fun _ _=>rfl),h.size,h.defers.frame e i,fun _ h=>h,fun _ h=>.inl h,fun id b c=>.inl ⟨id,b,c,rfl⟩,Fr.refl _ _,zi _,fun _ _=>rfl⟩
theorem jR.inner{st:St}{a:Act}{w:World}(h:jR dr P w0 S0 L N Z0 G0 n0 st S G a w):jR dr P w S (yP st.Y G) N st.Z G 0 st S G {a with defers:=[]} w:=
 ⟨h.inv,h.kb,h.size,.nil (ka _),fun _ h=>h,fun _ h=>.inl h,fun id b c=>.inl ⟨id,b,c,rfl⟩,Fr.refl _ _,zi _,fun _ _=>rfl⟩
theorem jR.SG{Y:Hp}{Z:Nat}{b:Nat->Prop}{c:Nat->GI}{st:St}{a:Act}{w d:World}(h:jR dr P w S (yP Y G) N Z G n0 st b c a d):j6 dr P Y Z S G w st.Y st.Z b c d:=⟨h.inv,h.up,h.loc,h.s0,h.s1,h.own,h.fr⟩
end
def nI(dr:Prop)(P:Program)(g:FuncId)(it:xo):Prop:=
 (∃fn,P.funcs[g]?=some fn/\(fn.name== "runtime.NumGoroutine")=false/\fn.body.isNone=false) /\
 ∀cap Y Z xs Y1,it cap Y=some (xs,Y1)->∃us:List Value,xs=us.map O.v/\(∀u∈us,lit u=true)/\(∀id b,Y1 id=some b->Y id=some b) /\
  ∀(w:World) (S:Nat->Prop) (G:Nat->GI) (vs:List Value),Inv P w S G Y Z->Zip (zW w S G Z) cap vs ->
   ∃B:Nat->Prop,(∀b,B b->yP Y G b/\YN S G Y1 b) /\
    ∀(n l:Nat) (J c:List Value->World->Prop),
     (∀pre W a,J pre W->Fr dr W B a->J pre a)->(∀pre W a,c pre W->Fr dr W B a->c pre a)->(∀pre W,J pre W->Bz P W fun b=>b<W.heap.size) ->
     (∀pre x W,J pre W->us[pre.length]?=some x->YieldAt Fence.wide n P l #[x] W fun e a=>(e=.returned (.bool true)/\J (pre++[x]) a/\(∀b,B b->a.heap[b]?=W.heap[b]?)/\W.heap.size<=a.heap.size)\/(e=.returned (.bool false)/\c (pre++[x]) a)) ->
     ∀W,J [] W->(∀b,B b->W.heap[b]?=w.heap[b]?)->w.heap.size<=W.heap.size ->
      CallsIn Fence.wide (n+1) P g (#[.func (.yield l) #[] #[]]++vs.toArray) W fun e a=>(∃v,e=.returned v)/\(J us a\/∃pre,c pre a)
abbrev Cb:=nI True
theorem Ls{w:World}{S:Nat->Prop}{G:Nat->GI}{Z:Nat}{u:Value}(h:lit u=true):zW w S G Z (.v u) u:=.c (.v h)
theorem sQ{w:World}{l:Nat}(o:Obj)(B:Nat->Prop)(a:B l):Fr dr w B (w.putObj l o):=
 ⟨rfl,rfl,rfl,by simp,fun _=>zi _,fun k _ b=>zbx fun e=>b (e ▸ a)⟩
theorem cJ(hΓ:∀g spec,C.Γ g=some spec->kF dr C.P g spec)(hpf:∀g spec,pf g=true->C.Γ g=some spec->Zk spec)(hbk:∀g spec,C.bk g=true->C.Γ g=some spec->Zb spec)(hit:∀g it,C.it g=some it->nI dr C.P g it)(hm:C.P.follows .mixedOrders=true) :
  ∀(c:Code),kj pf C.dyn C.Ey C.bk N c=true->∀(F:Fence) (n:Nat),r7 F->(F=Fence.wide\/yS c=true)->∀(w0:World) (S0 L:Nat->Prop) (Z0:Nat) (G0:Nat->GI) (n0:Nat) (st st':St) (e:Exit) (a:Act) (w:World) (Q:Exit->Act->World->Prop),n0<=w0.heap.size->qB C c st=some (e,st')->b4 dr C.P w0 S0 L N Z0 G0 n0 st a w ->
   (∀a' w',b4 dr C.P w0 S0 L N Z0 G0 n0 st' a' w'->Q e a' w')->c.wpIn F n C.P Q a w:=by
 intro c
 induction c with
 |skip=>
  intro _ F n hF _ w0 S0 L Z0 G0 n0 st st' e a w Q _ h hs hQ;simp only[qB]at h;injection h with h
  injection h with e1 e2;subst e1;subst e2;exact wpIn_skip (hQ a w hs)
 |region id ops draw=>
  intro hok F n hF _ w0 S0 L Z0 G0 n0 st st' e a w Q _ h hs hQ;simp only[kj,zx,qR,kU]at hok;obtain⟨hN0,hdraw⟩:=hok;have hN:∀(i:Nat) (o:Oper),ops[i]?=some o->∀d,o.dst=some d->d<N:=by intro i o ho d hd;have:=JZ.1 hN0 o (Sx ho);simpa[hd]using this
  simp only[qB]at h;split at h
  case h_2=>cases h
  rename_i st1 hth;have hs:=hs.mR hth;clear hth;generalize st1=st at h hs;split at h
  case isFalse=>cases h
  rename_i hA;split at h
  ·rename_i s hs1;injection h with h
   injection h with e1 e2;subst e1;subst e2;cases draw with
   |false=>exact wpIn_region (ZZ hΓ hN hF _ st s a w (by rw[J8];exact hs1) hs hQ)
   |true=>
    have hd:cu (Ao pf (C.dyn id) (C.Ey id) C.bk ops) ops=true/\iS pf (C.dyn id) (C.Ey id) C.bk ops=true:=by simpa using hdraw
    refine wpIn_region_draw fun t=>?_
    simp only[Region.schedule,hm,Bool.true_or,qI];exact ZZ hΓ hN hF _ st s a _ (Lr (E0 hpf hbk hd.2) hd.1 _ _ _ ⟨hA,fun _=>hs.top⟩ hs1) hs.drew hQ
  ·cases h
 |seq x y ihx ihy=>
  intro hok F n hF hno w0 S0 L Z0 G0 n0 st st' e a w Q hn0 h hs hQ;simp only[kj,zx]at hok;have hnx:F=Fence.wide\/yS x=true:=hno.imp (fun h=>h) fun h=>by simp only[yS,zx]at h;exact h.1
  have hny:F=Fence.wide\/yS y=true:=hno.imp (fun h=>h) fun h=>by simp only[yS,zx]at h;exact h.2
  simp only[qB]at h;split at h
  ·rename_i s hx;exact wpIn_seq (ihx hok.1 F n hF hnx w0 S0 L Z0 G0 n0 st s .normal a w _ hn0 hx hs fun a' w' hs'=>ihy hok.2 F n hF hny w0 S0 L Z0 G0 n0 s st' e a' w' Q hn0 h hs' hQ)
  ·rename_i r hr;refine wpIn_seq (ihx hok.1 F n hF hnx w0 S0 L Z0 G0 n0 st st' e a w _ hn0 h hs fun a' w' hs'=>?_);have:=hQ a' w' hs';cases e<;>first
    |exact this
    |exact(hr _ h).elim
 |cond c x y ihx ihy=>
  intro hok F n hF hno w0 S0 L Z0 G0 n0 st st' e a w Q hn0 h hs hQ;simp only[kj,zx]at hok;have hnx:F=Fence.wide\/yS x=true:=hno.imp (fun h=>h) fun h=>by simp only[yS,zx]at h;exact h.1
  have hny:F=Fence.wide\/yS y=true:=hno.imp (fun h=>h) fun h=>by simp only[yS,zx]at h;exact h.2
  simp only[qB]at h;obtain⟨S,G,hS⟩:=hs;split at h
  ·rename_i hc;obtain⟨hv,_⟩:=(x0 hS.kb hc).wF;exact wpIn_cond_true hv (ihx hok.1 F n hF hnx w0 S0 L Z0 G0 n0 st st' e a w Q hn0 h ⟨S,G,hS⟩ hQ)
  ·rename_i hc;obtain⟨hv,_⟩:=(x0 hS.kb hc).wF;exact wpIn_cond_false hv (ihy hok.2 F n hF hny w0 S0 L Z0 G0 n0 st st' e a w Q hn0 h ⟨S,G,hS⟩ hQ)
  ·cases h
 |block id b ih=>
  intro hok F n hF hno w0 S0 L Z0 G0 n0 st st' e a w Q hn0 h hs hQ;simp only[kj]at hok;have hnb:F=Fence.wide\/yS b=true:=hno.imp (fun h=>h) fun h=>by simp only[yS]at h;exact h
  simp only[qB]at h;split at h
  ·rename_i i s hb;refine wpIn_block (ih hok F n hF hnb w0 S0 L Z0 G0 n0 st s (.exit i) a w _ hn0 hb hs fun a' w' hs'=>?_);unfold Exit.inBlock;split at h
   ·rename_i hi;injection h with h
    injection h with e1 e2;subst e1;subst e2;simp[hi,hQ a' w' hs']
   ·rename_i hi;injection h with h
    injection h with e1 e2;subst e1;subst e2;simp[hi,hQ a' w' hs']
  ·rename_i r hr;refine wpIn_block (ih hok F n hF hnb w0 S0 L Z0 G0 n0 st st' e a w _ hn0 h hs fun a' w' hs'=>?_);have:=hQ a' w' hs';cases e<;>first
    |exact this
    |exact(hr _ _ h).elim
 |loop b ih=>
  intro hok F n hF hno w0 S0 L Z0 G0 n0 st st' e a w Q hn0 h hs hQ;simp only[kj]at hok;have hnb:F=Fence.wide\/yS b=true:=hno.imp (fun h=>h) fun h=>by simp only[yS]at h;exact h
  simp only[qB]at h;obtain⟨m,hm'⟩:=xZ h;refine wpIn_loop_rounds m ?_;clear h
  induction m generalizing st a w with
  |zero=>simp[iter]at hm'
  |succ m ihn=>
   rw[roundsIn_succ];simp only[iter]at hm';split at hm'
   ·rename_i s hb;exact ih hok F n hF hnb w0 S0 L Z0 G0 n0 st s .normal a w _ hn0 hb hs fun a' w' hs'=>ihn s a' w' hs' hm'
   ·rename_i r hr;refine ih hok F n hF hnb w0 S0 L Z0 G0 n0 st st' e a w _ hn0 hm' hs fun a' w' hs'=>?_
    have:=hQ a' w' hs';cases e<;>first
     |exact this
     |exact(hr _ hm').elim
 |rangeFunc f ps x y ihx ihy=>
  intro hok F n hF hno w0 S0 L Z0 G0 n0 st st' e a w Q hn0 h hs hQ;obtain rfl:F=Fence.wide:=hno.resolve_right (by simp[yS]);simp only[kj,zx]at hok;obtain⟨⟨⟨⟨hps,hnx⟩,hny⟩,hox⟩,hoy⟩:=hok;simp only[qB]at h;split at h
  case h_2=>cases h
  rename_i p g cap hpl hfg;split at h
  case h_2=>cases h
  rename_i it hIt;split at h
  case h_2=>cases h
  rename_i xs Y1 hx;split at h
  case h_2=>cases h
  rename_i e0 Y2 Lg hro;injection h with h
  injection h with e1 e2;subst e1;subst e2;obtain⟨S,G,hS⟩:=hs;obtain⟨⟨gfn,gf1,gf2,gf3⟩,hitS⟩:=hit g it hIt;obtain⟨us,rfl,hlit,hsub,hrun⟩:=hitS cap st.Y st.Z _ Y1 hx;obtain⟨aZ,vs,ev,l1,l2,r1,r2⟩:=(x0 hS.kb hfg).mT;obtain rfl:aZ=#[]:=by simpa using l1.symm
  obtain⟨B,hB,hcalls⟩:=hrun w S G vs.toList hS.inv ⟨by simpa using l2,fun j pv u hj hu=>r2 j pv u hj (by simpa using hu)⟩;have hBlt:∀b,B b->b<w.heap.size:=fun b hb=>by obtain⟨id,blk,h1,rfl⟩:=(hB b hb).1;exact(hS.inv.live id blk h1).lt
  have hpN:p<N:=by have:=JZ.1 hps p (by rw[<-Array.mem_toList_iff,hpl];simp);simpa using this
  have hps1:ps=#[p]:=by apply Array.toList_inj.1;rw[hpl]
  subst hps1;refine wpIn_rangeFunc fun fn hfn=>?_
  obtain⟨rec,hrec⟩:∃rec:LoopState->Option Code->Loop,rec=fun s pe=>{state:=s,pending:=pe,fn,tmps:=a.tmps,params:=#[p],assign:=x,body:=y,defers:=w.heap.size}:=⟨_,rfl⟩
  obtain⟨W1,hW1⟩:=kC ((w.alloc (.deferred (some []))).alloc (.loop (rec .ready none)));have hL1:W1.heap[w.heap.size+1]?=some (.loop (rec .ready none)):=by rw[<-hW1];have:=World.alloc_heap_new (w.alloc (.deferred (some []))) (.loop (rec .ready none));rwa [World.size_alloc]at this
  have hK1:W1.heap[w.heap.size]?=some (.deferred (some [])):=by rw[<-hW1];exact(Below.heap_alloc _ _ _ (by simp)).trans (World.alloc_heap_new w _)
  have hsz1:W1.heap.size=w.heap.size+2:=by rw[<-hW1];simp
  have hold1:∀b,b<w.heap.size->W1.heap[b]?=w.heap[b]?:=fun b hb=>by rw[<-hW1];exact(Below.heap_alloc _ _ _ (by simp;omega)).trans (Below.heap_alloc w _ b hb)
  have fr1:Fr dr w (fun _=>False) W1:=⟨by rw[<-hW1];rfl,by rw[<-hW1];rfl,by rw[<-hW1];rfl,by omega,fun _=>by rw[<-hW1];exact zi _,fun k hk _=>hold1 k hk⟩;obtain⟨l,hl⟩:∃l,l=w.heap.size+1:=⟨_,rfl⟩;obtain⟨a1,ha1⟩:∃a1:Act,a1={a with defers:=aR w.heap.size::a.defers}:=⟨_,rfl⟩;have hfreshAway:∀b,w.heap.size<=b->YN S G Y1 b:=fun b hb=>⟨fun hs=>by have:=hS.inv.st b hs;omega,fun id blk hid he=>by have:=(hS.inv.live id blk (hsub id blk hid)).lt;omega⟩
  have hk0:Inv C.P W1 S G Y1 st.Z:=by have h1:Inv C.P w S G Y1 st.Z:=⟨hS.inv.st,fun id b hb=>hS.inv.top id b (hsub id b hb),fun id b hb=>hS.inv.live id b (hsub id b hb),fun id b hb=>hS.inv.apart id b (hsub id b hb),fun id id' b b' hb hb' he=>hS.inv.inj id id' b b' (hsub id b hb) (hsub id' b' hb') he,hS.inv.bF⟩;exact h1.frame fr1 (fun _ h=>h.elim)
  have hsim1:jR dr C.P w0 S0 L N Z0 G0 n0 ⟨st.U,Y1,st.Z⟩ S G a1 W1:=by
   subst ha1;obtain⟨hd0,Ds,hd1,hd2,hd3⟩:=hS.defers;refine⟨hk0,fun t=>(hS.kb t).mono (fun b hb=>⟨hb,hold1 b (hS.inv.st b hb)⟩) (zi _) (fun _ _=>rfl),hS.size,⟨by omega,w.heap.size::Ds,by simp[hd1],?_,?_⟩,hS.s0,hS.s1,fun id b hb=>hS.own id b (hsub id b hb),hS.fr.trans fr1 (fun _ _ h=>h.elim),hS.up,hS.loc⟩
   ·refine gj.2 ⟨fun hm=>?_,hd2⟩;have:=(qb.1 (hd3 _ hm).2.1).1;omega
   ·intro D hD;rcases zC.1 hD with rfl|hD
    ·exact⟨hd0,hK1,(hfreshAway _ (zi _))⟩
    ·obtain⟨g1,g2,g4,g3⟩:=hd3 D hD;exact⟨g1,(hold1 D (qb.1 g2).1).trans g2,g4,fun id b hb=>g3 id b (hsub id b hb)⟩
  have hsmall:w0.heap.size<=w.heap.size:=hS.fr.size;have hBL:∀b,B b->L b\/w0.heap.size<=b:=fun b hb=>by obtain⟨id,blk,h1,rfl⟩:=(hB b hb).1;exact hS.own id blk h1
  have hmk:∀D,aR D∈a1.defers->¬B D/\¬D=l:=by
   intro D hD;subst ha1;rcases zC.1 hD with h1|h1
   ·obtain rfl:=nH h1;exact⟨fun hb=>by have:=hBlt _ hb;omega,by omega⟩
   ·obtain⟨g1,g2,_,g3⟩:=hS.defers.at h1;have:=(qb.1 g2).1;refine⟨fun hb=>?_,by omega⟩;obtain⟨id,blk,h2,h3⟩:=(hB D hb).1;exact g3 id blk h2 h3
  have hlB:¬B l:=fun hb=>by have:=hBlt l hb;omega
  obtain⟨Good,hGood⟩:∃Good:Hp->Nat->(Nat->Prop)->(Nat->GI)->LoopState->Option Code->World->Prop,Good=fun Y Z S G s pe W=>
    jR dr C.P w0 S0 L N Z0 G0 n0 ⟨st.U,Y,Z⟩ S G a1 W/\(∀b,B b->YN S G Y b)/\YN S G Y l/\W.heap[l]?=some (.loop (rec s pe))/\w.heap.size<=W.heap.size:=⟨_,rfl⟩
  have good_frame:∀{Y Z S G s pe W W'},Good Y Z S G s pe W->Fr dr W B W'->Good Y Z S G s pe W':=by intro Y Z S G s pe W W' hg fr;subst hGood;obtain⟨g1,g2,g3,g4,g5⟩:=hg;exact⟨g1.frame fr g2 hBL (fun D hD=>(hmk D hD).1),g2,g3,(fr.block l (qb.1 g4).1 hlB).trans g4,zA g5 fr.size⟩
  have good_put:∀{Y Z S G s pe W} (s':LoopState) (pe':Option Code),Good Y Z S G s pe W->Good Y Z S G s' pe' (W.putObj l (.loop (rec s' pe'))):=by intro Y Z S G s pe W s' pe' hg;subst hGood;obtain⟨g1,g2,g3,g4,g5⟩:=hg;refine⟨g1.frame (sQ _ (fun b=>b=l) rfl) (fun b hb=>hb ▸ g3) (fun b hb=>.inr (by omega)) (fun D hD=>(hmk D hD).2),g2,g3,World.putObj_heap_same (qb.1 g4).1,by simpa using g5⟩
  have JC:∀{Y Z S G s pe W Y' Z' S' G' W'},Good Y Z S G s pe W->j6 dr C.P Y Z S G W Y' Z' S' G' W'->Good Y' Z' S' G' s pe W'/\∀b,B b->W'.heap[b]?=W.heap[b]?:=by intro Y Z S G s pe W Y' Z' S' G' W' hg k;subst hGood;obtain⟨g1,g2,g3,g4,g5⟩:=hg;have hll:=(qb.1 g4).1;refine⟨⟨g1.step (dst:=none) k yY (fun _ h=>by cases h),fun b hb=>(g2 b hb).step k (wA (hBlt b hb) g5),g3.step k hll,(g3.same k hll).trans g4,zA g5 k.fr.size⟩,fun b hb=>(g2 b hb).same k (wA (hBlt b hb) g5)⟩
  obtain⟨J,hJ⟩:∃J:List Value->World->Prop,J=fun pre W=>∃Y Z S G,Good Y Z S G .ready none W/\WK (qB C x) (qB C y) st.U p ((us.drop pre.length).map O.v) Y Z=some (e0,Y2,Lg):=⟨_,rfl⟩
  obtain⟨Jx,hJx⟩:∃Jx:List Value->World->Prop,Jx=fun _ W=>∃c S G,Good Y2 Lg S G .done (some c) W/\(c=.ret/\e0=.ret\/∃i,c=.exit i/\e0=.exit i):=⟨_,rfl⟩
  have hJ0:J [] W1:=by subst hJ;refine⟨Y1,st.Z,S,G,?_,hro⟩;subst hGood;exact⟨hsim1,fun b hb=>(hB b hb).2,hfreshAway l (by omega),by rw[hl];exact hL1,by omega⟩
  have gf2':¬gfn.name= "runtime.NumGoroutine":=by simpa using gf2
  have gf3':¬gfn.body=none:=by intro h;simp[h]at gf3
  refine⟨l,[aR w.heap.size],W1,{target:=.fn (.func g) vs,args:=#[.func (.yield l) #[] #[]]},W1,g,#[.func (.yield l) #[] #[]]++vs,W1,?_,?_,?_,?_,(fun h=>by simp[Fence.wide]at h),?_⟩
  ·rw[hl,<-hW1,hrec];exact run_enterLoop_outer _ _ _ _ _
  ·simp only[resolve,ev];simp[go_sem]
  ·intro f' _;trivial
  ·simp[invoke,callFunc,gf1,gf2',gf3']
  ·have hround:∀pre u W,J pre W->us[pre.length]?=some u->YieldAt Fence.wide 0 C.P l #[u] W fun e W'=>(e=.returned (.bool true)/\J (pre++[u]) W'/\(∀b,B b->W'.heap[b]?=W.heap[b]?)/\W.heap.size<=W'.heap.size)\/(e=.returned (.bool false)/\Jx (pre++[u]) W'):=by
    intro pre u W hj hu;subst hJ;obtain⟨Y,Z,S1,G1,hg,hr⟩:=hj;obtain⟨hlt,hue⟩:=zh.1 hu;rw[zd hlt,hue]at hr;simp only[z6,WK]at hr;split at hr
    case h_2=>cases hr
    rename_i s1 hfx;have hg1:=hg;rw[hGood]at hg1;obtain⟨g1,g2,g3,g4,g5⟩:=hg1;have hy:=run_yield (P:=C.P) (args:=#[u]) g4 (by rw[hrec];rfl);rw[hrec]at hy;refine⟨fn,_,x,y,hy,roundIn_of_wpIn (F:=Fence.wide) trivial ?_⟩;have hin:=(g1.step (dst:=some p) (u:=u) (.refl g1.inv) (Ls (hlit u (zD hu))) (fun d hd=>by cases hd;exact hpN)).inner;have htm:(#[p].zip #[u]).foldl (fun tmps (t,a)=>tmps.setIfInBounds t a) a.tmps=a.tmps.setIfInBounds p u:=by simp
    rw[ha1]at hin;rw[htm];refine ihx hox (Fence.wide.inRound l) 0 (.inr ⟨l,rfl⟩) (.inr hnx) W S1 (yP Y G1) Z G1 0 _ s1 .normal _ W _ (ka _) hfx ⟨S1,G1,hin⟩ fun a2 w2 hs2=>?_
    obtain⟨S2,G2,h2⟩:=hs2;obtain⟨hg2,hb2⟩:=JC hg h2.SG;have hl2:w2.heap[l]?=some (.loop (rec .ready none)):=by rw[hGood]at hg2;exact hg2.2.2.2.1
    have hbr:=run_beginRound (P:=C.P) hl2 (by rw[hrec]);have hrb:({rec .ready none with state:=.busy}:Loop)=rec .busy none:=by rw[hrec]
    rw[hrb]at hbr;refine⟨_,hbr,?_⟩;have hg3:=good_put .busy none hg2;have hal2:YN S2 G2 s1.Y l:=by rw[hGood]at hg2;exact hg2.2.2.1
    have h3:=h2.NX (sQ (.loop (rec .busy none)) (fun b=>b=l) rfl) (fun b hb=>hb ▸ hal2) (fun D hD e=>by have:=(h2.defers.at hD).2.1;rw[e,hl2]at this;cases this)
    cases hfy:qB C y s1 with
    |none=>rw[hfy]at hr;cases hr
    |some r2=>
     obtain⟨e2,s2⟩:=r2;rw[hfy]at hr;refine ihy hoy (Fence.wide.inRound l) 0 (.inr ⟨l,rfl⟩) (.inr hny) _ S2 (yP s1.Y G2) s1.Z G2 0 s1 s2 e2 a2 _ _ (ka _) hfy ⟨S2,G2,h3⟩ fun a4 w4 hs4=>?_
     obtain⟨S4,G4,h4⟩:=hs4;obtain⟨hg4,hb4⟩:=JC hg3 h4.SG;have hl4:w4.heap[l]?=some (.loop (rec .busy none)):=by rw[hGood]at hg4;exact hg4.2.2.2.1
     have hbb:∀b,B b->w4.heap[b]?=W.heap[b]?:=fun b hb=>(hb4 b hb).trans ((zbx (k:=b) (r:=l) (fun e=>hlB (by rw[<-e];exact hb))).trans (hb2 b hb))
     have hsz:W.heap.size<=w4.heap.size:=by have q1:=h2.fr.size;have q2:=h4.fr.size;rw[World.putObj_size]at q2;exact zA q1 q2
     cases e2 with
     |normal=>
      have he:=run_endRound (P:=C.P) none hl4;have hrr:({rec .busy none with state:=if(none:Option Code).isNone then .ready else .done,pending:=none}:Loop)=rec .ready none:=by rw[hrec];rfl
      rw[hrr]at he;refine⟨_,_,he,.inl ⟨rfl,⟨s2.Y,s2.Z,S4,G4,good_put .ready none hg4,by simpa using hr⟩,fun b hb=>(zbx (k:=b) (r:=l) (fun e=>hlB (by rw[<-e];exact hb))).trans (hbb b hb),by simpa using hsz⟩⟩
     |ret=>
      have he:=run_endRound (P:=C.P) (some .ret) hl4;have hrr:({rec .busy none with state:=if(some Code.ret:Option Code).isNone then .ready else .done,pending:=some .ret}:Loop)=rec .done (some .ret):=by rw[hrec];rfl
      rw[hrr]at he;simp only at hr;injection hr with hr
      injection hr with r1 hr;injection hr with r2 r3;subst r1;subst r2;subst r3;refine⟨_,_,he,.inr ⟨rfl,?_⟩⟩;rw[hJx];exact⟨.ret,S4,G4,good_put .done (some .ret) hg4,.inl ⟨rfl,rfl⟩⟩
     |exit i=>
      have he:=run_endRound (P:=C.P) (some (.exit i)) hl4;have hrr:({rec .busy none with state:=if(some (Code.exit i):Option Code).isNone then .ready else .done,pending:=some (.exit i)}:Loop)=rec .done (some (.exit i)):=by rw[hrec];rfl
      rw[hrr]at he;simp only at hr;injection hr with hr
      injection hr with r1 hr;injection hr with r2 r3;subst r1;subst r2;subst r3;refine⟨_,_,he,.inr ⟨rfl,?_⟩⟩;rw[hJx];exact⟨.exit i,S4,G4,good_put .done (some (.exit i)) hg4,.inr ⟨i,rfl,rfl⟩⟩
     |_=>cases hr
   have hcl:=hcalls 0 l J Jx (fun pre W W' hj fr=>by
     subst hJ;obtain⟨Y,Z,S1,G1,hg,hr⟩:=hj;exact⟨Y,Z,S1,G1,good_frame hg fr,hr⟩) (fun pre W W' hj fr=>by
     subst hJx;obtain⟨c,S1,G1,hg,hr⟩:=hj;exact⟨c,S1,G1,good_frame hg fr,hr⟩) (fun pre W hj=>by
     subst hJ;obtain⟨Y,Z,S1,G1,hg,hr⟩:=hj;rw[hGood]at hg;exact hg.1.inv.bF.mono fun b hb=>⟨hg.1.inv.st b hb,rfl⟩) hround W1 hJ0 (fun b hb=>hold1 b (hBlt b hb)) (by omega)
   refine fk.2 ((fk.1 hcl).mono ?_);rintro e W2 ⟨⟨v,rfl⟩,hj|⟨pre,hj⟩⟩
   ·rw[hJ]at hj;obtain⟨Y,Z,S1,G1,hg,hr⟩:=hj;rw[zp]at hr;simp only[NW,WK]at hr;injection hr with hr
    injection hr with r1 hr;injection hr with r2 r3;subst r1;subst r2;subst r3;have hl2:W2.heap[l]?=some (.loop (rec .ready none)):=by rw[hGood]at hg;exact hg.2.2.2.1
    have he:=run_endLoop (P:=C.P) hl2 (by rw[hrec];simp);have hrr:({rec .ready none with state:=.exhausted}:Loop)=rec .exhausted none:=by rw[hrec]
    have hrp:(rec .ready none).pending=none:=by rw[hrec]
    rw[hrr,hrp]at he;have hg':=good_put .exhausted none hg;rw[hGood]at hg';have hq:=hQ a1 _ ⟨S1,G1,hg'.1⟩;rw[ha1]at hq;exact⟨none,_,he,hq⟩
   ·rw[hJx]at hj;obtain⟨c,S1,G1,hg,hc⟩:=hj;have hl2:W2.heap[l]?=some (.loop (rec .done (some c))):=by rw[hGood]at hg;exact hg.2.2.2.1
    have he:=run_endLoop (P:=C.P) hl2 (by rw[hrec];simp);have hrr:({rec .done (some c)with state:=.exhausted}:Loop)=rec .exhausted (some c):=by rw[hrec]
    have hrp:(rec .done (some c)).pending=some c:=by rw[hrec]
    rw[hrr,hrp]at he;have hg':=good_put .exhausted (some c) hg;rw[hGood]at hg';have hq:=hQ a1 _ ⟨S1,G1,hg'.1⟩;rw[ha1]at hq;refine⟨some c,_,he,?_⟩;rcases hc with⟨rfl,rfl⟩|⟨i,rfl,rfl⟩
    ·exact wpIn_ret hq
    ·exact wpIn_exit hq
 |exit id=>
  intro _ F n hF _ w0 S0 L Z0 G0 n0 st st' e a w Q _ h hs hQ;simp only[qB]at h;injection h with h
  injection h with e1 e2;subst e1;subst e2;exact wpIn_exit (hQ a w hs)
 |scope b _=>intro _ F n hF _ w0 S0 L Z0 G0 n0 st st' e a w Q _ h;simp[qB]at h
 |label l=>
  intro _ F n hF _ w0 S0 L Z0 G0 n0 st st' e a w Q _ h hs hQ;simp only[qB]at h;injection h with h
  injection h with e1 e2;subst e1;subst e2;exact wpIn_label (hQ a w hs)
 |goto l=>intro _ F n hF _ w0 S0 L Z0 G0 n0 st st' e a w Q _ h;simp[qB]at h
 |ret=>
  intro _ F n hF _ w0 S0 L Z0 G0 n0 st st' e a w Q _ h hs hQ;simp only[qB]at h;injection h with h
  injection h with e1 e2;subst e1;subst e2;exact wpIn_ret (hQ a w hs)
 |refuse why=>intro _ F n hF _ w0 S0 L Z0 G0 n0 st st' e a w Q _ h;simp[qB]at h
end
end Go.AM
