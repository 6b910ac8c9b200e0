/- Lemmas. -/
import Derived.Orders
import Derived.LoopNIn
import Derived.RangeFuncRecord
import Derived.RangeFuncSeq
import Derived.Test.YtjnfibncnabkmaaGreatDoorG2
set_option maxRecDepth 8000
open Go Proofs Proofs.YtjnfibncnabkmaaGreatDoor Proofs.Tryz RowKit AM SpanLaw Q Zz
namespace Go.AM
def xJ(pf:FuncId->Bool):Op->Nat
 | .move _|.assign _|.pick ..|.build ..|.binOp ..|.unOp ..|.convert ..|.makeFunc ..|.fieldAddr ..|.field ..|.index ..|.extract ..|.nilCheck _=>0
 | .load ..|.indexAddr ..|.slice ..=>1
 | .call c=>match c.callee with
  | .builtin .len|.builtin .min|.builtin .max=>0
  | .value (.func g)=>if pf g then 1 else 2
  |_=>2
 |_=>2
def QQ(a:AM.Spec):Prop:=∀args Y Z r c d,a args Y Z=some (r,c,d)->(c=Y/\d=Z)/\∀b,Y Z=none->a args (qf Y Z b) (Z+1)=some (r,qf Y Z b,Z+1)
section
variable{C:Ctx}{pf:FuncId->Bool}
theorem KM{α:Type}{o:Option O}{Y b:α}{Z c:Nat}{x:O}(h:(o.map fun y=>(y,Y,Z))=some (x,b,c)):o=some x/\b=Y/\c=Z:=by obtain⟨y,d,a⟩:=zU h;injection a with e a;injection a with f g;subst e;subst f;subst g;exact⟨d,rfl,rfl⟩
theorem Nv(k:∀g a,pf g=true->C.Γ g=some a->QQ a){op:Op}(e:xJ pf op<=1){M:Nat->O}{Y i:Hp}{Z j:Nat}{x:O}(h:qb C (get M) Y Z op=some (x,i,j)):i=Y/\j=Z:=by
 have d:∀{y:O},some (y,Y,Z)=some (x,i,j)->i=Y/\j=Z:=by
  intro y h;injection h with h
  injection h with _ h;injection h with p q;exact⟨p.symm,q.symm⟩
 cases op<;>simp only[xJ]at e<;>(try omega)<;>simp only[qb]at h
 case move=>exact(KM h).2
 case assign=>exact(KM h).2
 case pick=>split at h<;>first|exact(KM h).2|cases h
 case build=>split at h<;>first|exact(KM h).2|cases h
 case load=>split at h<;>first|exact(KM h).2|cases h
 case nilCheck=>split at h<;>first|exact d h|cases h
 case binOp=>split at h<;>first|exact(KM h).2|cases h
 case unOp=>split at h<;>first|exact(KM h).2|cases h
 case convert=>split at h<;>first|exact(KM h).2|cases h
 case makeFunc=>split at h<;>first|exact d h|cases h
 case slice t x v w s=>cases s<;>simp only at h<;>first|(split at h<;>first|exact(KM h).2|cases h)|cases h
 case fieldAddr=>split at h<;>first|exact(KM h).2|cases h
 case field=>split at h<;>first|exact(KM h).2|cases h
 case indexAddr=>split at h<;>first|exact(KM h).2|cases h
 case index=>split at h<;>first|exact(KM h).2|cases h
 case extract=>split at h<;>first|exact(KM h).2|cases h
 case call c=>
  unfold xH at h;split at h
  ·rename_i xs _;cases l:c.callee with
   |invoke r m=>rw[l]at h;cases h
   |builtin b=>
    rw[l]at e h;cases b<;>simp at e<;>simp only[yG]at h
    ·split at h<;>first|exact(KM h).2|cases h
    ·exact(KM h).2
    ·exact(KM h).2
   |value f=>
    rw[l]at e h;cases f<;>simp at e;rename_i n;simp only[jO,get]at h;split at h
    ·rename_i a u;exact(k n a (by by_cases o:pf n=true;exact o;simp[o]at e) u _ _ _ _ _ _ h).1
    ·cases h
  ·cases h
theorem IC{op:Op}(d:xJ pf op=0){e:Operand->Option O}(Y Y2:Hp)(Z g:Nat):qb C e Y2 g op=(qb C e Y Z op).map fun r=>(r.1,Y2,g):=by
 cases op<;>simp only[xJ]at d<;>(try (exact absurd d (by omega)))<;>simp only[qb]
 case move x=>cases e x<;>rfl
 case assign x=>cases e x<;>rfl
 case pick c a b=>split<;>simp[jv,jG]
 case build t i=>split<;>simp[jv,jG]
 case nilCheck x=>split<;>rfl
 case binOp=>split<;>simp[jv,jG]
 case unOp=>split<;>simp[jv,jG]
 case convert=>split<;>simp[jv,jG]
 case makeFunc=>split<;>rfl
 case fieldAddr=>split<;>simp[jv,jG]
 case field=>split<;>simp[jv,jG]
 case index=>split<;>simp[jv,jG]
 case extract=>split<;>simp[jv,jG]
 case call c=>
  unfold xH;cases yB (c.args.toList.map e)with
  |none=>rfl
  |some xs=>
   simp only;cases h:c.callee with
   |value f=>rw[h]at d;cases f<;>simp at d;split at d<;>omega
   |invoke r m=>rfl
   |builtin b=>
    rw[h]at d;cases b<;>simp at d<;>simp only[yG]
    ·split<;>simp[jv,jG]
    ·simp[jv,jG]
    ·simp[jv,jG]
theorem zco{op:Op}(c:xJ pf op=0){b:Operand->Option O}{Y d:Hp}{Z e:Nat}{x:O}(h:qb C b Y Z op=some (x,d,e))(Y2:Hp)(a:Nat):qb C b Y2 a op=some (x,Y2,a):=by rw[IC c Y Y2 Z a,h];rfl
theorem KN{b a:Operand->Option O}:∀{l:List (Nat×Operand)},(∀p∈l,b p.2=a p.2)->vn b l=vn a l
 |[],_=>rfl
 |(i,x)::l,h=>by simp only[vn];rw[h (i,x) (by simp),KN (l:=l) fun p Y=>h p (by simp[Y])]
theorem tm{o e:Operand->Option O}{op:Op}{Y:Hp}{Z:Nat}(h:∀x∈op.operands.toList,o x=e x):qb C o Y Z op=qb C e Y Z op:=by
 cases op<;>simp only[Op.operands]at h<;>simp only[qb]
 case move x=>rw[h x (by simp)]
 case assign x=>rw[h x (by simp)]
 case pick c a b=>rw[h c (by simp),h a (by simp),h b (by simp)]
 case box t x=>rw[h x (by simp)]
 case build t q=>rw[KN (l:=q.toList) fun p Y=>h p.2 (by simp only[qq];exact⟨p,Y,rfl⟩)]
 case buildSlice t n q=>rw[KN (l:=q.toList) fun p Y=>h p.2 (by simp only[qq];exact⟨p,Y,rfl⟩)]
 case load t x=>rw[h x (by simp)]
 case store t a x=>rw[h a (by simp),h x (by simp)]
 case nilCheck x=>rw[h x (by simp)]
 case binOp op t x y E=>rw[h x (by simp),h y (by simp)]
 case unOp op t x=>rw[h x (by simp)]
 case convert s d x=>rw[h x (by simp)]
 case makeFunc f a b=>rw[ziN (g:=e) fun x j=>h x (by simp at j⊢;exact .inl j),ziN (l:=b.toList) (g:=e) fun x j=>h x (by simp at j⊢;exact .inr j)]
 case makeSlice t l c=>rw[h l (by simp),h c (by simp)]
 case slice t x u v A=>
  cases A with
  |some m=>rfl
  |none=>
   simp only;rw[h x (by simp)];have w:u.map o=u.map e:=by cases u with
    |none=>rfl
    |some y=>simp only[zE];rw[h y (by simp)]
   have z:v.map o=v.map e:=by cases v with
    |none=>rfl
    |some y=>simp only[zE];rw[h y (by simp)]
   rw[w,z]
 case fieldAddr t x f=>rw[h x (by simp)]
 case field t x f=>rw[h x (by simp)]
 case indexAddr t x i=>rw[h x (by simp),h i (by simp)]
 case index t x i=>rw[h x (by simp),h i (by simp)]
 case extract x i=>rw[h x (by simp)]
 case makeMap t r=>cases r<;>rfl
 case lookup t x i F=>rw[h x (by simp),h i (by simp)]
 case mapUpdate t m k x=>rw[h m (by simp),h k (by simp),h x (by simp)]
 case insert t m k x=>rw[h m (by simp),h k (by simp),h x (by simp)]
 case call c=>
  unfold xH;have B:c.args.toList.map o=c.args.toList.map e:=ziN fun x j=>h x (by simp only[Call.operands,Wm,qO];exact .inr j)
  rw[B];cases yB (c.args.toList.map e)with
  |none=>rfl
  |some xs=>
   simp only;cases D:c.callee with
   |value f=>simp only;rw[h f (by simp[Call.operands,D])]
   |invoke r m=>rfl
   |builtin b=>rfl
def kb(C:Ctx)(a:Array Oper)(o:Oper)(M:Nat->O)(Y:Hp)(Z:Nat):Option (O×Hp×Nat):=
 if Region.wanted o (QV a M)=true then qb C (get M) Y Z o.op else some (.wL [],Y,Z)
theorem jc(a:Array Oper)(o:Oper)(st:St):y9 C a o st=(kb C a o st.M st.Y st.Z).map fun r=>⟨put st.M o.dst r.1,r.2.1,r.2.2⟩:=by
 unfold y9 kb;split
 ·cases qb C (get st.M) st.Y st.Z o.op<;>rfl
 ·rfl
theorem QW{a:Array Oper}{o:Oper}{M c:Nat->O}{Y:Hp}{Z:Nat}(h:∀t,t∈o.looksAt a->M t=c t):kb C a o M Y Z=kb C a o c Y Z:=by
 have e:Region.wanted o (QV a M)=Region.wanted o (QV a c):=by
  unfold Region.wanted;split
  ·rfl
  ·rename_i j b i;have:QV a M j=QV a c j:=by
    unfold QV;split
    ·rename_i d hd;rw[h d (by simp[Oper.looksAt,i,hd])]
    ·rfl
   rw[this]
 unfold kb;rw[e];split
 ·refine tm fun x k=>?_
  cases x with
  |tmp t=>simp only[get];rw[h t];simp only[Oper.looksAt,qO,List.mem_filterMap];exact .inl ⟨.tmp t,k,rfl⟩
  |const x=>rfl
  |global g=>rfl
  |func f=>rfl
 ·rfl
theorem xj{M:Nat->O}{d:Option Tmp}{x:O}{t:Nat}(h:∀e,d=some e->e≠t):put M d x t=M t:=by
 cases d with
 |none=>rfl
 |some e=>exact zc _ _ _ _ fun a=>h e rfl a.symm
theorem lR{M:Nat->O}{d e:Option Tmp}{x y:O}(h:∀k,d=some k->e≠some k):put (put M d x) e y=put (put M e y) d x:=by
 cases d with
 |none=>rfl
 |some k=>
  cases e with
  |none=>rfl
  |some m=>
   have a:m≠k:=fun b=>h k rfl (by rw[b])
   funext i;simp only[put,qf];by_cases c:i=m<;>by_cases f:i=k<;>simp_all
def Nw(pf:FuncId->Bool)(c:Array Oper)(a b:Oper):Bool:=
 a.apart c b&&(xJ pf a.op==0||xJ pf b.op==0||(decide (xJ pf a.op<=1)&&decide (xJ pf b.op<=1)))
theorem bw{b:Array Oper}{o:Oper}{M:Nat->O}{Y d:Hp}{Z f:Nat}{x:O}(g:xJ pf o.op=0)(h:kb C b o M Y Z=some (x,d,f))(Y2:Hp)(a:Nat):kb C b o M Y2 a=some (x,Y2,a):=by
 unfold kb at h⊢;split at h
 ·rename_i c;rw[zg c];exact zco g h Y2 a
 ·rename_i c;rw[zf c];injection h with h
  injection h with e _;subst e;rfl
theorem YB(b:∀g a,pf g=true->C.Γ g=some a->QQ a){c:Array Oper}{o:Oper}{M:Nat->O}{Y d:Hp}{Z e:Nat}{x:O}(f:xJ pf o.op<=1)(h:kb C c o M Y Z=some (x,d,e)):d=Y/\e=Z:=by
 unfold kb at h;split at h
 ·exact Nv b f h
 ·injection h with h;injection h with _ h;injection h with i j;exact⟨i.symm,j.symm⟩
theorem Be{c:Array Oper}{a b:Oper}(j:xJ pf a.op=0)(p:∀d,a.dst=some d->d ∉ b.looksAt c)(q:∀d,a.dst=some d->b.dst≠some d)(s:∀d,b.dst=some d->d ∉ a.looksAt c)(st:St) :
  (y9 C c a st).bind (y9 C c b)=(y9 C c b st).bind (y9 C c a):=by
 have u:∀x Y Z,kb C c b (put st.M a.dst x) Y Z=kb C c b st.M Y Z:=fun x Y Z=>QW fun t k=>xj fun e l g=>p e l (g ▸ k)
 have o:∀x Y Z,kb C c a (put st.M b.dst x) Y Z=kb C c a st.M Y Z:=fun x Y Z=>QW fun t k=>xj fun e l g=>s e l (g ▸ k)
 have i:∀x y,put (put st.M a.dst x) b.dst y=put (put st.M b.dst y) a.dst x:=fun x y=>lR q
 rw[jc c a st,jc c b st];cases f:kb C c a st.M st.Y st.Z with
 |none=>
  cases m:kb C c b st.M st.Y st.Z with
  |none=>rfl
  |some r=>
   obtain⟨y,Y2,n⟩:=r;simp only[xF,iR,zE,zW];rw[jc];simp only[o];cases v:kb C c a st.M Y2 n with
   |none=>rfl
   |some w=>obtain⟨x,z,D⟩:=w;rw[bw j v st.Y st.Z]at f;cases f
 |some r=>
  obtain⟨x,Y1,n1⟩:=r;have h:=bw j f st.Y st.Z;rw[f]at h;injection h with h;injection h with _ h;injection h with A B;subst A;subst B;simp only[zE,zW];rw[jc];simp only[u];cases m:kb C c b st.M st.Y st.Z with
  |none=>rfl
  |some r=>obtain⟨y,Y2,n⟩:=r;simp only[zE,zW];rw[jc];simp only[o,bw j f Y2 n,zE,i]
theorem ID(i:∀g f,pf g=true->C.Γ g=some f->QQ f){c:Array Oper}{a b:Oper}(h:Nw pf c a b=true)(st:St) :
  (y9 C c a st).bind (y9 C c b)=(y9 C c b st).bind (y9 C c a):=by
 simp only[Nw,zD]at h;obtain⟨o,m⟩:=h;obtain⟨p,q,s⟩:=Oper.apart_spec o;simp only[qT,yI,zD,q5]at m;rcases m with(h|h)|⟨A,w⟩
 ·exact Be h p q s st
 ·exact(Be h s (fun d hd B=>q d B hd) p st).symm
 ·have D:∀x Y Z,kb C c b (put st.M a.dst x) Y Z=kb C c b st.M Y Z:=fun x Y Z=>QW fun t u=>xj fun e v j=>p e v (j ▸ u)
  have z:∀x Y Z,kb C c a (put st.M b.dst x) Y Z=kb C c a st.M Y Z:=fun x Y Z=>QW fun t u=>xj fun e v j=>s e v (j ▸ u)
  have n:∀x y,put (put st.M a.dst x) b.dst y=put (put st.M b.dst y) a.dst x:=fun x y=>lR q
  rw[jc c a st,jc c b st];cases k:kb C c a st.M st.Y st.Z with
  |none=>
   cases l:kb C c b st.M st.Y st.Z with
   |none=>rfl
   |some r=>obtain⟨y,Y2,E⟩:=r;obtain⟨rfl,rfl⟩:=YB i w l;simp only[xF,iR,zE,zW];rw[jc];simp only[z,k,xF]
  |some r=>
   obtain⟨x,Y1,n1⟩:=r;obtain⟨rfl,rfl⟩:=YB i A k;simp only[zE,zW];rw[jc];simp only[D];cases l:kb C c b st.M st.Y st.Z with
   |none=>rfl
   |some r=>obtain⟨y,Y2,E⟩:=r;obtain⟨rfl,rfl⟩:=YB i w l;simp only[zE,zW];rw[jc];simp only[z,k,zE,n]
def ko(C:Ctx)(a:Array Oper):List Nat->St->Option St
 |[],st=>some st
 |i::l,st=>match a[i]? with
  |none=>ko C a l st
  |some o=>(y9 C a o st).bind (ko C a l)
def lS(acc:List Nat)(o:Oper):Nat:=o.after.toList.foldl (fun s e=>if Region.binds .any e then s||| 2 ^ e.on||| acc.getD e.on 0 else s) 0
def tn(c:Oper->Oper->Bool)(b:Array Oper):List Oper->Nat->List Nat->Bool
 |[],_,_=>true
 |o::l,i,a=>
  o.after.toList.all (fun e=>!Region.binds .any e||decide (e.on<i)) &&
  (List.range i).all (fun j=>(lS a o).testBit j||(match b[j]? with|some p=>c p o|none=>false)) &&
  tn c b l (i+1) (a++[lS a o])
def bz(a:Array Oper)(L:Nat->Prop):Prop:=∀k o,L k->a[k]?=some o->∀e∈o.after.toList,Region.binds .any e=true->L e.on
def rq(L:Nat->Prop)(o:Oper):Prop:=∀e∈o.after.toList,Region.binds .any e=true->L e.on
theorem ru(acc:List Nat)(j:Nat):∀(l:List Edge) (s:Nat),(l.foldl (fun s e=>if Region.binds .any e then s||| 2 ^ e.on||| acc.getD e.on 0 else s) s).testBit j=true ->
  s.testBit j=true\/∃e∈l,Region.binds .any e=true/\(j=e.on\/(acc.getD e.on 0).testBit j=true)
 |[],s,h=>.inl h
 |e::l,s,h=>by
  simp only[ju]at h;rcases ru acc j l _ h with h1|⟨c,h1,d,f⟩
  ·split at h1
   ·rename_i a;simp only[Nat.testBit_or,qT]at h1;rcases h1 with(h1|h1)|h1
    ·exact .inl h1
    ·refine .inr ⟨e,by simp,a,.inl ?_⟩;by_cases b:j=e.on
     ·exact b
     ·rw[Nat.testBit_two_pow_of_ne (fun h=>b h.symm)]at h1;cases h1
    ·exact .inr ⟨e,by simp,a,.inr h1⟩
   ·exact .inl h1
  ·exact .inr ⟨c,by simp[h1],d,f⟩
def eJ(a:Array Oper)(b:List Nat):Prop:=∀(k m:Nat),b[k]?=some m->∀o,a[k]?=some o->∀L,bz a L->rq L o->∀j,m.testBit j=true->L j
theorem X1{a:Array Oper}{b:List Nat}(n:eJ a b){o:Oper}(L:Nat->Prop)(k:bz a L)(Y:rq L o)(p:∀e∈o.after.toList,Region.binds .any e=true->e.on<a.size)(j:Nat)(h:(lS b o).testBit j=true):L j:=by
 rcases ru b j _ 0 h with g|⟨e,g,l,c⟩
 ·simp at g
 ·have d:=Y e g l;rcases c with rfl|c
  ·exact d
  ·cases i:b[e.on]? with
   |none=>rw[Kz,i]at c;simp at c
   |some m=>rw[Kz,i]at c;have f:=p e g l;exact n e.on m i a[e.on] (by simp[f]) L k (k e.on _ d (by simp[f])) j c
theorem gq{x:Oper->Oper->Bool}{a:Array Oper}:∀{l:List Oper} {i:Nat} {b:List Nat},tn x a l i b=true->b.length=i->(∀k,l[k]?=a[i+k]?)->eJ a b ->
  ∀k o,l[k]?=some o->(∀e∈o.after.toList,Region.binds .any e=true->e.on<i+k)/\∀j,j<i+k->(∀L,bz a L->rq L o->L j)\/∃p,a[j]?=some p/\x p o=true
 |[],i,b,_,_,_,_,k,o,q=>by simp at q
 |o'::l,i,b,h,y,r,z,k,o,q=>by
  simp only[tn,zD,qB,qT,QF,q5,xd]at h;obtain⟨⟨B,C⟩,D⟩:=h;have s:a[i]?=some o':=by have:=r 0;simpa using this.symm
  have F:i<a.size:=(z6.1 s).1;have A:∀e∈o'.after.toList,Region.binds .any e=true->e.on<i:=fun e u d=>by
   rcases B e u with h|h
   ·rw[d]at h;cases h
   ·exact h
  have t:∀L,bz a L->rq L o'->∀j,(lS b o').testBit j=true->L j:=fun L g Y j n=>X1 z L g Y (fun e u d=>by have:=A e u d;omega) j n
  cases k with
  |zero=>
   simp at q;subst q;refine⟨by simpa using A,fun j n=>?_⟩;rcases C j (by simpa using n)with h|h
   ·exact .inl fun L g Y=>t L g Y j h
   ·split at h
    ·rename_i p Y;exact .inr ⟨p,Y,h⟩
    ·cases h
  |succ k=>
   have v:eJ a (b++[lS b o']):=by
    intro k' m f E c L g Y j n;by_cases w:k'<b.length
    ·rw[qC w]at f;exact z k' m f E c L g Y j n
    ·rw[qo (by omega)]at f;have:k'=i:=by have:=(zj.1 f).1;simp at this;omega
     subst this;rw[y]at f;simp at f;subst f;rw[s]at c;injection c with c
     subst c;exact t L g Y j n
   have:=gq D (by simp[y]) (fun k'=>by have:=r (k'+1);simpa[lF,ek 1 k']using this) v k o (by simpa using q);rwa [show i+1+k=i+(k+1)from by omega]at this
def lT(b:Oper->Oper->Bool)(a:Array Oper):Bool:=tn b a a.toList 0 []
theorem gr{b:Oper->Oper->Bool}{a:Array Oper}(h:lT b a=true):∀i o,a[i]?=some o->(∀e∈o.after.toList,Region.binds .any e=true->e.on<i)/\∀j,j<i->(∀L,bz a L->rq L o->L j)\/∃p,a[j]?=some p/\b p o=true:=by intro i o c;have:=gq h rfl (by simp) (fun k m d=>by simp at d) i o (by simpa using c);simpa using this
structure AP (C:Ctx) (ops:Array Oper) (cm:Oper->Oper->Bool) (A:St->Prop):Prop where
 Ji:∀(i:Nat) (o:Oper) (st st':St),ops[i]?=some o->A st->y9 C ops o st=some st'->A st'
 comm:∀(i j:Nat) (a b:Oper) (st st':St),ops[i]?=some a->ops[j]?=some b->cm a b=true->A st->(y9 C ops a st).bind (y9 C ops b)=some st'->(y9 C ops b st).bind (y9 C ops a)=some st'
theorem aR{a:Array Oper}{s:Oper->Oper->Bool}{A:St->Prop}(l:AP C a s A){i:Nat}{o:Oper}(f:a[i]?=some o)(b:List Nat):∀(pre:List Nat) (st r:St),A st->(∀j∈pre,∃p,a[j]?=some p/\s p o=true) ->
  ko C a (pre++i::b) st=some r->ko C a (i::(pre++b)) st=some r
 |[],st,r,_,_,h=>h
 |j::pre,st,r,t,h,d=>by
  obtain⟨p,Y,m⟩:=h j (by simp);simp only[qU,ko,Y]at d;cases hs:y9 C a p st with
  |none=>rw[hs]at d;cases d
  |some c=>
   rw[hs,zW]at d;have e:=aR l f b pre c r (l.Ji j p st c Y t hs) (fun k v=>h k (by simp[v])) d;simp only[ko,f]at e;cases n:y9 C a o c with
   |none=>rw[n]at e;cases e
   |some q=>
    rw[n,zW]at e;have g:=l.comm j i p o st q Y f m t (by rw[hs,zW];exact n);simp only[ko,f,qU,Y];cases u:y9 C a o st with
    |none=>rw[u]at g;cases g
    |some w=>rw[u,zW]at g;rw[zW,g,zW];exact e
def Wb(a:AM.Spec):Prop:=∀args Y Z r b c,a args Y Z=some (r,b,c)->Z<=c/\∀id blk,id<Z->Y id=some blk->blk.arr=false->b id=some blk
def Bf(L:List Tmp):Op->Bool
 | .load _ (.tmp a)=>L.contains a
 | .indexAddr _ (.tmp a) _=>L.contains a
 |_=>false
def ixB(L:List Tmp):Op->Bool
 | .indexAddr _ (.tmp a) _=>L.contains a
 |_=>false
def lU(a:FuncId->Bool):Op->Bool
 | .call ⟨.value (.func g),_,_⟩=>a g
 | .call ⟨.builtin .append,_,_⟩=>true
 | .buildSlice _ _ _=>true
 | .alloc _=>true
 |_=>false
def zcp:Op->Bool
 | .store _ _ _=>true
 |_=>false
def lV(D:List (Tmp×Tmp)):Op->Op->Bool
 | .load _ (.tmp a),.store _ (.tmp b) _=>D.contains (a,b)
 |_,_=>false
def Tu(D:List (Tmp×Tmp))(L:List Tmp)(a:FuncId->Bool)(p o:Op):Bool:=lV D p o||(Bf L p&&lU a o)||(ixB L p&&zcp o)
def zbz(D:List (Tmp×Tmp))(L:List Tmp)(b:FuncId->Bool)(a:Array Oper)(p o:Oper):Bool:=
 p.apart a o&&o.apart a p&&p.guard.isNone&&o.guard.isNone&&(Tu D L b p.op o.op||Tu D L b o.op p.op)
def IE(L:List Tmp):Bool:=L.any fun s=>decide (zB<=s)
def X2(L:List Tmp):Op->Bool
 | .buildSlice _ _ a=>a.toList.all fun p=>match p.2 with
  | .tmp z=>L.contains (z+zB)
  |_=>false
 |_=>false
def cG:Op->Bool
 | .load _ (.tmp _)=>true
 | .indexAddr _ (.tmp _) _=>true
 |_=>false
def eK(pf:FuncId->Bool):Op->Bool
 | .call ⟨.value (.func g),_,_⟩=>pf g
 |_=>false
def Nx:Op->Bool
 | .alloc _=>true
 |_=>false
def Tv(pf:FuncId->Bool)(L:List Tmp)(a:Array Oper)(p o:Oper):Bool:=IE L&&p.apart a o&&p.guard.isNone&&o.guard.isNone&&(cG p.op||eK pf p.op)&&(X2 L o.op||Nx o.op)
def G8(pf:FuncId->Bool)(D:List (Tmp×Tmp))(L:List Tmp)(b:FuncId->Bool)(a:Array Oper)(p o:Oper):Bool:=Nw pf a p o||zbz D L b a p o||Tv pf L a p o
def topB(pf:FuncId->Bool)(o:Op):Bool:=decide (xJ pf o<=1)||match o with
 | .store _ _ _=>true
 | .call ⟨.builtin .append,_,_⟩=>true
 | .buildSlice _ _ _=>true
 | .alloc _=>true
 |_=>false
def EH(pf:FuncId->Bool)(L:List Tmp)(ops:Array Oper):Bool:=!IE L||ops.all fun o=>topB pf o.op&&L.all fun s=>decide (s<zB)||o.dst != some (s-zB)||(o.guard.isNone&&match o.op with
 | .move (.tmp b)=>L.contains (b+zB)
 | .build _ a=>a.toList.all fun p=>match p.2 with
  | .tmp z=>L.contains (z+zB)
  |_=>false
 |_=>false)
def tp(pf:FuncId->Bool)(D:List (Tmp×Tmp))(L:List Tmp)(a:FuncId->Bool)(ops:Array Oper):Bool:=(D.isEmpty&&L.isEmpty)||ops.all fun o=>D.all (fun p=>o.dst != some p.2&&(o.dst != some p.1||match o.op with
    | .fieldAddr _ (.tmp s) _=>D.contains (s,p.2)
    | .indexAddr _ (.tmp s) _=>D.contains (s,p.2)&&L.contains s
    | .move (.tmp s)=>D.contains (s,p.2)
    | .nilCheck (.tmp s)=>D.contains (s,p.2)
    |_=>false)) &&
 L.all (fun s=>o.dst != some s||match o.op with
  | .fieldAddr _ (.tmp b) _=>L.contains b
  | .indexAddr _ (.tmp b) _=>L.contains b
  |_=>false) &&
 (decide (xJ pf o.op<=1)||match o.op with
  | .store _ _ _=>true
  | .call ⟨.value (.func g),_,_⟩=>D.all (fun p=>L.contains p.2)&&a g
  | .call ⟨.builtin .append,_,_⟩=>D.all (fun p=>L.contains p.2)
  | .buildSlice _ _ _=>D.all (fun p=>L.contains p.2)
  | .alloc _=>D.all (fun p=>L.contains p.2)
  |_=>false)
def tq(pf:FuncId->Bool)(D:List (Tmp×Tmp))(L:List Tmp)(b:FuncId->Bool)(a:Array Oper):Bool:=EH pf L a&&tp pf D L b a
end
section
variable{C:Ctx}{pf:FuncId->Bool}
theorem VT{Y Y1:Hp}{x y:O}(h:qp Y x=some (y,Y1)){id:Nat}{b:Blk}(c:Y id=some b)(e:b.arr=false):Y1 id=some b:=by
 unfold qp at h;split at h
 ·split at h
  ·rename_i f a;split at h
   ·rename_i d;injection h with h
    injection h with _ h;subst h;rw[zc]
    ·exact c
    ·rintro rfl;rw[c]at a;injection a with a;subst a;rw[e]at d;cases d.1
   ·cases h
  ·cases h
 all_goals first
  |(injection h with h;injection h with _ h;subst h;exact c)
  |(split at h<;>first|(injection h with h;injection h with _ h;subst h;exact c)|cases h)
  |cases h
theorem Vu:∀{xs ys:zb} {Y Y1:Hp},qm Y xs=some (ys,Y1)->∀{id:Nat} {b:Blk},Y id=some b->b.arr=false->Y1 id=some b
 |[],ys,Y,Y1,h,id,b,a,c=>by simp only[qm]at h;injection h with h;injection h with _ h;subst h;exact a
 |x::l,ys,Y,Y1,h,id,b,a,c=>by
  simp only[qm]at h;split at h
  ·rename_i y Y2 d;split at h
   ·rename_i r e f;injection h with h;injection h with _ h;subst h
    exact Vu f (VT d a c) c
   ·cases h
  ·cases h
theorem JI{Y Y1:Hp}{x y:O}(h:zO Y x=some (y,Y1)){id:Nat}{b:Blk}(a:Y id=some b)(c:b.arr=false):Y1 id=some b:=by
 unfold zO at h;split at h
 ·split at h
  ·rename_i l e d;injection h with h;injection h with _ h;subst h
   exact Vu d a c
  ·cases h
 ·exact VT h a c
theorem IF{P:Program}{Y e:Hp}{t:TypeId}{p x:O}(h:ZY P Y t p x=some e){id:Nat}{b:Blk}(f:Y id=some b)(d:b.arr=false):∃g,e id=some g/\g.arr=false:=by
 unfold ZY at h;split at h
 ·rename_i id' i j;split at h
  ·rename_i o m;split at h
   ·rename_i y Y1 c;have k:Y1 id=some b:=by
     split at c
     ·exact JI c f d
     ·injection c with c;injection c with _ c;subst c;exact f
    split at h
    ·rename_i q n a _;split at h
     ·split at h
      ·injection h with h;subst h;by_cases l:id=id'
       ·subst l;rw[k]at a;injection a with a
        subst a;exact⟨_,wR _ _ _,d⟩
       ·exact⟨b,by rw[zc _ _ _ _ l];exact k,d⟩
      ·cases h
     ·cases h
    ·cases h
   ·cases h
  ·cases h
 ·cases h
theorem EI{P:Program}{Y a:Hp}{t:TypeId}{id i j:Nat}{x:O}{b:Blk}(h:ZY P Y t (.ref id i j) x=some a)(c:Y id=some b)(d:b.arr=false){k:Nat}(e:k≠id):a k=Y k:=by
 simp only[ZY,c,d]at h;simp only[zm,zQ]at h;split at h
 ·split at h
  ·split at h
   ·injection h with h;subst h;exact zc _ _ _ _ e
   ·cases h
  ·cases h
 ·cases h
theorem cH{a:Array Oper}{l c:Oper}(o:l.apart a c=true){st:St}(p:∀Y Z y d f,kb C a l st.M Y Z=some (y,d,f)->d=Y/\f=Z)
  (g:∀z d f,kb C a c st.M st.Y st.Z=some (z,d,f)->(kb C a l st.M d f).map (·.1)=(kb C a l st.M st.Y st.Z).map (·.1)) :
  (y9 C a l st).bind (y9 C a c)=(y9 C a c st).bind (y9 C a l):=by
 obtain⟨B,D,E⟩:=Oper.apart_spec o;have cs:∀y Y Z,kb C a c (put st.M l.dst y) Y Z=kb C a c st.M Y Z:=fun y Y Z=>QW fun u s=>xj fun e t h=>B e t (h ▸ s)
 have x:∀y Y Z,kb C a l (put st.M c.dst y) Y Z=kb C a l st.M Y Z:=fun y Y Z=>QW fun u s=>xj fun e t h=>E e t (h ▸ s)
 have i:∀y z,put (put st.M l.dst y) c.dst z=put (put st.M c.dst z) l.dst y:=fun y z=>lR D
 rw[jc a l st,jc a c st];cases v:kb C a c st.M st.Y st.Z with
 |none=>
  cases j:kb C a l st.M st.Y st.Z with
  |none=>rfl
  |some q=>obtain⟨y,Y1,w⟩:=q;obtain⟨rfl,rfl⟩:=p _ _ _ _ _ j;simp only[zE,xF,zW,iR];rw[jc];simp only[cs,v,xF]
 |some q=>
  obtain⟨z,d,f⟩:=q;have b:=g z d f v;cases j:kb C a l st.M st.Y st.Z with
  |none=>
   rw[j]at b;have F:kb C a l st.M d f=none:=by
    cases m:kb C a l st.M d f with
    |none=>rfl
    |some r=>rw[m]at b;cases b
   simp only[zE,xF,zW,iR];rw[jc];simp only[x,F,xF]
  |some q=>
   obtain⟨y,Y1,w⟩:=q;obtain⟨rfl,rfl⟩:=p _ _ _ _ _ j;rw[j]at b;obtain⟨n,k,A⟩:∃n,kb C a l st.M d f=some n/\n.1=y:=by
    cases m:kb C a l st.M d f with
    |none=>rw[m]at b;cases b
    |some r=>rw[m]at b;injection b with b;exact⟨r,rfl,b⟩
   obtain⟨H,Y2,G⟩:=n;simp only at A;subst A;obtain⟨rfl,rfl⟩:=p _ _ _ _ _ k;simp only[zE,zW];rw[jc,jc];simp only[cs,v,x,k,zE,i]
theorem j9{a:Array Oper}{o:Oper}(g:o.guard=none)(M:Nat->O)(Y:Hp)(Z:Nat):kb C a o M Y Z=qb C (get M) Y Z o.op:=by
 have w:Region.wanted o (QV a M)=true:=by unfold Region.wanted;rw[g]
 simp only[kb,w,zK]
theorem JJ{P:Program}{Y b:Hp}{t:TypeId}{p:O}(a:∀id o n,p≠.own id o n)(q:O):qS P b t p q=qS P Y t p q:=by
 cases q with
 |v y=>
  cases y with
  |int w i=>
   cases p with
   |own id o n=>exact absurd rfl (a id o n)
   |_=>
    simp only[qS];cases y2 P t with
    |none=>rfl
    |some e=>simp only;cases qY P e<;>rfl
  |_=>simp only[qS]
 |_=>simp only[qS]
theorem IG{L:List Tmp}{op:Op}(b:Bf L op=true){st:St}(g:Qh L st){e:Hp}{Z k:Nat}(l:∀id blk,id<st.Z->st.Y id=some blk->blk.arr=false->e id=some blk) :
  (qb C (get st.M) e k op).map (·.1)=(qb C (get st.M) st.Y Z op).map (·.1):=by
 unfold Bf at b;split at b
 ·rename_i t a;obtain⟨⟨c,d⟩,_⟩:=g a (by simpa using b);have:xn C.P e t (st.M a)=xn C.P st.Y t (st.M a):=by
   cases f:st.M a with
   |ref id i j=>obtain⟨m,blk,h,n⟩:=d id i j f;simp only[xn,l id blk m h n,h]
   |_=>rfl
  simp only[qb,get,this];cases xn C.P st.Y t (st.M a)<;>rfl
 ·rename_i t a i;obtain⟨⟨c,d⟩,_⟩:=g a (by simpa using b);have:∀q,qS C.P e t (st.M a) q=qS C.P st.Y t (st.M a) q:=by exact fun q=>JJ c q
  simp only[qb,show get st.M (.tmp a)=some (st.M a)from rfl];cases get st.M i with
  |none=>rfl
  |some q=>simp only[this];cases qS C.P st.Y t (st.M a) q<;>rfl
 ·cases b
theorem bA{op:Op}{M:Nat->O}{Y b:Hp}{Z c:Nat}{y:O}(d:(∃t a,op=.load t (.tmp a))\/∃t a i,op=.indexAddr t (.tmp a) i)(h:qb C (get M) Y Z op=some (y,b,c)):b=Y/\c=Z:=by
 rcases d with⟨t,a,rfl⟩|⟨t,a,i,rfl⟩
 ·simp only[qb,get]at h;exact(KM h).2
 ·simp only[qb,get]at h;split at h
  ·exact(KM h).2
  ·cases h
theorem Ny{L:List Tmp}{op:Op}(h:Bf L op=true):(∃t a,op=.load t (.tmp a))\/∃t a i,op=.indexAddr t (.tmp a) i:=by
 unfold Bf at h;split at h
 ·exact .inl ⟨_,_,rfl⟩
 ·exact .inr ⟨_,_,_,rfl⟩
 ·cases h
theorem Vv:∀{e a:List (Nat×O)} {Y Y1:Hp},zr Y e=some (a,Y1)->∀{id:Nat} {b:Blk},Y id=some b->b.arr=false->Y1 id=some b
 |[],a,Y,Y1,h,id,b,c,d=>by simp only[zr]at h;injection h with h;injection h with _ h;subst h;exact c
 |(i,x)::l,a,Y,Y1,h,id,b,c,d=>by
  simp only[zr]at h;split at h
  ·rename_i y Y2 f;split at h
   ·rename_i r g j;injection h with h;injection h with _ h;subst h
    exact Vv j (JI f c d) d
   ·cases h
  ·cases h
theorem Bg{P:Program}{Y g:Hp}{Z i:Nat}{t u:TypeId}{s x y:O}(h:jF P Y Z t u s x=some (y,g,i)):Z<=i/\∀id blk,id<Z->Y id=some blk->blk.arr=false->g id=some blk:=by
 unfold jF at h;split at h
 ·split at h
  ·split at h
   ·split at h
    ·split at h
     ·split at h
      ·injection h with h;injection h with _ h;injection h with d f;subst d;subst f;exact⟨zk _,fun _ _ _ c _=>c⟩
      ·injection h with h;injection h with _ h;injection h with d f;subst d;subst f;exact⟨by omega,fun id blk hid c _=>by rw[zc _ _ _ _ (by omega)];exact c⟩
     ·cases h
    ·split at h
     ·rename_i b a;split at h
      ·rename_i j;injection h with h;injection h with _ h;injection h with d f
       subst d;subst f;refine⟨by omega,fun id blk hid c k=>?_⟩;rw[zc _ _ _ _ (by omega),zc _ _ _ _ (fun e=>by
        subst e;rw[c]at a;injection a with a
        subst a;rw[k]at j;cases j.1)]
       exact c
      ·cases h
     ·cases h
    ·cases h
   ·cases h
  ·cases h
 ·cases h
theorem eL{t:TypeId}{M:Nat->O}{Y a:Hp}{Z c:Nat}{z:O}(h:qb C (get M) Y Z (.alloc t)=some (z,a,c)):∃b,a=qf Y Z b/\c=Z+1:=by
 simp only[qb]at h;split at h
 ·split at h
  ·injection h with h;injection h with _ h;injection h with d e;exact⟨_,d.symm,e.symm⟩
  ·cases h
 ·cases h
theorem lW{k:FuncId->Bool}(c:∀g a,k g=true->C.Γ g=some a->Wb a){op:Op}(b:lU k op=true){M:Nat->O}{Y l:Hp}{Z m:Nat}{z:O}(h:qb C (get M) Y Z op=some (z,l,m)) :
  Z<=m/\∀id blk,id<Z->Y id=some blk->blk.arr=false->l id=some blk:=by
 unfold lU at b;split at b
 ·rename_i g o ts;simp only[qb,xH]at h;split at h
  ·simp only[get,jO]at h;split at h
   ·rename_i a hs;exact c g a b hs _ _ _ _ _ _ h
   ·cases h
  ·cases h
 ·rename_i o ts;simp only[qb,xH]at h;split at h
  ·simp only[yG]at h;split at h
   ·exact Bg h
   ·cases h
  ·cases h
 ·rename_i t len d;simp only[qb]at h;split at h
  ·rename_i r p;unfold zs at h;split at h
   ·split at h
    ·rename_i n s u Y1 _ _ e;split at h
     ·split at h
      ·injection h with h;injection h with _ h;injection h with f i;subst f;subst i;refine⟨by omega,fun id blk hid j q=>?_⟩;rw[zc _ _ _ _ (by omega)];exact Vv e j q
      ·cases h
     ·cases h
    ·cases h
   ·cases h
  ·cases h
 ·rename_i t;obtain⟨v,f,i⟩:=eL h;subst f;subst i;refine⟨by omega,fun id blk hid j _=>?_⟩;rw[zc _ _ _ _ (by omega)];exact j
 ·cases b
theorem rv{I:FuncId->Bool}(B:∀g m,I g=true->C.Γ g=some m->Wb m){D:List (Tmp×Tmp)}{L:List Tmp}{d:Array Oper}{l c:Oper}(J:Tu D L I l.op c.op=true)(e:l.guard=none)(K:c.guard=none)(n:l.apart d c=true){st:St}(R:Qg D st)(N:Qh L st) :
  (y9 C d l st).bind (y9 C d c)=(y9 C d c st).bind (y9 C d l):=by
 simp only[Tu,qT,zD]at J;rcases J with(f|⟨s,E⟩)|⟨k,S⟩
 ·unfold lV at f;split at f
  ·rename_i t a t' b x u T;refine cH n (fun Y Z y o v h=>?_) (fun z o v h=>?_)
   ·rw[j9 e,u]at h;exact bA (.inl ⟨_,_,rfl⟩) h
   ·rw[j9 K,T]at h;rw[j9 e,j9 e,u];simp only[qb,get]at h;have r:xn C.P o t (st.M a)=xn C.P st.Y t (st.M a):=by
     cases F:st.M a with
     |ref id i j=>
      obtain⟨id',i',j',blk,U,G,W,w⟩:=R (a,b) (by simpa using f) id i j F;rw[U]at h;split at h
      ·rename_i p q Q X;simp only[zY]at Q;subst Q;obtain⟨h2,e1,A⟩:=zU h;injection A with _ A
       injection A with A _;subst A;simp only[xn,EI e1 W w G]
      ·cases h
     |_=>rfl
    simp only[qb,get,r];cases xn C.P st.Y t (st.M a)<;>rfl
  ·cases f
 ·refine cH n (fun Y Z y o v h=>?_) (fun z o v h=>?_)
  ·rw[j9 e]at h;exact bA (Ny s) h
  ·rw[j9 K]at h;rw[j9 e,j9 e];exact IG s N (lW B E h).2
 ·unfold ixB at k;split at k
  ·rename_i t a i u;refine cH n (fun Y Z y o v h=>?_) (fun z o v h=>?_)
   ·rw[j9 e,u]at h;exact bA (.inr ⟨_,_,_,rfl⟩) h
   ·rw[j9 e,j9 e,u];obtain⟨⟨H,_⟩,_⟩:=N a (by simpa using k);have:∀q,qS C.P o t (st.M a) q=qS C.P st.Y t (st.M a) q:=by exact fun q=>JJ H q
    simp only[qb,show get st.M (.tmp a)=some (st.M a)from rfl];cases get st.M i with
    |none=>rfl
    |some q=>simp only[this];cases qS C.P st.Y t (st.M a) q<;>rfl
  ·cases k
theorem VU{P:Program}{t:TypeId}{f:Nat}{p:O}{id i j:Nat}(h:jh P t f p=some (.ref id i j)):∃a b,p=.ref id a b:=by
 unfold jh at h;split at h
 ·split at h
  ·split at h
   ·cases h
   ·injection h with h;cases h
  ·cases h
 ·split at h
  ·split at h
   ·cases h
   ·injection h with h;injection h with c _ _;subst c;exact⟨_,_,rfl⟩
  ·cases h
 ·cases h
theorem lX{P:Program}{t:TypeId}{f:Nat}{p:O}{id o n:Nat}(h:jh P t f p=some (.own id o n)):False:=by
 unfold jh at h;split at h
 ·split at h
  ·split at h
   ·cases h
   ·injection h with h;cases h
  ·cases h
 ·split at h
  ·split at h
   ·cases h
   ·injection h with h;cases h
  ·cases h
 ·cases h
theorem VV{P:Program}{Y:Hp}{t:TypeId}{p q:O}{id i j:Nat}(h:qS P Y t p q=some (.ref id i j))(a:∀id o n,p≠.own id o n):∃b c,p=.ref id b c:=by
 unfold qS at h;split at h
 ·split at h
  ·split at h
   ·split at h
    ·obtain⟨z,_,e⟩:=zU h;cases e
    ·cases h
   ·exact absurd rfl (a _ _ _)
   ·cases h
  ·unfold x4 at h;split at h
   ·split at h
    ·split at h
     ·split at h
      ·injection h with h;cases h
      ·injection h with h;injection h with d _ _;subst d;exact⟨_,_,rfl⟩
      ·cases h
     ·cases h
    ·cases h
   ·cases h
 ·cases h
theorem lY{P:Program}{Y:Hp}{t:TypeId}{p q:O}{id o n:Nat}(h:qS P Y t p q=some (.own id o n)):False:=by
 unfold qS at h;split at h
 ·split at h
  ·split at h
   ·split at h
    ·obtain⟨z,_,e⟩:=zU h;cases e
    ·cases h
   ·split at h
    ·split at h
     ·injection h with h;cases h
     ·cases h
    ·cases h
   ·cases h
  ·unfold x4 at h;split at h
   ·split at h
    ·split at h
     ·split at h
      ·injection h with h;cases h
      ·injection h with h;cases h
      ·cases h
     ·cases h
    ·cases h
   ·cases h
 ·cases h
theorem lZ{x:O}(h:x.W5=true)(Y:Hp):qp Y x=some (x,Y):=by cases x<;>first|rfl|cases h
theorem l0:∀{cs:zb},cs.all O.W5=true->∀Y:Hp,qm Y cs=some (cs,Y)
 |[],_,_=>rfl
 |x::cs,h,Y=>by simp only[wZ,zD]at h;simp only[qm,lZ h.1,l0 h.2]
theorem Nz{x:O}(h:x.shut=true)(a:∀cs,x≠.agg cs):x.W5=true:=by cases x<;>first|exact absurd rfl (a _)|exact h
theorem NA{x:O}(h:x.shut=true)(Y:Hp):zO Y x=some (x,Y):=by
 by_cases a:∀cs,x≠.agg cs
 ·have b:=lZ (Nz h a) Y;unfold zO;split
  ·exact absurd rfl (a _)
  ·exact b
 ·have:∃cs,x=.agg cs:=Classical.byContradiction fun c=>a fun cs e=>c ⟨cs,e⟩
  obtain⟨cs,rfl⟩:=this;simp only[zO,l0 (cs:=cs) h]
theorem IH{x:O}(h:x.Y7=true)(a:∀cs,x≠.wL cs):x.shut=true:=by cases x<;>first|exact absurd rfl (a _)|exact h
theorem II{x y:O}(h:x.Y7=true){Y Y1:Hp}(a:zO Y x=some (y,Y1)):Y1=Y:=by
 by_cases b:∀cs,x≠.wL cs
 ·rw[NA (IH h b)]at a;injection a with a
  injection a with _ a;exact a.symm
 ·exfalso;apply b;rintro cs rfl;cases a
theorem l3:∀{b a:List (Nat×O)} {Y Y1:Hp},(∀p∈b,p.2.Y7=true)->zr Y b=some (a,Y1)->Y1=Y
 |[],a,Y,Y1,_,h=>by injection h with h;injection h with _ h;exact h.symm
 |(i,x)::l,a,Y,Y1,hs,h=>by
  simp only[zr]at h;split at h
  ·rename_i y Y2 c;split at h
   ·rename_i r d e;injection h with h;injection h with _ h;subst h
    rw[l3 (fun p Y=>hs p (by simp[Y])) e,II (hs (i,x) (by simp)) c]
   ·cases h
  ·cases h
theorem tt{x:O}(h:x.Y7=true)(a:x.cells.all O.ye=true):x.cells.all O.W5=true:=by
 cases x with
 |agg cs=>exact h
 |wL cs=>simp[O.cells,O.ye]at a
 |_=>simpa[O.cells,O.Y7,O.shut]using h
theorem Bh{v:Value}{p:O}(h:eF v=some p):p.W5=true:=by unfold eF at h;split at h<;>first|(injection h with h;subst h;rfl)|cases h
theorem cI:∀{l:List Value} {a:zb},vk l=some a->a.all O.W5=true
 |[],a,h=>by injection h with h;subst h;rfl
 |x::l,a,h=>by
  simp only[vk]at h;split at h
  ·rename_i p r b c;injection h with h
   subst h;rw[wZ,Bh b,cI c];rfl
  ·cases h
theorem l4{P:Program}{t:TypeId}{z:zb}(h:jK P t=some z):z.all O.W5=true:=by
 unfold jK at h;cases a:(P.info? t).bind (·.zero)with
 |none=>rw[a]at h;cases h
 |some q=>rw[a]at h;exact cI h
theorem aT:∀{xs cs:zb} {off:Nat},cs.all O.W5=true->xs.all O.W5=true->(yF cs off xs).all O.W5=true
 |[],cs,off,h,_=>h
 |x::xs,cs,off,h,a=>by
  simp only[wZ,zD]at a;simp only[yF];refine aT ?_ a.2;rw[qB]at h⊢;intro y b;rcases GM b with b|rfl
  ·exact h y b
  ·exact a.1
theorem bB{b:Nat->Option (Nat×Nat)}:∀{c:List (Nat×O)} {cs r:zb},cs.all O.W5=true->(∀p∈c,p.2.Y7=true)->qe b cs c=some r->r.all O.W5=true
 |[],cs,r,h,_,a=>by injection a with a;subst a;exact h
 |(i,x)::l,cs,r,h,Y,a=>by
  simp only[qe]at a;split at a
  ·split at a
   ·rename_i d;exact bB (aT h (tt (Y (i,x) (by simp)) d.2.2)) (fun p e=>Y p (by simp[e])) a
   ·cases a
  ·cases a
theorem Bi{P:Program}{t:TypeId}{c:List (Nat×O)}{y:O}(Y:∀p∈c,p.2.Y7=true)(h:zI P t c=some y):y.shut=true:=by
 unfold zI at h;split at h
 ·rename_i d z _ a;obtain⟨r,b,rfl⟩:=zU h;exact bB (l4 a) Y b
 ·rename_i z _ a;split at h
  ·split at h
   ·obtain⟨r,b,rfl⟩:=zU h;exact bB (l4 a) Y b
   ·cases h
  ·cases h
 ·cases h
theorem l5{b:Operand->Option O}:∀{l:List (Nat×Operand)} {a:List (Nat×O)},vn b l=some a->∀p∈a,∃q∈l,b q.2=some p.2
 |[],a,h,p,Y=>by injection h with h;subst h;cases Y
 |(i,x)::l,a,h,p,Y=>by
  simp only[vn]at h;split at h
  ·rename_i y r c d;injection h with h
   subst h;rcases zv.1 Y with rfl|Y
   ·exact⟨(i,x),by simp,c⟩
   ·obtain⟨q,f,e⟩:=l5 d p Y;exact⟨q,by simp[f],e⟩
  ·cases h
theorem G9{L:List Tmp}{st:St}(h:Qh L st){z:Tmp}(a:L.contains (z+zB)=true):(st.M z).Y7=true:=by have:=(h (z+zB) (by simpa using a)).2 (Nat.le_add_left _ _);simpa using this
theorem l6{L:List Tmp}{st:St}(h:Qh L st){a:List (Nat×Operand)}(Y:(a.all fun p=>match p.2 with|.tmp z=>L.contains (z+zB)|_=>false)=true){c:List (Nat×O)}(hs:vn (get st.M) a=some c):∀p∈c,p.2.Y7=true:=by
 intro p b;obtain⟨q,d,e⟩:=l5 hs p b;have:=qB.1 Y q d;split at this
 ·rename_i z f;rw[f]at e;simp only[get,zY]at e;rw[<-e];exact G9 h this
 ·cases this
theorem zcq{x:O}(h:x.shut=true):x.Y7=true:=by cases x<;>first|rfl|exact h
def bC(Y:Hp)(Z:Nat):Prop:=∀id b,Y id=some b->id<Z
theorem VW{Y Y1:Hp}{x y:O}(h:qp Y x=some (y,Y1)){id:Nat}{b:Blk}(a:Y1 id=some b):Y id=some b:=by
 unfold qp at h;split at h
 ·rename_i k off n;split at h
  ·rename_i d c;split at h
   ·injection h with h;injection h with _ h;subst h;by_cases e:id=k
    ·subst e;rw[wR]at a;cases a
    ·rwa [zc _ _ _ _ e]at a
   ·cases h
  ·cases h
 all_goals first
  |(injection h with h;injection h with _ h;subst h;exact a)
  |(split at h<;>first|(injection h with h;injection h with _ h;subst h;exact a)|cases h)
  |cases h
theorem Vw:∀{xs ys:zb} {Y Y1:Hp},qm Y xs=some (ys,Y1)->∀{id:Nat} {b:Blk},Y1 id=some b->Y id=some b
 |[],ys,Y,Y1,h,id,b,a=>by simp only[qm]at h;injection h with h;injection h with _ h;subst h;exact a
 |x::l,ys,Y,Y1,h,id,b,a=>by
  simp only[qm]at h;split at h
  ·rename_i y Y2 c;split at h
   ·rename_i r d e;injection h with h;injection h with _ h;subst h
    exact VW c (Vw e a)
   ·cases h
  ·cases h
theorem aV{Y Y1:Hp}{x y:O}(h:zO Y x=some (y,Y1)){id:Nat}{b:Blk}(a:Y1 id=some b):Y id=some b:=by
 unfold zO at h;split at h
 ·split at h
  ·rename_i l d c;injection h with h;injection h with _ h;subst h
   exact Vw c a
  ·cases h
 ·exact VW h a
theorem Vx:∀{d a:List (Nat×O)} {Y Y1:Hp},zr Y d=some (a,Y1)->∀{id:Nat} {b:Blk},Y1 id=some b->Y id=some b
 |[],a,Y,Y1,h,id,b,c=>by simp only[zr]at h;injection h with h;injection h with _ h;subst h;exact c
 |(i,x)::l,a,Y,Y1,h,id,b,c=>by
  simp only[zr]at h;split at h
  ·rename_i y Y2 e;split at h
   ·rename_i r f g;injection h with h;injection h with _ h;subst h
    exact aV e (Vx g c)
   ·cases h
  ·cases h
theorem tw{Y:Hp}{Z:Nat}(h:∀id b,Y id=some b->id<Z)(x:Blk):bC (qf Y Z (some x)) (Z+1):=by
 intro id b a;by_cases e:id=Z
 ·omega
 ·rw[zc _ _ _ _ e]at a;have:=h id b a;omega
theorem IJ{P:Program}{Y f:Hp}{t:TypeId}{p x:O}(h:ZY P Y t p x=some f){Z:Nat}(g:bC Y Z):bC f Z:=by
 unfold ZY at h;split at h
 ·rename_i k i j;split at h
  ·rename_i l d;split at h
   ·rename_i y Y1 a;have m:∀id b,Y1 id=some b->Y id=some b:=fun id b c=>by
     split at a
     ·exact aV a c
     ·injection a with a;injection a with _ a;subst a;exact c
    split at h
    ·split at h
     ·split at h
      ·injection h with h;subst h;intro id b c;by_cases e:id=k
       ·subst e;exact g id l d
       ·rw[zc _ _ _ _ e]at c;exact g id b (m id b c)
      ·cases h
     ·cases h
    ·cases h
   ·cases h
  ·cases h
 ·cases h
theorem EJ{P:Program}{Y f:Hp}{Z g:Nat}{t u:TypeId}{s x y:O}(h:jF P Y Z t u s x=some (y,f,g))(e:bC Y Z):bC f g:=by
 unfold jF at h;split at h
 ·split at h
  ·split at h
   ·split at h
    ·split at h
     ·split at h
      ·injection h with h;injection h with _ h;injection h with a c;subst a;subst c;exact e
      ·injection h with h;injection h with _ h;injection h with a c;subst a;subst c;exact tw e _
     ·cases h
    ·split at h
     ·rename_i k _ _ b i;split at h
      ·injection h with h;injection h with _ h;injection h with a c;subst a;subst c;refine tw (fun id j d=>?_) _;unfold qf at d;split at d
       ·cases d
       ·exact e id j d
      ·cases h
     ·cases h
    ·cases h
   ·cases h
  ·cases h
 ·cases h
theorem IK{P:Program}{Y c:Hp}{Z d:Nat}{t:TypeId}{len:Nat}{e:List (Nat×O)}{y:O}(h:zs P Y Z t len e=some (y,c,d))(f:bC Y Z):bC c d:=by
 unfold zs at h;split at h
 ·split at h
  ·rename_i n k l Y1 _ _ a;split at h
   ·split at h
    ·injection h with h;injection h with _ h;injection h with g i;subst g;subst i;exact tw (fun id b j=>f id b (Vx a j)) _
    ·cases h
   ·cases h
  ·cases h
 ·cases h
theorem IL(f:∀g a,pf g=true->C.Γ g=some a->QQ a){op:Op}(c:topB pf op=true){M:Nat->O}{Y k:Hp}{Z l:Nat}{y:O}(h:qb C (get M) Y Z op=some (y,k,l))(e:bC Y Z):bC k l:=by
 simp only[topB,qT,q5]at c;rcases c with c|c
 ·obtain⟨rfl,rfl⟩:=Nv f c h;exact e
 ·split at c
  ·simp only[qb]at h;split at h
   ·obtain⟨n,i,d⟩:=zU h;injection d with _ d;injection d with d m;subst d;subst m;exact IJ i e
   ·cases h
  ·simp only[qb,xH]at h;split at h
   ·simp only[yG]at h;split at h
    ·exact EJ h e
    ·cases h
   ·cases h
  ·simp only[qb]at h;split at h
   ·exact IK h e
   ·cases h
  ·obtain⟨o,i,d⟩:=eL h;subst i;subst d;intro id b j;unfold qf at j;split at j
   ·omega
   ·have:=e id b j;omega
  ·cases c
theorem IM{P:Program}{Y c:Hp}{t:TypeId}{p y:O}(hs:∀id b,Y id=some b->c id=some b)(h:xn P Y t p=some y):xn P c t p=some y:=by
 cases p with
 |ref id i j=>
  simp only[xn]at h⊢;cases a:Y id with
  |none=>rw[a]at h;cases h
  |some b=>rw[a]at h;rw[hs id b a];exact h
 |_=>exact h
theorem l7{P:Program}{Y d:Hp}{t:TypeId}{p q y:O}(hs:∀id b,Y id=some b->d id=some b)(h:qS P Y t p q=some y):qS P d t p q=some y:=by
 by_cases a:∀id o n,p≠.own id o n
 ·rw[JJ (Y:=Y) a];exact h
 ·have:∃id o n,p=.own id o n:=by refine Classical.byContradiction fun j=>a fun id o n e=>j ⟨id,o,n,e⟩
  obtain⟨id,o,n,rfl⟩:=this;cases q with
  |v z=>
   cases z with
   |int k i=>
    simp only[qS]at h⊢;cases f:y2 P t with
    |none=>rw[f]at h;exact h
    |some e=>
     rw[f]at h;simp only at h⊢;cases g:qY P e with
     |none=>rw[g]at h;cases h
     |some m=>
      rw[g]at h;simp only at h⊢;cases c:Y id with
      |none=>rw[c]at h;cases h
      |some b=>rw[c]at h;rw[hs id b c];exact h
   |_=>cases h
  |_=>cases h
theorem IP{op:Op}(d:cG op=true){M:Nat->O}{Y e:Hp}{Z g:Nat}{y:O}{k:Hp}{n1:Nat}(hs:∀id b,Y id=some b->e id=some b)(h:qb C (get M) Y Z op=some (y,k,n1)):qb C (get M) e g op=some (y,e,g):=by
 unfold cG at d;split at d
 ·rename_i t a;simp only[qb,get]at h⊢;obtain⟨z,f,c⟩:=zU h;injection c with c _
  subst c;rw[IM hs f];rfl
 ·rename_i t a i;simp only[qb,show get M (.tmp a)=some (M a)from rfl]at h⊢;cases j:get M i with
  |none=>rw[j]at h;cases h
  |some q=>
   rw[j]at h;obtain⟨z,f,c⟩:=zU h;injection c with c _
   subst c;simp only[l7 hs f];rfl
 ·cases d
theorem EK{op:Op}(h:cG op=true):(∃t a,op=.load t (.tmp a))\/∃t a i,op=.indexAddr t (.tmp a) i:=by
 unfold cG at h;split at h
 ·exact .inl ⟨_,_,rfl⟩
 ·exact .inr ⟨_,_,_,rfl⟩
 ·cases h
theorem IQ{L:List Tmp}{t:TypeId}{len:Nat}{a:Array (Nat×Operand)}{st:St}(j:Qh L st)(c:X2 L (.buildSlice t len a)=true){g:Hp}{i:Nat}{z:O}(h:qb C (get st.M) st.Y st.Z (.buildSlice t len a)=some (z,g,i)):∃b,g=qf st.Y st.Z b/\i=st.Z+1:=by
 simp only[X2]at c;simp only[qb]at h;split at h
 ·rename_i o e;have d:=l6 j c e;unfold zs at h;split at h
  ·split at h
   ·rename_i n p q Y1 _ _ f;have k:=l3 d f;subst k;split at h
    ·split at h
     ·injection h with h;injection h with _ h;injection h with l m;exact⟨_,l.symm,m.symm⟩
     ·cases h
    ·cases h
   ·cases h
  ·cases h
 ·cases h
theorem NB(r:∀g m,pf g=true->C.Γ g=some m->QQ m){L:List Tmp}{n:Array Oper}{l c:Oper}(I:Tv pf L n l c=true){st s:St}(Q:Qh L st)(J:bC st.Y st.Z)(hs:(y9 C n l st).bind (y9 C n c)=some s):(y9 C n c st).bind (y9 C n l)=some s:=by
 simp only[Tv,zD,Option.isNone_iff_eq_none]at I;obtain⟨⟨⟨⟨⟨_,B⟩,x⟩,R⟩,d⟩,f⟩:=I;have D:xJ pf l.op<=1:=by
  rcases Bool.or_eq_true_iff.1 d with d|d
  ·rcases EK d with⟨t,a,e⟩|⟨t,a,i,e⟩<;>simp[e,xJ]
  ·unfold eK at d;split at d
   ·rename_i g E ts j;simp[j,xJ,d]
   ·cases d
 have F:st.Y st.Z=none:=by
  cases S:st.Y st.Z with
  |none=>rfl
  |some b=>have:=J _ b S;omega
 cases k:kb C n l st.M st.Y st.Z with
 |none=>rw[jc,k]at hs;cases hs
 |some q=>
  obtain⟨y,T,n1⟩:=q;rw[<-cH B (fun Y Z y K N h=>YB r D h) (fun z K N h=>?_)]
  ·exact hs
  ·rw[j9 R]at h;have u:∃b,K=qf st.Y st.Z b/\N=st.Z+1:=by
    rcases Bool.or_eq_true_iff.1 f with f|f
    ·have o:=f;unfold X2 at f;split at f
     ·rename_i t len G j;rw[j]at h o;exact IQ Q o h
     ·cases f
    ·unfold Nx at f;split at f
     ·rename_i t j;rw[j]at h;exact eL h
     ·cases f
   obtain⟨b,rfl,rfl⟩:=u;rcases Bool.or_eq_true_iff.1 d with d|d
   ·have v:∀id A,st.Y id=some A->qf st.Y st.Z b id=some A:=fun id A P=>by rw[zc _ _ _ _ (by have:=J id A P;omega)];exact P
    rw[j9 x]at k⊢;rw[j9 x,k,IP d v k];rfl
   ·unfold eK at d;split at d
    ·rename_i g E ts j;rw[j9 x,j]at k⊢;rw[j9 x,j,k];have H:qb C (get st.M) (qf st.Y st.Z b) (st.Z+1) (.call ⟨.value (.func g),E,ts⟩)=some (y,qf st.Y st.Z b,st.Z+1):=by
      simp only[qb,xH]at k⊢;cases w:yB (E.toList.map (get st.M))with
      |none=>rw[w]at k;cases k
      |some xs=>
       rw[w]at k;simp only[get,jO]at k⊢;cases p:C.Γ g with
       |none=>rw[p]at k;cases k
       |some m=>rw[p]at k;exact(r g m d p _ _ _ _ _ _ k).2 b F
     rw[H];rfl
    ·cases d
def AskA(D:List (Tmp×Tmp))(L:List Tmp)(st:St):Prop:=(Qg D st/\Qh L st)/\(IE L=true->bC st.Y st.Z)
theorem EL(X:∀g l,pf g=true->C.Γ g=some l->QQ l){bk:FuncId->Bool}(hbk:∀g l,bk g=true->C.Γ g=some l->Wb l){D:List (Tmp×Tmp)}{L:List Tmp}{I:Array Oper}(hpl:tp pf D L bk I=true){i:Nat}{o:Oper}{st J:St}(ho:I[i]?=some o)(B:Qg D st/\zbx L st)(hs:y9 C I o st=some J):Qg D J/\zbx L J:=by
  simp only[tp,qT,zD]at hpl;rcases hpl with⟨hD,hL⟩|hpl
  ·have hD:D=[]:=by simpa using hD
   have hL:L=[]:=by simpa using hL
   subst hD;subst hL;exact⟨(fun p Y=>(by cases Y)),(fun s hs=>(by cases hs))⟩
  have h0:=aM.1 hpl o (hK ho);simp only[zD,qT,q5]at h0;obtain⟨⟨hd,hld⟩,hk⟩:=h0;rw[jc]at hs;obtain⟨r,a,M7⟩:=zU hs;obtain⟨y,Y1,R⟩:=r;subst M7;have A:(∀id blk,st.Y id=some blk->blk.arr=false->D.all (fun p=>L.contains p.2)=false\/id<st.Z->∃K,Y1 id=some K/\K.arr=false)/\st.Z<=R:=by
   have k:∀{op:Op},o.op=op->lU bk op=true->D.all (fun p=>L.contains p.2)=true->(∀id blk,st.Y id=some blk->blk.arr=false->D.all (fun p=>L.contains p.2)=false\/id<st.Z->∃K,Y1 id=some K/\K.arr=false)/\st.Z<=R:=by
    intro op c hf N;unfold kb at a;split at a
    ·rw[c]at a;obtain⟨h,d⟩:=lW hbk hf a;refine⟨fun id blk v w h3=>?_,h⟩;rcases h3 with h3|h3
     ·rw[N]at h3;cases h3
     ·exact⟨blk,d id blk h3 v w,w⟩
    ·injection a with a;injection a with _ a;injection a with h d;subst h;subst d;exact⟨fun id blk v w _=>⟨blk,v,w⟩,zk _⟩
   rcases hk with hk|hk
   ·obtain⟨rfl,rfl⟩:=YB X hk a;exact⟨fun id blk v w _=>⟨blk,v,w⟩,zk _⟩
   ·split at hk
    ·rename_i t q x c;unfold kb at a;split at a
     ·rw[c]at a;simp only[qb]at a;split at a
      ·obtain⟨w,h,d⟩:=zU a;injection d with _ d;injection d with d E;subst d;subst E;exact⟨fun id blk v w _=>IF h v w,zk _⟩
      ·cases a
     ·injection a with a;injection a with _ a;injection a with h d;subst h;subst d;exact⟨fun id blk v w _=>⟨blk,v,w⟩,zk _⟩
    ·rename_i g aZ ts c;simp only[zD]at hk;exact k c (by simpa[lU]using hk.2) hk.1
    ·rename_i aZ ts c;exact k c rfl hk
    ·rename_i t n ps c;exact k c rfl hk
    ·rename_i t c;exact k c rfl hk
    ·cases hk
  refine⟨fun p Y=>?_,fun s S=>?_⟩
  rotate_left
  ·have hl:=qB.1 hld s S;simp only[qT,bne_iff_ne]at hl;have H:(∀id o' n,put st.M o.dst y s≠.own id o' n)/\∀id i' j',put st.M o.dst y s=.ref id i' j'->id<st.Z/\∃blk,st.Y id=some blk/\blk.arr=false:=by
    by_cases m:o.dst=some s
    ·have u:put st.M o.dst y s=y:=by rw[m];exact wR _ _ _
     rw[u];rcases hl with hl|hl
     ·exact absurd m hl
     ·split at hl
      ·rename_i t b f c;obtain⟨F,G⟩:=B.2 b (by simpa using hl);unfold kb at a;split at a
       ·rw[c]at a;simp only[qb,get]at a;obtain⟨z,h,d⟩:=zU a;injection d with d _
        subst d;refine⟨fun id o' n e=>?_,fun id i' j' e=>?_⟩
        ·subst e;exact lX h
        ·subst e;obtain⟨i0,j0,E⟩:=VU h;exact G _ _ _ E
       ·injection a with a;injection a with a _;subst a;exact⟨(fun _ _ _ e=>by cases e),(fun _ _ _ e=>by cases e)⟩
      ·rename_i t b ix c;obtain⟨F,G⟩:=B.2 b (by simpa using hl);unfold kb at a;split at a
       ·rw[c]at a;simp only[qb,get]at a;split at a
        ·rename_i p0 q0 T hq0;simp only[zY]at T;subst T;obtain⟨z,h,d⟩:=zU a;injection d with d _
         subst d;refine⟨fun id o' n e=>?_,fun id i' j' e=>?_⟩
         ·subst e;exact lY h
         ·subst e;obtain⟨i0,j0,E⟩:=VV h F;exact G _ _ _ E
        ·cases a
       ·injection a with a;injection a with a _;subst a;exact⟨(fun _ _ _ e=>by cases e),(fun _ _ _ e=>by cases e)⟩
      ·cases hl
    ·have u:put st.M o.dst y s=st.M s:=xj (fun e U=>by rintro rfl;exact m U);rw[u];exact B.2 s S
   refine⟨H.1,fun id i' j' e=>?_⟩;obtain⟨v,blk,w,h3⟩:=H.2 id i' j' e;exact⟨yi v A.2,A.1 id blk w h3 (.inr v)⟩
  ·have hd:=qB.1 hd p Y;simp only[zD,qT,bne_iff_ne]at hd;obtain⟨hd2,hd1⟩:=hd;have hpb:put st.M o.dst y p.2=st.M p.2:=xj (fun e U=>by rintro rfl;exact hd2 U);have P:∀id i j,put st.M o.dst y p.1=.ref id i j->∃id' i' j' blk,st.M p.2=.ref id' i' j'/\id≠id'/\st.Y id'=some blk/\blk.arr=false:=by
    intro id i j e;by_cases m:o.dst=some p.1
    ·have u:put st.M o.dst y p.1=y:=by rw[m];exact wR _ _ _
     rw[u]at e;subst e;rcases hd1 with hd1|hd1
     ·exact absurd m hd1
     ·split at hd1
      ·rename_i t b f c;unfold kb at a;split at a
       ·rw[c]at a;simp only[qb,get]at a;obtain⟨z,h,d⟩:=zU a;injection d with d _
        subst d;obtain⟨i0,j0,E⟩:=VU h;exact B.1 (b,p.2) (by simpa using hd1) _ _ _ E
       ·injection a with a;injection a with a _;cases a
      ·rename_i t b ix c;simp only[zD]at hd1;obtain⟨F,G⟩:=B.2 b (by simpa using hd1.2);unfold kb at a;split at a
       ·rw[c]at a;simp only[qb,get]at a;split at a
        ·rename_i p0 q0 T hq0;simp only[zY]at T;subst T;obtain⟨z,h,d⟩:=zU a;injection d with d _
         subst d;obtain⟨i0,j0,E⟩:=VV h F;exact B.1 (b,p.2) (by simpa using hd1.1) _ _ _ E
        ·cases a
       ·injection a with a;injection a with a _;cases a
      ·rename_i b c;unfold kb at a;split at a
       ·rw[c]at a;simp only[qb,get]at a;obtain⟨z,h,d⟩:=zU a;injection d with d _
        subst d;injection h with h
        exact B.1 (b,p.2) (by simpa using hd1) _ _ _ h
       ·injection a with a;injection a with a _;cases a
      ·rename_i b c;unfold kb at a;split at a
       ·rw[c]at a;simp only[qb,get]at a;split at a
        ·rename_i h;injection a with a
         injection a with a _;injection a with v w h3;subst v;injection h with h;exact B.1 (b,p.2) (by simpa using hd1) _ _ _ h
        all_goals first
         |cases a
         |(injection a with a;injection a with a _;cases a)
       ·injection a with a;injection a with a _;cases a
      ·cases hd1
    ·have u:put st.M o.dst y p.1=st.M p.1:=xj (fun e U=>by rintro rfl;exact m U);rw[u]at e;exact B.1 p Y id i j e
   intro id i j e;obtain⟨id',i',j',blk,eb,hne,oQ,W⟩:=P id i j e;have Q:D.all (fun p=>L.contains p.2)=false\/id'<st.Z:=by
    cases N:D.all (fun p=>L.contains p.2)
    ·exact .inl rfl
    ·refine .inr ?_;have:=qB.1 N p Y;exact((B.2 p.2 (by simpa using this)).2 id' i' j' eb).1
   obtain⟨K,hb1,hb2⟩:=A.1 id' blk oQ W Q;exact⟨id',i',j',K,by show put st.M o.dst y p.2=_;rw[hpb];exact eb,hne,hb1,hb2⟩
theorem zcr(v:∀g f,pf g=true->C.Γ g=some f->QQ f){L:List Tmp}{h:Array Oper}(F:EH pf L h=true)(I:IE L=true){i:Nat}{o:Oper}{st d:St}(J:h[i]?=some o)(w:Qh L st)(G:bC st.Y st.Z)(hs:y9 C h o st=some d) :
  (∀s∈L,zB<=s->(d.M (s-zB)).Y7=true)/\bC d.Y d.Z:=by
 simp only[EH,I,Bool.not_true,Zp]at F;have H:=aM.1 F o (hK J);simp only[zD]at H;obtain⟨l,m⟩:=H;rw[jc]at hs;obtain⟨r,a,x⟩:=zU hs;obtain⟨y,Y1,A⟩:=r;subst x;refine⟨fun s n p=>?_,?_⟩
 ·have c:=qB.1 m s n;simp only[qT,q5,bne_iff_ne,zD,Option.isNone_iff_eq_none]at c;by_cases hd:o.dst=some (s-zB)
  ·have j:put st.M o.dst y (s-zB)=y:=by rw[hd];exact wR _ _ _
   show(put st.M o.dst y (s-zB)).Y7=true;rw[j];rcases c with(c|c)|⟨K,c⟩
   ·exact absurd c (Nat.not_lt.2 p)
   ·exact absurd hd c
   ·rw[j9 K]at a;split at c
    ·rename_i b k;rw[k]at a;simp only[qb,get,zE]at a;injection a with a
     injection a with a _;rw[<-a];exact G9 w c
    ·rename_i t B k;rw[k]at a;simp only[qb]at a;split at a
     ·rename_i P q;obtain⟨z,D,u⟩:=zU a;injection u with u _
      subst u;exact zcq (Bi (l6 w c q) D)
     ·cases a
    ·cases c
  ·have j:put st.M o.dst y (s-zB)=st.M (s-zB):=xj (fun e N E=>hd (by rw[N,E]));show(put st.M o.dst y (s-zB)).Y7=true;rw[j];exact(w s n).2 p
 ·show bC Y1 A;unfold kb at a;split at a
  ·exact IL v l a G
  ·injection a with a;injection a with _ a;injection a with D u;subst D;subst u;exact G
theorem NC(k:∀g d,pf g=true->C.Γ g=some d->QQ d){r:FuncId->Bool}(m:∀g d,r g=true->C.Γ g=some d->Wb d){D:List (Tmp×Tmp)}{L:List Tmp}{n:Array Oper}(l:tq pf D L r n=true):AP C n (G8 pf D L r n) (AskA D L):=by
 simp only[tq,zD]at l;obtain⟨B,l⟩:=l;refine⟨fun i o st t w f hs=>?_,fun i j a b st t H I c f hs=>?_⟩
 ·obtain⟨x,y⟩:=EL k m l w ⟨f.1.1,fun s hs=>(f.1.2 s hs).1⟩ hs;cases q:IE L
  ·refine⟨⟨x,fun s h=>⟨y s h,fun E=>?_⟩⟩,fun e=>by rw[q]at e;cases e⟩;have:=List.any_eq_false.1 q s h;simp at this;omega
  ·obtain⟨F,G⟩:=zcr k B q w f.1.2 (f.2 q) hs;exact⟨⟨x,fun s h=>⟨y s h,F s h⟩⟩,fun _=>G⟩
 ·simp only[G8,qT]at c;rcases c with(c|c)|c
  ·rw[<-ID k c st];exact hs
  ·simp only[zbz,zD,qT,Option.isNone_iff_eq_none]at c;obtain⟨⟨⟨⟨u,p⟩,z⟩,A⟩,hm⟩:=c;rcases hm with hm|hm
   ·rw[<-rv m hm z A u f.1.1 f.1.2];exact hs
   ·rw[rv m hm A z p f.1.1 f.1.2];exact hs
  ·have v:IE L=true:=by simp only[Tv,zD]at c;exact c.1.1.1.1.1
   exact NB k c f.1.2 (f.2 v) hs
end
def Zl(C:Ctx)(code:Code)(st:St)(K:Exit->St->Prop):Prop:=∃e a,wa C code st=some (e,a)/\K e a
def iV(C:Ctx)(b:Array Oper)(l:List Oper)(st:St)(K:St->Prop):Prop:=∃a,vZ C b l st=some a/\K a
def VX{α:Type}(o:Option α)(K:α->Prop):Prop:=∃x,o=some x/\K x
theorem Bj{α:Type}{o o':Option α}(K:α->Prop)(h:o=o'):VX o K=VX o' K:=by rw[h]
theorem EM{α:Type}(x:α)(K:α->Prop):VX (some x) K=K x:=by simp[VX]
def gu(C:Ctx)(o:Option O)(x y:Code)(st:St)(K:Exit->St->Prop):Prop:=(o=some (.v (.bool true))/\Zl C x st K)\/(o=some (.v (.bool false))/\Zl C y st K)
theorem Bm{C:Ctx}{o o':Option O}{x y:Code}{st:St}{K:Exit->St->Prop}(h:o=o'):gu C o x y st K=gu C o' x y st K:=by rw[h]
theorem EN(C:Ctx)(x y:Code)(st:St)(K:Exit->St->Prop):gu C (some (.v (.bool true))) x y st K=Zl C x st K:=by simp[gu]
theorem Bn(C:Ctx)(x y:Code)(st:St)(K:Exit->St->Prop):gu C (some (.v (.bool false))) x y st K=Zl C y st K:=by simp[gu]
def l8(C:Ctx)(b:Code)(K:Exit->St->Prop)(e:Exit)(st:St):Prop:=match e with
 | .normal=>Zl C b st K
 |e=>K e st
def WL(id:Nat)(K:Exit->St->Prop)(e:Exit)(st:St):Prop:=match e with
 | .exit i=>if i=id then K .normal st else K (.exit i) st
 |e=>K e st
def Wr(K:Exit->St->Prop)(st:St):Prop:=K .normal st
theorem tz(C:Ctx)(b:Code)(K:Exit->St->Prop)(st:St):l8 C b K .normal st=Zl C b st K:=rfl
theorem IU(C:Ctx)(b:Code)(K:Exit->St->Prop)(st:St):l8 C b K .ret st=K .ret st:=rfl
theorem EO(C:Ctx)(b:Code)(K:Exit->St->Prop)(i:Nat)(st:St):l8 C b K (.exit i) st=K (.exit i) st:=rfl
theorem o0(id:Nat)(K:Exit->St->Prop)(st:St):WL id K .normal st=K .normal st:=rfl
theorem EP(id:Nat)(K:Exit->St->Prop)(st:St):WL id K .ret st=K .ret st:=rfl
theorem eM(id:Nat)(K:Exit->St->Prop)(st:St):WL id K (.exit id) st=K .normal st:=by simp[WL]
theorem X3{C:Ctx}{code:Code}{st:St}{b:Exit}{a:St}(K:Exit->St->Prop)(h:wa C code st=some (b,a)):Zl C code st K=K b a:=by
 unfold Zl;apply propext;constructor
 ·rintro⟨e,c,f,d⟩;rw[h]at f;obtain⟨rfl,rfl⟩:b=e/\a=c:=by simpa using f
  exact d
 ·exact fun d=>⟨_,_,h,d⟩
theorem ND(C:Ctx)(st:St)(K:Exit->St->Prop):Zl C .skip st K=K .normal st:=X3 K (by simp only[wa])
theorem NF(C:Ctx)(id:Nat)(st:St)(K:Exit->St->Prop):Zl C (.exit id) st K=K (.exit id) st:=X3 K (by simp only[wa])
theorem Tw(C:Ctx)(st:St)(K:Exit->St->Prop):Zl C .ret st K=K .ret st:=X3 K (by simp only[wa])
theorem IV(C:Ctx)(l:Nat)(st:St)(K:Exit->St->Prop):Zl C (.label l) st K=K .normal st:=X3 K (by simp only[wa])
theorem Bo(C:Ctx)(i:Nat)(a:Array Oper)(d:Bool)(c st:St)(K:Exit->St->Prop)(g:AN (C.fz i) c=some st)(h:Qg (C.dyn i) st)(j:Qh (C.M6 i) st):Zl C (.region i a d) c K=iV C a a.toList st (Wr K):=by
 unfold Zl iV Wr;simp only[wa,g,h,j,and_self,zK];apply propext;constructor
 ·rintro⟨e,b,h,f⟩;split at h
  ·rename_i s hs;obtain⟨rfl,rfl⟩:Exit.normal=e/\s=b:=by simpa using h
   exact⟨_,hs,f⟩
  ·cases h
 ·rintro⟨b,h,f⟩;exact⟨.normal,b,by rw[h],f⟩
theorem kW(C:Ctx)(i:Nat)(a:Array Oper)(d:Bool)(st:St)(K:Exit->St->Prop)(h:Qg (C.dyn i) st)(b:Qh (C.M6 i) st)(c:C.fz i=[]:=by rfl):Zl C (.region i a d) st K=iV C a a.toList st (Wr K):=
 Bo C i a d st st K (by rw[c];rfl) h b
theorem ZZ(C:Ctx)(i:Nat)(a:Array Oper)(d:Bool)(st:St)(K:Exit->St->Prop)(h:C.dyn i=[])(b:C.M6 i=[])(c:C.fz i=[]:=by rfl):Zl C (.region i a d) st K=iV C a a.toList st (Wr K):=kW C i a d st K (by rw[h];intro p Y;cases Y) (by rw[b];intro p Y;cases Y) c
theorem iW(C:Ctx)(a b:Code)(st:St)(K:Exit->St->Prop):Zl C (.seq a b) st K=Zl C a st (l8 C b K):=by
 unfold Zl;simp only[wa];apply propext;constructor
 ·rintro⟨e,c,h,d⟩;split at h
  ·rename_i s hs;exact⟨.normal,s,hs,e,c,h,d⟩
  ·rename_i r k;refine⟨e,c,h,?_⟩;cases e<;>simp_all[l8]
 ·rintro⟨e,c,h,d⟩;cases e
  case normal=>obtain⟨i,f,j,g⟩:=d;exact⟨i,f,by rw[h];exact j,g⟩
  all_goals exact⟨_,c,by rw[h],d⟩
theorem NG(C:Ctx)(c:Operand)(x y:Code)(st:St)(K:Exit->St->Prop):Zl C (.cond c x y) st K=gu C (get st.M c) x y st K:=by
 unfold Zl gu;simp only[wa];apply propext;constructor
 ·rintro⟨e,a,h,d⟩;split at h
  ·rename_i b;exact .inl ⟨b,e,a,h,d⟩
  ·rename_i b;exact .inr ⟨b,e,a,h,d⟩
  ·cases h
 ·rintro (⟨b,e,a,h,d⟩|⟨b,e,a,h,d⟩)
  ·exact⟨e,a,by rw[b];exact h,d⟩
  ·exact⟨e,a,by rw[b];exact h,d⟩
theorem ry(C:Ctx)(id:Nat)(b:Code)(st:St)(K:Exit->St->Prop):Zl C (.block id b) st K=Zl C b st (WL id K):=by
 unfold Zl;simp only[wa];apply propext;constructor
 ·rintro⟨e,a,h,c⟩;split at h
  ·rename_i i s hs;refine⟨.exit i,s,hs,?_⟩;unfold WL;split at h
   ·rename_i d;obtain⟨rfl,rfl⟩:Exit.normal=e/\s=a:=by simpa using h
    simp[d,c]
   ·rename_i d;obtain⟨rfl,rfl⟩:Exit.exit i=e/\s=a:=by simpa using h
    simp[d,c]
  ·rename_i r f;refine⟨e,a,h,?_⟩;cases e<;>simp_all[WL]
 ·rintro⟨e,a,h,c⟩;cases e
  case exit i=>
   unfold WL at c;simp only[h];by_cases d:i=id
   ·simp only[d,zK]at c⊢;exact⟨_,_,rfl,c⟩
   ·simp only[d,zQ]at c⊢;exact⟨_,_,rfl,c⟩
  all_goals exact⟨_,a,by rw[h],c⟩
def asgK(C:Ctx)(b:Code)(K:Exit->St->Prop)(e:Exit)(st:St):Prop:=match e with
 | .normal=>Zl C b st K
 |_=>False
def rngK(I:Nat->Hp->Nat->Prop)(k:Nat)(M:Nat->O)(K:Exit->St->Prop)(e:Exit)(st:St):Prop:=match e with
 | .normal=>I (k+1) st.Y st.Z
 | .ret=>K .ret ⟨M,st.Y,st.Z⟩
 | .exit i=>K (.exit i) ⟨M,st.Y,st.Z⟩
 |_=>False
theorem IW{C:Ctx}{f:Operand}{s:Array Tmp}{a b:Code}{st:St}{K:Exit->St->Prop}{p:Tmp}{g:FuncId}{cap:zb}{it:Qf}{xs:zb}{Y1:Hp}
  (o:s.toList=[p]) (v:get st.M f=some (.fn (.func g) [] cap)) (hit:C.it g=some it) (w:it cap st.Y=some (xs,Y1)) (I:Nat->Hp->Nat->Prop) (x:I 0 Y1 st.Z)
  (h:∀k Y Z (t:k<xs.length),I k Y Z->Zl C a ⟨qf st.M p xs[k],Y,Z⟩ (asgK C b (rngK I k st.M K))) (i:∀Y Z,I xs.length Y Z->K .normal ⟨st.M,Y,Z⟩):Zl C (.rangeFunc f s a b) st K:=by
 have q:∀d k Y Z,xs.length-k=d->k<=xs.length->I k Y Z->∃e Y2 c,KH (wa C a) (wa C b) st.M p (xs.drop k) Y Z=some (e,Y2,c)/\K e ⟨st.M,Y2,c⟩:=by
  intro d
  induction d with
  |zero=>
   intro k Y Z hd t r;obtain rfl:k=xs.length:=by omega
   exact⟨.normal,Y,Z,by rw[zA];rfl,i Y Z r⟩
  |succ d y=>
   intro k Y Z hd t r;have j:k<xs.length:=by omega
   obtain⟨z,D,l,m⟩:=h k Y Z j r;rw[zl j];simp only[KH,l];cases z<;>try exact m.elim
   obtain⟨A,u,B,n⟩:=m;simp only[B];cases A<;>try exact n.elim
   ·exact y (k+1) u.Y u.Z (by omega) (by omega) n
   ·exact⟨_,_,_,rfl,n⟩
   ·exact⟨_,_,_,rfl,n⟩
 obtain⟨e,Y2,c,l,m⟩:=q _ 0 Y1 st.Z rfl (jb _) x;rw[ZK]at l;exact⟨e,⟨st.M,Y2,c⟩,by simp only[wa,o,v,hit,w,l],m⟩
theorem Tx(C:Ctx)(a:Array Oper)(st:St)(K:St->Prop):iV C a [] st K=K st:=by simp[iV,vZ]
def NH(C:Ctx)(a:Array Oper)(l:List Oper)(K:St->Prop)(st:St):Prop:=iV C a l st K
theorem NI(C:Ctx)(a:Array Oper)(l:List Oper)(K:St->Prop)(st:St):NH C a l K st=iV C a l st K:=rfl
theorem NJ(C:Ctx)(a:Array Oper)(o:Oper)(l:List Oper)(st:St)(K:St->Prop):iV C a (o::l) st K=VX (y9 C a o st) (NH C a l K):=by
 unfold iV VX NH iV;simp only[vZ];apply propext;constructor
 ·rintro⟨b,h,c⟩;split at h
  ·rename_i s hs;exact⟨s,hs,b,h,c⟩
  ·cases h
 ·rintro⟨s,hs,b,h,c⟩;exact⟨b,by rw[hs];exact h,c⟩
theorem zJ(C:Ctx)(b:Code)(st:St)(K:Exit->St->Prop):Zl C (.loop b) st K=Zl C b st (l8 C (.loop b) K):=by
 unfold Zl;simp only[wa];rw[td];apply propext;constructor
 ·rintro⟨e,a,h,c⟩;split at h
  ·rename_i s hs;exact⟨.normal,s,hs,e,a,by simpa only[wa]using h,c⟩
  ·rename_i r j;refine⟨e,a,h,?_⟩;cases e<;>simp_all[l8]
 ·rintro⟨e,a,h,c⟩;cases e
  case normal=>obtain⟨g,d,i,f⟩:=c;exact⟨g,d,by rw[h];simpa only[wa]using i,f⟩
  all_goals exact⟨_,a,by rw[h],c⟩
def tA(I:St->Prop)(a:St->Nat)(n:Nat)(K:Exit->St->Prop)(e:Exit)(st:St):Prop:=match e with
 | .normal=>I st/\a st<n
 |e=>K e st
theorem o1(I:St->Prop)(a:St->Nat)(n:Nat)(K:Exit->St->Prop)(st:St):tA I a n K .normal st=(I st/\a st<n):=rfl
theorem ER(I:St->Prop)(a:St->Nat)(n:Nat)(K:Exit->St->Prop)(st:St):tA I a n K .ret st=K .ret st:=rfl
theorem Bp(I:St->Prop)(a:St->Nat)(n i:Nat)(K:Exit->St->Prop)(st:St):tA I a n K (.exit i) st=K (.exit i) st:=rfl
theorem Zl.mono{C:Ctx}{code:Code}{st:St}{K b:Exit->St->Prop}(h:Zl C code st K)(c:∀e st,K e st->b e st):Zl C code st b:=
 let⟨e,a,d,f⟩:=h
 ⟨e,a,d,c _ _ f⟩
theorem l9{C:Ctx}{b:Code}{st:St}{K:Exit->St->Prop}(I:St->Prop)(d:St->Nat)(h:I st)(a:∀st,I st->Zl C b st (tA I d (d st) K)):Zl C (.loop b) st K:=by
 have f:∀n st,d st=n->I st->Zl C (.loop b) st K:=by
  intro n
  induction n using Nat.strongRecOn with
  |_ n i=>
   intro st j k;rw[zJ];refine(a st k).mono fun e c g=>?_
   cases e
   case normal=>exact i (d c) (j ▸ g.2) c rfl g.1
   all_goals exact g
 exact f _ st rfl h
def KO(P:Program)(fn:Func)(R:O->Hp->Nat->Prop)(e:Exit)(st:St):Prop:=match e with
 | .normal|.ret=>VX (xI P fn st) (fun x=>R x st.Y st.Z)
 |_=>False
theorem Bq(P:Program)(fn:Func)(R:O->Hp->Nat->Prop)(st:St):KO P fn R .normal st=VX (xI P fn st) (fun x=>R x st.Y st.Z):=rfl
theorem NK(P:Program)(fn:Func)(R:O->Hp->Nat->Prop)(st:St):KO P fn R .ret st=VX (xI P fn st) (fun x=>R x st.Y st.Z):=rfl
theorem w9{C:Ctx}{fn:Func}{code:Code}{args:zb}{Y:Hp}{Z:Nat}{R:O->Hp->Nat->Prop}(g:fn.body=some code)
  (h:Zl C code ⟨km args,Y,Z⟩ (KO C.P fn R)):∃x d f,jr C fn args Y Z=some (x,d,f)/\R x d f:=by
 obtain⟨e,st,i,a⟩:=h;unfold jr;simp only[g,i];unfold KO at a;split at a
 ·obtain⟨x,b,c⟩:=a;exact⟨x,st.Y,st.Z,by simp[b],c⟩
 ·obtain⟨x,b,c⟩:=a;exact⟨x,st.Y,st.Z,by simp[b],c⟩
 ·exact a.elim
def yx(r:O)(x:O)(Y:Hp)(_:Nat):Prop:=(freeze Y x).map (·.1)=some r
theorem zu{C:Ctx}{fn:Func}{code:Code}{args:zb}{r:O}(a:fn.body=some code)
  (h:Zl C code ⟨km args,fun _=>none,0⟩ (KO C.P fn (yx r))):zG C fn args=some r:=by
 obtain⟨x,d,e,b,c⟩:=w9 a h;unfold zG;simp only[b];exact c
theorem VY(d:Option Tmp)(op:Op)(t:TypeId)(p:String)(a:Array Edge)(y:Nat->Option Bool):Region.wanted ⟨d,op,t,p,a,none⟩ y=true:=rfl
theorem NL(C:Ctx)(a:Array Oper)(d:Option Tmp)(op:Op)(t:TypeId)(p:String)(b:Array Edge)(st:St):y9 C a ⟨d,op,t,p,b,none⟩ st =
  (qb C (get st.M) st.Y st.Z op).map fun r=>⟨put st.M d r.1,r.2.1,r.2.2⟩:=by
 simp only[y9,VY,zK];cases qb C (get st.M) st.Y st.Z op<;>rfl
variable{dr:Prop}
section
variable{C:Ctx}{pf:FuncId->Bool}
def Qk(a:Array Bool)(k:Nat):Prop:=a.getD k false=true
theorem gv{i n:Nat}(h:i<n):List.range n=List.range i++i::List.range' (i+1) (n-i-1):=by
 have a:List.range n=List.range' 0 i++List.range' i (n-i):=by rw[List.range_eq_range',show List.range' 0 n=List.range' 0 (i+(n-i))from by rw[show i+(n-i)=n from by omega],<-List.range'_append_1];simp
 rw[a,List.range_eq_range'];congr 1;rw[show n-i=(n-i-1)+1 from by omega,List.range'_succ];simp
theorem NM{a:Array Oper}{cm:Oper->Oper->Bool}{A:St->Prop}(D:AP C a cm A)(E:lT cm a=true):∀(fuel t:Nat) (listed:Array Bool) (st:St),A st->listed.size=a.size->bz a (Qk listed) ->
  ((List.range a.size).filter fun i=>!listed.getD i true).length<=fuel ->
  ∀r:St,ko C a ((List.range a.size).filter fun i=>!listed.getD i true) st=some r->ko C a (Region.linearise.go .any a fuel t listed []) st=some r:=by
 intro fuel
 induction fuel with
 |zero=>intro t listed st _ _ _ R r c;rw[oM (Nat.le_zero.1 R)]at c;exact c
 |succ fuel ih=>
  intro t listed st S T F R r c;simp only[Region.linearise.go];change ko C a (match(Region.ready .any a listed)[t % (Region.ready .any a listed).length]? with
   |some i=>Region.linearise.go .any a fuel (t/(Region.ready .any a listed).length) (listed.setIfInBounds i true) [i]
   |none=>[].reverse) st=some r
  have q:∀k,k<a.size->listed.getD k true=listed.getD k false:=fun k hk=>by
   have:k<listed.size:=by omega
   simp[this]
  have d:∀i,i∈Region.ready .any a listed↔i<a.size/\listed.getD i true=false/\∃o,a[i]?=some o/\rq (Qk listed) o:=by
   intro i;unfold Region.ready;simp only[pY,xd,zD,QF];constructor
   ·rintro⟨G,U,h3⟩;refine⟨G,U,a[i],by simp[G],fun e s u=>?_⟩;simp only[G,vF,zE,WJ]at h3;have:=aM.1 h3 e (by simpa using s);simpa[u,Qk]using this
   ·rintro⟨G,U,o,m,Y⟩;refine⟨G,U,?_⟩;simp only[m,zE,WJ];refine aM.2 fun e s=>?_
    cases u:Region.binds .any e with
    |false=>rfl
    |true=>simpa[Qk]using Y e (by simpa using s) u
  cases W:(Region.ready .any a listed)[t % (Region.ready .any a listed).length]? with
  |none=>
   have H:Region.ready .any a listed=[]:=by
    cases c:Region.ready .any a listed with
    |nil=>rfl
    |cons x xs=>rw[c]at W;have w:t % (x::xs).length<(x::xs).length:=zji _ (by simp);simp at W;simp at w;omega
   have I:∀n k,k<n->k<a.size->listed.getD k true=true:=by
    intro n
    induction n with
    |zero=>intro k hk;omega
    |succ n J=>
     intro k hk g;by_cases X:k<n
     ·exact J k X g
     ·have hkk:k=n:=by omega
      subst hkk;cases u:listed.getD k true with
      |true=>rfl
      |false=>
       have m:a[k]?=some a[k]:=by simp[g]
       have v:k∈Region.ready .any a listed:=(d k).2 ⟨g,u,a[k],m,fun e s hbe=>by have w:=(gr E k _ m).1 e s hbe;have:=J e.on w (by omega);rw[q e.on (by omega)]at this;exact this⟩
       rw[H]at v;cases v
   have:((List.range a.size).filter fun i=>!listed.getD i true)=[]:=by rw[List.filter_eq_nil_iff];intro k hk;have g:=xd.1 hk;rw[I (k+1) k (by omega) g];simp
   rw[this]at c;exact c
  |some i=>
   simp only[];obtain⟨K,hul,o,m,Y⟩:=(d i).1 (zT W);rw[linearise_go_acc,List.reverse_singleton,List.singleton_append];have y:∀k,(listed.setIfInBounds i true).getD k true=if k=i then true else listed.getD k true:=by
    intro k;by_cases hk:k=i
    ·subst hk;have:k<listed.size:=by omega
     simp[this]
    ·rw[zf hk];simp[fV (fun h=>hk h.symm)]
   have hlf:∀k,Qk (listed.setIfInBounds i true) k↔k=i\/Qk listed k:=by
    intro k;unfold Qk;by_cases hk:k=i
    ·subst hk;have:k<listed.size:=by omega
     simp[this]
    ·simp[fV (fun h=>hk h.symm),hk]
   have f:((List.range a.size).filter fun k=>!listed.getD k true)=((List.range i).filter fun k=>!listed.getD k true)++i::((List.range' (i+1) (a.size-i-1)).filter fun k=>!listed.getD k true):=by rw[gv K,zjj,List.filter_cons_of_pos (by rw[hul];rfl)]
   have b:((List.range a.size).filter fun k=>!(listed.setIfInBounds i true).getD k true)=((List.range i).filter fun k=>!listed.getD k true)++((List.range' (i+1) (a.size-i-1)).filter fun k=>!listed.getD k true):=by
    rw[gv K,zjj,List.filter_cons_of_neg (by rw[y];simp)];congr 1
    ·exact List.filter_congr fun k hk=>by have:=xd.1 hk;rw[y,zf (by omega)]
    ·exact List.filter_congr fun k hk=>by have:=(List.mem_range'_1.1 hk).1;rw[y,zf (by omega)]
   have L:bz a (Qk (listed.setIfInBounds i true)):=by
    intro k o' hk l e s u;rw[hlf]at hk⊢;rcases hk with rfl|hk
    ·rw[m]at l;injection l with l
     subst l;exact .inr (Y e s u)
    ·exact .inr (F k o' hk l e s u)
   have p:((List.range a.size).filter fun k=>!(listed.setIfInBounds i true).getD k true).length<=fuel:=by rw[b];rw[f]at R;simp only[w7,zd]at R⊢;omega
   have N:=fun st S=>ih (t/(Region.ready .any a listed).length) (listed.setIfInBounds i true) st S (by simpa using T) L p
   rw[f]at c;have c:=aR D m _ _ _ r S (fun j hj=>by
    obtain⟨z,P⟩:=pY.1 hj;have z:=xd.1 z;rcases(gr E i o m).2 j z with h|h
    ·have:=h (Qk listed) F Y;unfold Qk at this;rw[<-q j (by omega)]at this;rw[this]at P;cases P
    ·exact h) c
   simp only[ko,m]at c⊢;cases B:y9 C a o st with
   |none=>rw[B]at c;cases c
   |some Q=>rw[B]at c;simp only[zW]at c⊢;exact N Q (D.Ji i o st Q m S B) r (by rw[b];exact c)
theorem tB(a:Array Oper)(st:St):∀(l:List Oper) (i:Nat),(∀k,l[k]?=a[i+k]?)->i+l.length=a.size->ko C a (List.range' i l.length) st=vZ C a l st:=by
 intro l
 induction l generalizing st with
 |nil=>intro i _ _;rfl
 |cons o l d=>
  intro i c e;have f:a[i]?=some o:=by have:=c 0;simpa using this.symm
  simp only[zd,List.range'_succ,ko,f,vZ];cases hs:y9 C a o st with
  |none=>rfl
  |some b=>simp only[zW];exact d b (i+1) (fun k=>by have:=c (k+1);simpa[lF,ek 1 k]using this) (by simp at e;omega)
theorem aW(a:Array Oper)(st:St):ko C a (List.range a.size) st=vZ C a a.toList st:=by have:=tB (C:=C) a st a.toList 0 (by simp) (by simp);rw[List.range_eq_range'];simpa using this
theorem Ty{a:Array Oper}{f:Oper->Oper->Bool}{A:St->Prop}(c:AP C a f A)(d:lT f a=true)(t:Nat)(st r:St)(g:A st)(h:vZ C a a.toList st=some r):ko C a (Region.linearise .any a t) st=some r:=by
 unfold Region.linearise;refine NM c d a.size t _ st g (by simp) (fun k o b=>by unfold Qk at b;rw[JD,Array.getElem?_replicate]at b;split at b<;>simp at b) (z8 (hU _ _) (by simp)) r ?_
 have:((List.range a.size).filter fun i=>!(Array.replicate a.size false).getD i true)=List.range a.size:=by rw[List.filter_eq_self];intro i e;have e:=xd.1 e;simp[e]
 rw[this,aW];exact h
end
section
variable{C:Ctx}{pf:FuncId->Bool}{w0:World}{S0 L:Nat->Prop}{N Z0:Nat}{G0:Nat->GI}{n0:Nat}
theorem cJ{w:World}{S:Nat->Prop}{G:Nat->GI}{Z:Nat}{f:Array Oper}{M:Nat->O}{a:Act}(hs:∀t,qw w S G Z (M t) (a.tmps.getD t undef)):yielded f a.tmps=QV f M:=by
 funext j;unfold yielded QV;cases hd:(f[j]?).bind (·.dst)with
 |none=>rfl
 |some d=>
  simp only[zW];have k:=hs d;have m:∀b:Bool,a.tmps.getD d undef=.bool b->a.tmps[d]?=some (.bool b):=by
   intro b l;by_cases g:d<a.tmps.size
   ·simp[g]at l⊢;exact l
   ·simp[g]at l;simp[undef]at l
  cases i:M d with
  |v x=>
   rw[i]at k;obtain⟨e,o⟩:=k.yn;cases x with
   |bool b=>simp only[m b e]
   |_=>
    cases n:a.tmps[d]? with
    |none=>rfl
    |some y=>
     have:a.tmps.getD d undef=y:=by simp[n]
     rw[this]at e;subst e;rfl
  |_=>
   cases n:a.tmps[d]? with
   |none=>rfl
   |some y=>
    have:a.tmps.getD d undef=y:=by simp[n]
    rw[i,this]at k;cases y with
    |bool b=>cases k with
     |c h=>cases h
    |_=>rfl
def D8(F:Fence):Prop:=F=Fence.wide\/∃l,F=Fence.wide.inRound l
theorem D8.fn{F:Fence}(h:D8 F)(f:FuncId):F.fn f:=by rcases h with rfl|⟨l,rfl⟩<;>trivial
theorem D8.deep{F:Fence}(h:D8 F):F.depth=none:=by rcases h with rfl|⟨l,rfl⟩<;>rfl
theorem D8.calls{F:Fence}(h:D8 F){n:Nat}{P:Program}{f:FuncId}{args:Array Value}{w:World}{R:Ending->World->Prop}(a:Calls P f args w R):CallsIn F n P f args w R:=by
 rcases h with rfl|⟨l,rfl⟩
 ·exact oO.2 a
 ·exact(oO.2 a:CallsIn Fence.wide n P f args w R)
theorem Yk(k:∀g r,C.Γ g=some r->wO dr C.P g r){m:Array Oper}(u:∀(i:Nat) (o:Oper),m[i]?=some o->∀d,o.dst=some d->d<N){F:Fence}{n:Nat}(s:D8 F){Q:Exit->Act->World->Prop} :
  ∀(l:List Nat) (st j:St) (a:Act) (w:World),ko C m l st=some j->jE dr C.P w0 S0 L N Z0 G0 n0 st a w->(∀X t,jE dr C.P w0 S0 L N Z0 G0 n0 j X t->Q .normal X t)->wpOpsIn F n C.P m Q l a w
 |[],st,j,a,w,h,hs,D=>by
  simp only[ko]at h;injection h with h
  subst h;exact D a w hs
 |i::l,st,j,a,w,h,hs,D=>by
  simp only[wpOpsIn];cases E:m[i]? with
  |none=>simp only[ko,E]at h;exact Yk k u s l st j a w h hs D
  |some o=>
   simp only[ko,E]at h;cases b:y9 C m o st with
   |none=>rw[b]at h;cases h
   |some st1=>
    rw[b]at h;simp only[zW]at h;obtain⟨S,G,z⟩:=hs;unfold y9 at b;simp only[];rw[cJ z.Zq];split at b
    ·rename_i H;rw[zg H];split at b
     ·rename_i x Y Z A;injection b with b
      subst b;have I:∀c,o.op≠.defer c:=by intro c J;rw[J]at A;simp[qb]at A
      refine⟨fun f _=>s.fn f,?_⟩;rw[Oper.semAt_eq _ _ _ I];have K:=cF k z.inv (a:=a.eval) (fun y pv hy=>Jk z.Zq hy) (o:=o) A;rcases K with⟨v,t,R,T,B,U,W⟩|⟨g,vs,B,J⟩
      ·have p:jE dr C.P w0 S0 L N Z0 G0 n0 ⟨put st.M o.dst x,Y,Z⟩ (a.put o.dst v) t:=⟨R,T,z.step U W (u i o E)⟩;have q:=Yk (n:=n) k u s l _ j _ t h p D;rcases B with B|⟨B,rfl⟩
       ·rw[B];exact q
       ·rw[B];exact q
      ·rw[B];refine⟨fun h=>by simp[s.deep]at h,s.calls (J.mono fun e t hh=>?_)⟩;obtain⟨v,R,T,rfl,U,W⟩:=hh;have p:jE dr C.P w0 S0 L N Z0 G0 n0 ⟨put st.M o.dst x,Y,Z⟩ (a.put o.dst v) t:=⟨R,T,z.step U W (u i o E)⟩;exact Yk k u s l _ j _ t h p D
     ·cases b
    ·rename_i H;rw[zf H];injection b with b
     subst b;exact⟨fun f _=>s.fn f,Yk k u s l _ j _ w h ⟨S,G,z.step (.refl z.inv) kA (u i o E)⟩ D⟩
def jP:Code->Bool
 | .seq a b=>jP a&&jP b
 | .cond _ a b=>jP a&&jP b
 | .block _ b=>jP b
 | .loop b=>jP b
 | .rangeFunc _ _ _ _=>false
 | .scope _=>false
 |_=>true
def vJ(pf:FuncId->Bool)(c:Nat->List (Tmp×Tmp))(e:Nat->List Tmp)(f:FuncId->Bool)(N:Nat):Code->Bool
 | .region i g h=>g.all (fun o=>match o.dst with|some d=>decide (d<N)|none=>true)&&(!h||(lT (G8 pf (c i) (e i) f g) g&&tq pf (c i) (e i) f g))
 | .seq a b=>vJ pf c e f N a&&vJ pf c e f N b
 | .cond _ a b=>vJ pf c e f N a&&vJ pf c e f N b
 | .block _ b=>vJ pf c e f N b
 | .loop b=>vJ pf c e f N b
 | .rangeFunc _ j a b=>j.all (fun p=>decide (p<N))&&jP a&&jP b&&vJ pf c e f N a&&vJ pf c e f N b
 |_=>true
theorem jE.drew{st:St}{a:Act}{w:World}(h:jE dr C.P w0 S0 L N Z0 G0 n0 st a w):jE dr C.P w0 S0 L N Z0 G0 n0 st a {w with drawn:=w.drawn+1}:=by obtain⟨S,G,c⟩:=h;refine⟨S,G,c.inv.same rfl,fun t=>(c.Zq t).mono (fun b d=>⟨d,rfl⟩) (zk _) (fun _ _=>rfl),c.size,c.defers,c.s0,c.s1,c.own,c.fr.trans (Fr.drew w L) fun _ _ h=>h,c.up,c.loc⟩
theorem jE.top{st:St}{a:Act}{w:World}(h:jE dr C.P w0 S0 L N Z0 G0 n0 st a w):bC st.Y st.Z:=by obtain⟨S,G,b⟩:=h;exact b.inv.top
theorem jE.zhk{st:St}{a:Act}{w:World}(h:jE dr C.P w0 S0 L N Z0 G0 n0 st a w){t:Nat}{y:O}{Y1:Hp}(g:zO st.Y (st.M t)=some (y,Y1)):jE dr C.P w0 S0 L N Z0 G0 n0 ⟨qf st.M t y,Y1,st.Z⟩ a w:=by
 obtain⟨S,G,h⟩:=h;obtain⟨f,k,c,_,_⟩:=kU (dr:=dr) h.inv g (h.Zq t);have d:∀b,kn st.Y G b->L b\/w0.heap.size<=b:=by rintro b ⟨id,blk,hid,rfl⟩;exact h.own id blk hid
 refine⟨f,G,k.inv,fun s=>?_,h.size,h.defers.step k,fun b e=>k.Ji (dr:=dr) b (h.s0 b e),fun b e=>?_,fun id b e=>?_,h.fr,h.up,h.loc⟩
 ·show qw w f G st.Z (qf st.M t y s) _;by_cases hs:s=t
  ·subst hs;rw[wR];exact .c c
  ·rw[zc _ _ _ _ hs];exact(h.Zq s).mono (k.same h.inv) (zk _) (fun _ _=>rfl)
 ·rcases k.from_ b e with h1|h1|h1
  ·exact h.s1 b h1
  ·exact .inr (d b h1)
  ·exact .inr (.inr (z8 h.fr.size h1))
 ·rcases k.own id b e with h1|h1
  ·exact d _ h1
  ·exact .inr (z8 h.fr.size h1)
theorem jE.AN{a:Act}{w:World}:∀{l:List Tmp} {st b:St},jE dr C.P w0 S0 L N Z0 G0 n0 st a w->AM.AN l st=some b->jE dr C.P w0 S0 L N Z0 G0 n0 b a w
 |[],st,b,h,e=>by
  simp only[AM.AN]at e;injection e with e
  rw[<-e];exact h
 |t::l,st,b,h,e=>by
  simp only[AM.AN]at e;split at e
  ·rename_i y Y1 c;exact jE.AN (h.zhk c) e
  ·cases e
def VO(S:Nat->Prop)(G:Nat->GI)(Y:Hp)(b:Nat):Prop:=¬S b/\∀id blk,Y id=some blk->(G id).g≠b
theorem VO.step{P:Program}{Y d:Hp}{Z g:Nat}{S e:Nat->Prop}{G f:Nat->GI}{w i:World}{b:Nat}(h:VO S G Y b)(k:kN dr P Y Z S G w d g e f i)(l:b<w.heap.size):VO e f d b:=by
 refine⟨fun hs=>?_,fun id blk hid j=>?_⟩
 ·rcases k.from_ b hs with h1|⟨id,blk,h1,c⟩|h1
  ·exact h.1 h1
  ·exact h.2 id blk h1 c
  ·omega
 ·rcases k.own id blk hid with⟨id',a,h1,c⟩|h1
  ·exact h.2 id' a h1 (c.trans j)
  ·omega
theorem VO.same{P:Program}{Y c:Hp}{Z d:Nat}{S e:Nat->Prop}{G f:Nat->GI}{w a:World}{b:Nat}(h:VO S G Y b)(k:kN dr P Y Z S G w c d e f a)(g:b<w.heap.size):a.heap[b]?=w.heap[b]?:=
 k.fr.block b g fun⟨id,blk,i,j⟩=>h.2 id blk i j
section
variable{P:Program}{S:Nat->Prop}{G:Nat->GI}
theorem Inv.frame{w d:World}{Y:Hp}{Z:Nat}{B:Nat->Prop}(h:Inv P w S G Y Z)(e:Fr dr w B d)(f:∀b,B b->VO S G Y b):Inv P d S G Y Z:=by
 have g:∀b,S b->S b/\d.heap[b]?=w.heap[b]?:=fun b a=>⟨a,e.block b (h.st b a) fun c=>(f b c).1 a⟩
 exact⟨fun b a=>yi (h.st b a) e.size,h.top,fun id b a=>(h.live id b a).mono g (zk _) (fun _ _=>rfl) (e.block _ (h.live id b a).lt fun c=>(f _ c).2 id b a rfl),h.apart,h.inj,h.eC.mono g⟩
theorem Marks.frame{w b:World}{Y:Hp}{B:Nat->Prop}{a:List Deferred}(h:Marks n0 w S Y G a)(c:Fr dr w B b)(f:∀D,ia D∈a->¬B D):Marks n0 b S Y G a:=by obtain⟨g,i,e,j,k⟩:=h;refine⟨z8 g c.size,i,e,j,fun D hd=>?_⟩;obtain⟨l,d,m⟩:=k D hd;exact⟨l,(c.block D (z6.1 d).1 (f D (by rw[e];exact List.mem_map_of_mem hd))).trans d,m⟩
theorem Br{D a:Nat}(h:ia D=ia a):D=a:=by
 unfold ia at h;injection h with h
 injection h
theorem Marks.at{w:World}{Y:Hp}{a:List Deferred}(h:Marks n0 w S Y G a){D:Nat}(hd:ia D∈a):n0<=D/\w.heap[D]?=some (.deferred (some []))/\¬S D/\∀id b,Y id=some b->(G id).g≠D:=by obtain⟨i,j,rfl,k,c⟩:=h;obtain⟨d,e,f⟩:=qq.1 hd;rw[<-Br f];exact c d e
theorem QH.frame{st:St}{a:Act}{w e:World}{B:Nat->Prop}(h:QH dr P w0 S0 L N Z0 G0 n0 st S G a w)(c:Fr dr w B e)(g:∀b,B b->VO S G st.Y b)(j:∀b,B b->L b\/w0.heap.size<=b)
  (k:∀D,ia D∈a.defers->¬B D):QH dr P w0 S0 L N Z0 G0 n0 st S G a e:=by
 have l:∀b,S b->S b/\e.heap[b]?=w.heap[b]?:=fun b d=>⟨d,c.block b (h.inv.st b d) fun f=>(g b f).1 d⟩
 refine⟨h.inv.frame c g,fun t=>(h.Zq t).mono l (zk _) (fun _ _=>rfl),h.size,h.defers.frame c k,h.s0,h.s1,h.own,h.fr.trans c fun b d m=>?_,h.up,h.loc⟩;rcases j b m with i|i
 ·exact i
 ·omega
theorem QH.zbn{st:St}{a:Act}{w d:World}{B:Nat->Prop}(h:QH dr P w0 S0 L N Z0 G0 0 st S G a w)(e:Fr dr w B d)(g:∀b,B b->VO S G st.Y b)(i:∀D,ia D∈a.defers->¬B D):QH dr P d S (kn st.Y G) N st.Z G 0 st S G a d:=by
 have j:∀b,S b->S b/\d.heap[b]?=w.heap[b]?:=fun b c=>⟨c,e.block b (h.inv.st b c) fun f=>(g b f).1 c⟩
 exact⟨h.inv.frame e g,fun t=>(h.Zq t).mono j (zk _) (fun _ _=>rfl),h.size,h.defers.frame e i,fun _ h=>h,fun _ h=>.inl h,fun id b c=>.inl ⟨id,b,c,rfl⟩,Fr.refl _ _,zk _,fun _ _=>rfl⟩
theorem QH.inner{st:St}{a:Act}{w:World}(h:QH dr P w0 S0 L N Z0 G0 n0 st S G a w):QH dr P w S (kn st.Y G) N st.Z G 0 st S G {a with defers:=[]} w:=
 ⟨h.inv,h.Zq,h.size,.nil (jb _),fun _ h=>h,fun _ h=>.inl h,fun id b c=>.inl ⟨id,b,c,rfl⟩,Fr.refl _ _,zk _,fun _ _=>rfl⟩
theorem QH.stp{Y:Hp}{Z:Nat}{b:Nat->Prop}{c:Nat->GI}{st:St}{a:Act}{w d:World}(h:QH dr P w S (kn Y G) N Z G n0 st b c a d):kN dr P Y Z S G w st.Y st.Z b c d:=⟨h.inv,h.up,h.loc,h.s0,h.s1,h.own,h.fr⟩
end
def Bs(dr:Prop)(P:Program)(g:FuncId)(it:Qf):Prop:=
 (∃fn,P.funcs[g]?=some fn/\(fn.name== "runtime.NumGoroutine")=false/\fn.body.isNone=false) /\
 ∀cap Y Z xs Y1,it cap Y=some (xs,Y1)->∃us:List Value,xs=us.map O.v/\(∀u∈us,lit u=true)/\(∀id b,Y1 id=some b->Y id=some b) /\
  ∀(w:World) (S:Nat->Prop) (G:Nat->GI) (vs:List Value),Inv P w S G Y Z->Zip (qw w S G Z) cap vs ->
   ∃B:Nat->Prop,(∀b,B b->kn Y G b/\VO S G Y1 b) /\
    ∀(n l:Nat) (J c:List Value->World->Prop),
     (∀pre W a,J pre W->Fr dr W B a->J pre a)->(∀pre W a,c pre W->Fr dr W B a->c pre a)->(∀pre W,J pre W->Ij P W fun b=>b<W.heap.size) ->
     (∀pre x W,J pre W->us[pre.length]?=some x->YieldAt Fence.wide n P l #[x] W fun e a=>(e=.returned (.bool true)/\J (pre++[x]) a/\(∀b,B b->a.heap[b]?=W.heap[b]?)/\W.heap.size<=a.heap.size)\/(e=.returned (.bool false)/\c (pre++[x]) a)) ->
     ∀W,J [] W->(∀b,B b->W.heap[b]?=w.heap[b]?)->w.heap.size<=W.heap.size ->
      CallsIn Fence.wide (n+1) P g (#[.func (.yield l) #[] #[]]++vs.toArray) W fun e a=>(∃v,e=.returned v)/\(J us a\/∃pre,c pre a)
abbrev IX:=Bs True
theorem Tz{w:World}{S:Nat->Prop}{G:Nat->GI}{Z:Nat}{u:Value}(h:lit u=true):qw w S G Z (.v u) u:=.c (.v h)
theorem ES{w:World}{l:Nat}(o:Obj)(B:Nat->Prop)(a:B l):Fr dr w B (w.putObj l o):=
 ⟨rfl,rfl,rfl,by simp,fun _=>zk _,fun k _ b=>zhi fun e=>b (e ▸ a)⟩
theorem ma(hΓ:∀g spec,C.Γ g=some spec->wO dr C.P g spec)(hpf:∀g spec,pf g=true->C.Γ g=some spec->QQ spec)(hbk:∀g spec,C.bk g=true->C.Γ g=some spec->Wb spec)(hit:∀g it,C.it g=some it->Bs dr C.P g it)(hm:C.P.follows .mixedOrders=true) :
  ∀(c:Code),vJ pf C.dyn C.M6 C.bk N c=true->∀(F:Fence) (n:Nat),D8 F->(F=Fence.wide\/jP c=true)->∀(w0:World) (S0 L:Nat->Prop) (Z0:Nat) (G0:Nat->GI) (n0:Nat) (st st':St) (e:Exit) (a:Act) (w:World) (Q:Exit->Act->World->Prop),n0<=w0.heap.size->wa C c st=some (e,st')->jE dr C.P w0 S0 L N Z0 G0 n0 st a w ->
   (∀a' w',jE dr C.P w0 S0 L N Z0 G0 n0 st' a' w'->Q e a' w')->c.wpIn F n C.P Q a w:=by
 intro c
 induction c with
 |skip=>
  intro _ F n hF _ w0 S0 L Z0 G0 n0 st st' e a w Q _ h hs hQ;simp only[wa]at h;injection h with h
  injection h with e1 e2;subst e1;subst e2;exact wpIn_skip (hQ a w hs)
 |region id ops draw=>
  intro hok F n hF _ w0 S0 L Z0 G0 n0 st st' e a w Q _ h hs hQ;simp only[vJ,zD,qT,QF]at hok;obtain⟨hN0,hdraw⟩:=hok;have hN:∀(i:Nat) (o:Oper),ops[i]?=some o->∀d,o.dst=some d->d<N:=by intro i o ho d hd;have:=aM.1 hN0 o (hK ho);simpa[hd]using this
  simp only[wa]at h;split at h
  case h_2=>cases h
  rename_i st1 hth;have hs:=hs.AN hth;clear hth;generalize st1=st at h hs;split at h
  case isFalse=>cases h
  rename_i hA;split at h
  ·rename_i s hs1;injection h with h
   injection h with e1 e2;subst e1;subst e2;cases draw with
   |false=>exact wpIn_region (Yk hΓ hN hF _ st s a w (by rw[aW];exact hs1) hs hQ)
   |true=>
    have hd:lT (G8 pf (C.dyn id) (C.M6 id) C.bk ops) ops=true/\tq pf (C.dyn id) (C.M6 id) C.bk ops=true:=by simpa using hdraw
    refine wpIn_region_draw fun t=>?_
    simp only[Region.schedule,hm,Bool.true_or,zK];exact Yk hΓ hN hF _ st s a _ (Ty (NC hpf hbk hd.2) hd.1 _ _ _ ⟨hA,fun _=>hs.top⟩ hs1) hs.drew hQ
  ·cases h
 |seq x y ihx ihy=>
  intro hok F n hF hno w0 S0 L Z0 G0 n0 st st' e a w Q hn0 h hs hQ;simp only[vJ,zD]at hok;have hnx:F=Fence.wide\/jP x=true:=hno.imp (fun h=>h) fun h=>by simp only[jP,zD]at h;exact h.1
  have hny:F=Fence.wide\/jP y=true:=hno.imp (fun h=>h) fun h=>by simp only[jP,zD]at h;exact h.2
  simp only[wa]at h;split at h
  ·rename_i s hx;exact wpIn_seq (ihx hok.1 F n hF hnx w0 S0 L Z0 G0 n0 st s .normal a w _ hn0 hx hs fun a' w' hs'=>ihy hok.2 F n hF hny w0 S0 L Z0 G0 n0 s st' e a' w' Q hn0 h hs' hQ)
  ·rename_i r hr;refine wpIn_seq (ihx hok.1 F n hF hnx w0 S0 L Z0 G0 n0 st st' e a w _ hn0 h hs fun a' w' hs'=>?_);have:=hQ a' w' hs';cases e<;>first
    |exact this
    |exact(hr _ h).elim
 |cond c x y ihx ihy=>
  intro hok F n hF hno w0 S0 L Z0 G0 n0 st st' e a w Q hn0 h hs hQ;simp only[vJ,zD]at hok;have hnx:F=Fence.wide\/jP x=true:=hno.imp (fun h=>h) fun h=>by simp only[jP,zD]at h;exact h.1
  have hny:F=Fence.wide\/jP y=true:=hno.imp (fun h=>h) fun h=>by simp only[jP,zD]at h;exact h.2
  simp only[wa]at h;obtain⟨S,G,hS⟩:=hs;split at h
  ·rename_i hc;obtain⟨hv,_⟩:=(Jk hS.Zq hc).yn;exact wpIn_cond_true hv (ihx hok.1 F n hF hnx w0 S0 L Z0 G0 n0 st st' e a w Q hn0 h ⟨S,G,hS⟩ hQ)
  ·rename_i hc;obtain⟨hv,_⟩:=(Jk hS.Zq hc).yn;exact wpIn_cond_false hv (ihy hok.2 F n hF hny w0 S0 L Z0 G0 n0 st st' e a w Q hn0 h ⟨S,G,hS⟩ hQ)
  ·cases h
 |block id b ih=>
  intro hok F n hF hno w0 S0 L Z0 G0 n0 st st' e a w Q hn0 h hs hQ;simp only[vJ]at hok;have hnb:F=Fence.wide\/jP b=true:=hno.imp (fun h=>h) fun h=>by simp only[jP]at h;exact h
  simp only[wa]at h;split at h
  ·rename_i i s hb;refine wpIn_block (ih hok F n hF hnb w0 S0 L Z0 G0 n0 st s (.exit i) a w _ hn0 hb hs fun a' w' hs'=>?_);unfold Exit.inBlock;split at h
   ·rename_i hi;injection h with h
    injection h with e1 e2;subst e1;subst e2;simp[hi,hQ a' w' hs']
   ·rename_i hi;injection h with h
    injection h with e1 e2;subst e1;subst e2;simp[hi,hQ a' w' hs']
  ·rename_i r hr;refine wpIn_block (ih hok F n hF hnb w0 S0 L Z0 G0 n0 st st' e a w _ hn0 h hs fun a' w' hs'=>?_);have:=hQ a' w' hs';cases e<;>first
    |exact this
    |exact(hr _ _ h).elim
 |loop b ih=>
  intro hok F n hF hno w0 S0 L Z0 G0 n0 st st' e a w Q hn0 h hs hQ;simp only[vJ]at hok;have hnb:F=Fence.wide\/jP b=true:=hno.imp (fun h=>h) fun h=>by simp only[jP]at h;exact h
  simp only[wa]at h;obtain⟨m,hm'⟩:=Q8 h;refine wpIn_loop_rounds m ?_;clear h
  induction m generalizing st a w with
  |zero=>simp[iter]at hm'
  |succ m ihn=>
   rw[roundsIn_succ];simp only[iter]at hm';split at hm'
   ·rename_i s hb;exact ih hok F n hF hnb w0 S0 L Z0 G0 n0 st s .normal a w _ hn0 hb hs fun a' w' hs'=>ihn s a' w' hs' hm'
   ·rename_i r hr;refine ih hok F n hF hnb w0 S0 L Z0 G0 n0 st st' e a w _ hn0 hm' hs fun a' w' hs'=>?_
    have:=hQ a' w' hs';cases e<;>first
     |exact this
     |exact(hr _ hm').elim
 |rangeFunc f ps x y ihx ihy=>
  intro hok F n hF hno w0 S0 L Z0 G0 n0 st st' e a w Q hn0 h hs hQ;obtain rfl:F=Fence.wide:=hno.resolve_right (by simp[jP]);simp only[vJ,zD]at hok;obtain⟨⟨⟨⟨hps,hnx⟩,hny⟩,hox⟩,hoy⟩:=hok;simp only[wa]at h;split at h
  case h_2=>cases h
  rename_i p g cap hpl hfg;split at h
  case h_2=>cases h
  rename_i it hIt;split at h
  case h_2=>cases h
  rename_i xs Y1 hx;split at h
  case h_2=>cases h
  rename_i e0 Y2 SC hro;injection h with h
  injection h with e1 e2;subst e1;subst e2;obtain⟨S,G,hS⟩:=hs;obtain⟨⟨gfn,gf1,gf2,gf3⟩,hitS⟩:=hit g it hIt;obtain⟨us,rfl,hlit,hsub,hrun⟩:=hitS cap st.Y st.Z _ Y1 hx;obtain⟨aZ,vs,ev,l1,l2,r1,r2⟩:=(Jk hS.Zq hfg).AO;obtain rfl:aZ=#[]:=by simpa using l1.symm
  obtain⟨B,hB,hcalls⟩:=hrun w S G vs.toList hS.inv ⟨by simpa using l2,fun j pv u hj hu=>r2 j pv u hj (by simpa using hu)⟩;have hBlt:∀b,B b->b<w.heap.size:=fun b hb=>by obtain⟨id,blk,h1,rfl⟩:=(hB b hb).1;exact(hS.inv.live id blk h1).lt
  have hpN:p<N:=by have:=aM.1 hps p (by rw[<-Array.mem_toList_iff,hpl];simp);simpa using this
  have hps1:ps=#[p]:=by apply Sv.1;rw[hpl]
  subst hps1;refine wpIn_rangeFunc fun fn hfn=>?_
  obtain⟨rec,hrec⟩:∃rec:LoopState->Option Code->Loop,rec=fun s pe=>{state:=s,pending:=pe,fn,tmps:=a.tmps,params:=#[p],assign:=x,body:=y,defers:=w.heap.size}:=⟨_,rfl⟩
  obtain⟨W1,hW1⟩:=wM ((w.alloc (.deferred (some []))).alloc (.loop (rec .ready none)));have hL1:W1.heap[w.heap.size+1]?=some (.loop (rec .ready none)):=by rw[<-hW1];have:=World.alloc_heap_new (w.alloc (.deferred (some []))) (.loop (rec .ready none));rwa [World.size_alloc]at this
  have hK1:W1.heap[w.heap.size]?=some (.deferred (some [])):=by rw[<-hW1];exact(Below.heap_alloc _ _ _ (by simp)).trans (World.alloc_heap_new w _)
  have hsz1:W1.heap.size=w.heap.size+2:=by rw[<-hW1];simp
  have hold1:∀b,b<w.heap.size->W1.heap[b]?=w.heap[b]?:=fun b hb=>by rw[<-hW1];exact(Below.heap_alloc _ _ _ (by simp;omega)).trans (Below.heap_alloc w _ b hb)
  have fr1:Fr dr w (fun _=>False) W1:=⟨by rw[<-hW1];rfl,by rw[<-hW1];rfl,by rw[<-hW1];rfl,by omega,fun _=>by rw[<-hW1];exact zk _,fun k hk _=>hold1 k hk⟩;obtain⟨l,hl⟩:∃l,l=w.heap.size+1:=⟨_,rfl⟩;obtain⟨a1,ha1⟩:∃a1:Act,a1={a with defers:=ia w.heap.size::a.defers}:=⟨_,rfl⟩;have hfreshAway:∀b,w.heap.size<=b->VO S G Y1 b:=fun b hb=>⟨fun hs=>by have:=hS.inv.st b hs;omega,fun id blk hid he=>by have:=(hS.inv.live id blk (hsub id blk hid)).lt;omega⟩
  have hk0:Inv C.P W1 S G Y1 st.Z:=by have h1:Inv C.P w S G Y1 st.Z:=⟨hS.inv.st,fun id b hb=>hS.inv.top id b (hsub id b hb),fun id b hb=>hS.inv.live id b (hsub id b hb),fun id b hb=>hS.inv.apart id b (hsub id b hb),fun id id' b b' hb hb' he=>hS.inv.inj id id' b b' (hsub id b hb) (hsub id' b' hb') he,hS.inv.eC⟩;exact h1.frame fr1 (fun _ h=>h.elim)
  have hsim1:QH dr C.P w0 S0 L N Z0 G0 n0 ⟨st.M,Y1,st.Z⟩ S G a1 W1:=by
   subst ha1;obtain⟨hd0,Ds,hd1,hd2,hd3⟩:=hS.defers;refine⟨hk0,fun t=>(hS.Zq t).mono (fun b hb=>⟨hb,hold1 b (hS.inv.st b hb)⟩) (zk _) (fun _ _=>rfl),hS.size,⟨by omega,w.heap.size::Ds,by simp[hd1],?_,?_⟩,hS.s0,hS.s1,fun id b hb=>hS.own id b (hsub id b hb),hS.fr.trans fr1 (fun _ _ h=>h.elim),hS.up,hS.loc⟩
   ·refine List.nodup_cons.2 ⟨fun hm=>?_,hd2⟩;have:=(z6.1 (hd3 _ hm).2.1).1;omega
   ·intro D hD;rcases zv.1 hD with rfl|hD
    ·exact⟨hd0,hK1,(hfreshAway _ (zk _))⟩
    ·obtain⟨g1,g2,g4,g3⟩:=hd3 D hD;exact⟨g1,(hold1 D (z6.1 g2).1).trans g2,g4,fun id b hb=>g3 id b (hsub id b hb)⟩
  have hsmall:w0.heap.size<=w.heap.size:=hS.fr.size;have hBL:∀b,B b->L b\/w0.heap.size<=b:=fun b hb=>by obtain⟨id,blk,h1,rfl⟩:=(hB b hb).1;exact hS.own id blk h1
  have hmk:∀D,ia D∈a1.defers->¬B D/\¬D=l:=by
   intro D hD;subst ha1;rcases zv.1 hD with h1|h1
   ·obtain rfl:=Br h1;exact⟨fun hb=>by have:=hBlt _ hb;omega,by omega⟩
   ·obtain⟨g1,g2,_,g3⟩:=hS.defers.at h1;have:=(z6.1 g2).1;refine⟨fun hb=>?_,by omega⟩;obtain⟨id,blk,h2,h3⟩:=(hB D hb).1;exact g3 id blk h2 h3
  have hlB:¬B l:=fun hb=>by have:=hBlt l hb;omega
  obtain⟨Good,hGood⟩:∃Good:Hp->Nat->(Nat->Prop)->(Nat->GI)->LoopState->Option Code->World->Prop,Good=fun Y Z S G s pe W=>
    QH dr C.P w0 S0 L N Z0 G0 n0 ⟨st.M,Y,Z⟩ S G a1 W/\(∀b,B b->VO S G Y b)/\VO S G Y l/\W.heap[l]?=some (.loop (rec s pe))/\w.heap.size<=W.heap.size:=⟨_,rfl⟩
  have good_frame:∀{Y Z S G s pe W W'},Good Y Z S G s pe W->Fr dr W B W'->Good Y Z S G s pe W':=by intro Y Z S G s pe W W' hg fr;subst hGood;obtain⟨g1,g2,g3,g4,g5⟩:=hg;exact⟨g1.frame fr g2 hBL (fun D hD=>(hmk D hD).1),g2,g3,(fr.block l (z6.1 g4).1 hlB).trans g4,z8 g5 fr.size⟩
  have good_put:∀{Y Z S G s pe W} (s':LoopState) (pe':Option Code),Good Y Z S G s pe W->Good Y Z S G s' pe' (W.putObj l (.loop (rec s' pe'))):=by intro Y Z S G s pe W s' pe' hg;subst hGood;obtain⟨g1,g2,g3,g4,g5⟩:=hg;refine⟨g1.frame (ES _ (fun b=>b=l) rfl) (fun b hb=>hb ▸ g3) (fun b hb=>.inr (by omega)) (fun D hD=>(hmk D hD).2),g2,g3,World.putObj_heap_same (z6.1 g4).1,by simpa using g5⟩
  have X1:∀{Y Z S G s pe W Y' Z' S' G' W'},Good Y Z S G s pe W->kN dr C.P Y Z S G W Y' Z' S' G' W'->Good Y' Z' S' G' s pe W'/\∀b,B b->W'.heap[b]?=W.heap[b]?:=by intro Y Z S G s pe W Y' Z' S' G' W' hg k;subst hGood;obtain⟨g1,g2,g3,g4,g5⟩:=hg;have hll:=(z6.1 g4).1;refine⟨⟨g1.step (dst:=none) k kA (fun _ h=>by cases h),fun b hb=>(g2 b hb).step k (yi (hBlt b hb) g5),g3.step k hll,(g3.same k hll).trans g4,z8 g5 k.fr.size⟩,fun b hb=>(g2 b hb).same k (yi (hBlt b hb) g5)⟩
  obtain⟨J,hJ⟩:∃J:List Value->World->Prop,J=fun pre W=>∃Y Z S G,Good Y Z S G .ready none W/\KH (wa C x) (wa C y) st.M p ((us.drop pre.length).map O.v) Y Z=some (e0,Y2,SC):=⟨_,rfl⟩
  obtain⟨Jx,hJx⟩:∃Jx:List Value->World->Prop,Jx=fun _ W=>∃c S G,Good Y2 SC S G .done (some c) W/\(c=.ret/\e0=.ret\/∃i,c=.exit i/\e0=.exit i):=⟨_,rfl⟩
  have hJ0:J [] W1:=by subst hJ;refine⟨Y1,st.Z,S,G,?_,hro⟩;subst hGood;exact⟨hsim1,fun b hb=>(hB b hb).2,hfreshAway l (by omega),by rw[hl];exact hL1,by omega⟩
  have gf2':¬gfn.name= "runtime.NumGoroutine":=by simpa using gf2
  have gf3':¬gfn.body=none:=by intro h;simp[h]at gf3
  refine⟨l,[ia w.heap.size],W1,{target:=.fn (.func g) vs,args:=#[.func (.yield l) #[] #[]]},W1,g,#[.func (.yield l) #[] #[]]++vs,W1,?_,?_,?_,?_,(fun h=>by simp[Fence.wide]at h),?_⟩
  ·rw[hl,<-hW1,hrec];exact run_enterLoop_outer _ _ _ _ _
  ·simp only[resolve,ev];simp[go_sem]
  ·intro f' _;trivial
  ·simp[invoke,callFunc,gf1,gf2',gf3']
  ·have hround:∀pre u W,J pre W->us[pre.length]?=some u->YieldAt Fence.wide 0 C.P l #[u] W fun e W'=>(e=.returned (.bool true)/\J (pre++[u]) W'/\(∀b,B b->W'.heap[b]?=W.heap[b]?)/\W.heap.size<=W'.heap.size)\/(e=.returned (.bool false)/\Jx (pre++[u]) W'):=by
    intro pre u W hj hu;subst hJ;obtain⟨Y,Z,S1,G1,hg,hr⟩:=hj;obtain⟨hlt,hue⟩:=zj.1 hu;rw[zl hlt,hue]at hr;simp only[wK,KH]at hr;split at hr
    case h_2=>cases hr
    rename_i s1 hfx;have hg1:=hg;rw[hGood]at hg1;obtain⟨g1,g2,g3,g4,g5⟩:=hg1;have hy:=run_yield (P:=C.P) (args:=#[u]) g4 (by rw[hrec];rfl);rw[hrec]at hy;refine⟨fn,_,x,y,hy,roundIn_of_wpIn (F:=Fence.wide) trivial ?_⟩;have hin:=(g1.step (dst:=some p) (u:=u) (.refl g1.inv) (Tz (hlit u (zT hu))) (fun d hd=>by cases hd;exact hpN)).inner;have htm:(#[p].zip #[u]).foldl (fun tmps (t,a)=>tmps.setIfInBounds t a) a.tmps=a.tmps.setIfInBounds p u:=by simp
    rw[ha1]at hin;rw[htm];refine ihx hox (Fence.wide.inRound l) 0 (.inr ⟨l,rfl⟩) (.inr hnx) W S1 (kn Y G1) Z G1 0 _ s1 .normal _ W _ (jb _) hfx ⟨S1,G1,hin⟩ fun a2 w2 hs2=>?_
    obtain⟨S2,G2,h2⟩:=hs2;obtain⟨hg2,hb2⟩:=X1 hg h2.stp;have hl2:w2.heap[l]?=some (.loop (rec .ready none)):=by rw[hGood]at hg2;exact hg2.2.2.2.1
    have hbr:=run_beginRound (P:=C.P) hl2 (by rw[hrec]);have hrb:({rec .ready none with state:=.busy}:Loop)=rec .busy none:=by rw[hrec]
    rw[hrb]at hbr;refine⟨_,hbr,?_⟩;have hg3:=good_put .busy none hg2;have hal2:VO S2 G2 s1.Y l:=by rw[hGood]at hg2;exact hg2.2.2.1
    have h3:=h2.zbn (ES (.loop (rec .busy none)) (fun b=>b=l) rfl) (fun b hb=>hb ▸ hal2) (fun D hD e=>by have:=(h2.defers.at hD).2.1;rw[e,hl2]at this;cases this)
    cases hfy:wa C y s1 with
    |none=>rw[hfy]at hr;cases hr
    |some r2=>
     obtain⟨e2,s2⟩:=r2;rw[hfy]at hr;refine ihy hoy (Fence.wide.inRound l) 0 (.inr ⟨l,rfl⟩) (.inr hny) _ S2 (kn s1.Y G2) s1.Z G2 0 s1 s2 e2 a2 _ _ (jb _) hfy ⟨S2,G2,h3⟩ fun a4 w4 hs4=>?_
     obtain⟨S4,G4,h4⟩:=hs4;obtain⟨hg4,hb4⟩:=X1 hg3 h4.stp;have hl4:w4.heap[l]?=some (.loop (rec .busy none)):=by rw[hGood]at hg4;exact hg4.2.2.2.1
     have hbb:∀b,B b->w4.heap[b]?=W.heap[b]?:=fun b hb=>(hb4 b hb).trans ((zhi (k:=b) (r:=l) (fun e=>hlB (by rw[<-e];exact hb))).trans (hb2 b hb))
     have hsz:W.heap.size<=w4.heap.size:=by have q1:=h2.fr.size;have q2:=h4.fr.size;rw[World.putObj_size]at q2;exact z8 q1 q2
     cases e2 with
     |normal=>
      have he:=run_endRound (P:=C.P) none hl4;have hrr:({rec .busy none with state:=if(none:Option Code).isNone then .ready else .done,pending:=none}:Loop)=rec .ready none:=by rw[hrec];rfl
      rw[hrr]at he;refine⟨_,_,he,.inl ⟨rfl,⟨s2.Y,s2.Z,S4,G4,good_put .ready none hg4,by simpa using hr⟩,fun b hb=>(zhi (k:=b) (r:=l) (fun e=>hlB (by rw[<-e];exact hb))).trans (hbb b hb),by simpa using hsz⟩⟩
     |ret=>
      have he:=run_endRound (P:=C.P) (some .ret) hl4;have hrr:({rec .busy none with state:=if(some Code.ret:Option Code).isNone then .ready else .done,pending:=some .ret}:Loop)=rec .done (some .ret):=by rw[hrec];rfl
      rw[hrr]at he;simp only at hr;injection hr with hr
      injection hr with r1 hr;injection hr with r2 r3;subst r1;subst r2;subst r3;refine⟨_,_,he,.inr ⟨rfl,?_⟩⟩;rw[hJx];exact⟨.ret,S4,G4,good_put .done (some .ret) hg4,.inl ⟨rfl,rfl⟩⟩
     |exit i=>
      have he:=run_endRound (P:=C.P) (some (.exit i)) hl4;have hrr:({rec .busy none with state:=if(some (Code.exit i):Option Code).isNone then .ready else .done,pending:=some (.exit i)}:Loop)=rec .done (some (.exit i)):=by rw[hrec];rfl
      rw[hrr]at he;simp only at hr;injection hr with hr
      injection hr with r1 hr;injection hr with r2 r3;subst r1;subst r2;subst r3;refine⟨_,_,he,.inr ⟨rfl,?_⟩⟩;rw[hJx];exact⟨.exit i,S4,G4,good_put .done (some (.exit i)) hg4,.inr ⟨i,rfl,rfl⟩⟩
     |_=>cases hr
   have hcl:=hcalls 0 l J Jx (fun pre W W' hj fr=>by
     subst hJ;obtain⟨Y,Z,S1,G1,hg,hr⟩:=hj;exact⟨Y,Z,S1,G1,good_frame hg fr,hr⟩) (fun pre W W' hj fr=>by
     subst hJx;obtain⟨c,S1,G1,hg,hr⟩:=hj;exact⟨c,S1,G1,good_frame hg fr,hr⟩) (fun pre W hj=>by
     subst hJ;obtain⟨Y,Z,S1,G1,hg,hr⟩:=hj;rw[hGood]at hg;exact hg.1.inv.eC.mono fun b hb=>⟨hg.1.inv.st b hb,rfl⟩) hround W1 hJ0 (fun b hb=>hold1 b (hBlt b hb)) (by omega)
   refine oO.2 ((oO.1 hcl).mono ?_);rintro e W2 ⟨⟨v,rfl⟩,hj|⟨pre,hj⟩⟩
   ·rw[hJ]at hj;obtain⟨Y,Z,S1,G1,hg,hr⟩:=hj;rw[zA]at hr;simp only[QE,KH]at hr;injection hr with hr
    injection hr with r1 hr;injection hr with r2 r3;subst r1;subst r2;subst r3;have hl2:W2.heap[l]?=some (.loop (rec .ready none)):=by rw[hGood]at hg;exact hg.2.2.2.1
    have he:=run_endLoop (P:=C.P) hl2 (by rw[hrec];simp);have hrr:({rec .ready none with state:=.exhausted}:Loop)=rec .exhausted none:=by rw[hrec]
    have hrp:(rec .ready none).pending=none:=by rw[hrec]
    rw[hrr,hrp]at he;have hg':=good_put .exhausted none hg;rw[hGood]at hg';have hq:=hQ a1 _ ⟨S1,G1,hg'.1⟩;rw[ha1]at hq;exact⟨none,_,he,hq⟩
   ·rw[hJx]at hj;obtain⟨c,S1,G1,hg,hc⟩:=hj;have hl2:W2.heap[l]?=some (.loop (rec .done (some c))):=by rw[hGood]at hg;exact hg.2.2.2.1
    have he:=run_endLoop (P:=C.P) hl2 (by rw[hrec];simp);have hrr:({rec .done (some c)with state:=.exhausted}:Loop)=rec .exhausted (some c):=by rw[hrec]
    have hrp:(rec .done (some c)).pending=some c:=by rw[hrec]
    rw[hrr,hrp]at he;have hg':=good_put .exhausted (some c) hg;rw[hGood]at hg';have hq:=hQ a1 _ ⟨S1,G1,hg'.1⟩;rw[ha1]at hq;refine⟨some c,_,he,?_⟩;rcases hc with⟨rfl,rfl⟩|⟨i,rfl,rfl⟩
    ·exact wpIn_ret hq
    ·exact wpIn_exit hq
 |exit id=>
  intro _ F n hF _ w0 S0 L Z0 G0 n0 st st' e a w Q _ h hs hQ;simp only[wa]at h;injection h with h
  injection h with e1 e2;subst e1;subst e2;exact wpIn_exit (hQ a w hs)
 |scope b _=>intro _ F n hF _ w0 S0 L Z0 G0 n0 st st' e a w Q _ h;simp[wa]at h
 |label l=>
  intro _ F n hF _ w0 S0 L Z0 G0 n0 st st' e a w Q _ h hs hQ;simp only[wa]at h;injection h with h
  injection h with e1 e2;subst e1;subst e2;exact wpIn_label (hQ a w hs)
 |goto l=>intro _ F n hF _ w0 S0 L Z0 G0 n0 st st' e a w Q _ h;simp[wa]at h
 |ret=>
  intro _ F n hF _ w0 S0 L Z0 G0 n0 st st' e a w Q _ h hs hQ;simp only[wa]at h;injection h with h
  injection h with e1 e2;subst e1;subst e2;exact wpIn_ret (hQ a w hs)
 |refuse why=>intro _ F n hF _ w0 S0 L Z0 G0 n0 st st' e a w Q _ h;simp[wa]at h
end
end Go.AM
