/- Lemmas. -/
import Derived.Orders
import Derived.LoopNIn
import Derived.RangeFuncRecord
import Derived.RangeFuncSeq
import Derived.Test.YtcebnehlnlcckaaGreatDoorG2
set_option maxRecDepth 8000
open Go Proofs Proofs.YtcebnehlnlcckaaGreatDoor Proofs.Tryz RowKit AM SpanLaw Q Zz
namespace Go.AM
def xQ(pf:FuncId->Bool):Op->Nat
 | .move _|.assign _|.pick ..|.build ..|.binOp ..|.unOp ..|.convert ..|.makeFunc ..|.fieldAddr ..|.field ..|.index ..|.extract ..|.nilCheck _=>0
 | .load ..|.indexAddr ..|.slice ..=>1
 | .call c=>match c.callee with
  | .builtin .len|.builtin .min|.builtin .max=>0
  | .value (.func g)=>if pf g then 1 else 2
  |_=>2
 |_=>2
def Q9(a:AM.Spec):Prop:=∀args Y Z r c d,a args Y Z=some (r,c,d)->(c=Y/\d=Z)/\∀b,Y Z=none->a args (qR Y Z b) (Z+1)=some (r,qR Y Z b,Z+1)
section
variable{C:Ctx}{pf:FuncId->Bool}
theorem JZ{α:Type}{o:Option O}{Y b:α}{Z c:Nat}{x:O}(h:(o.map fun y=>(y,Y,Z))=some (x,b,c)):o=some x/\b=Y/\c=Z:=by obtain⟨y,d,a⟩:=zV h;injection a with e a;injection a with f g;subst e;subst f;subst g;exact⟨d,rfl,rfl⟩
theorem LN(k:∀g a,pf g=true->C.Γ g=some a->Q9 a){op:Op}(e:xQ pf op<=1){U:Nat->O}{Y i:Hp}{Z j:Nat}{x:O}(h:zU C (get U) Y Z op=some (x,i,j)):i=Y/\j=Z:=by
 have d:∀{y:O},some (y,Y,Z)=some (x,i,j)->i=Y/\j=Z:=by
  intro y h;injection h with h
  injection h with _ h;injection h with p q;exact⟨p.symm,q.symm⟩
 cases op<;>simp only[xQ]at e<;>(try omega)<;>simp only[zU]at h
 case move=>exact(JZ h).2
 case assign=>exact(JZ h).2
 case pick=>split at h<;>first|exact(JZ h).2|cases h
 case build=>split at h<;>first|exact(JZ h).2|cases h
 case load=>split at h<;>first|exact(JZ h).2|cases h
 case nilCheck=>split at h<;>first|exact d h|cases h
 case binOp=>split at h<;>first|exact(JZ h).2|cases h
 case unOp=>split at h<;>first|exact(JZ h).2|cases h
 case convert=>split at h<;>first|exact(JZ h).2|cases h
 case makeFunc=>split at h<;>first|exact d h|cases h
 case slice t x lo hi s=>cases s<;>simp only at h<;>first|(split at h<;>first|exact(JZ h).2|cases h)|cases h
 case fieldAddr=>split at h<;>first|exact(JZ h).2|cases h
 case field=>split at h<;>first|exact(JZ h).2|cases h
 case indexAddr=>split at h<;>first|exact(JZ h).2|cases h
 case index=>split at h<;>first|exact(JZ h).2|cases h
 case extract=>split at h<;>first|exact(JZ h).2|cases h
 case call c=>
  unfold xO at h;split at h
  ·rename_i xs _;cases l:c.callee with
   |invoke r m=>rw[l]at h;cases h
   |builtin b=>
    rw[l]at e h;cases b<;>simp at e<;>simp only[yn]at h
    ·split at h<;>first|exact(JZ h).2|cases h
    ·exact(JZ h).2
    ·exact(JZ h).2
   |value f=>
    rw[l]at e h;cases f<;>simp at e;rename_i n;simp only[jH,get]at h;split at h
    ·rename_i a u;exact(k n a (by by_cases o:pf n=true;exact o;simp[o]at e) u _ _ _ _ _ _ h).1
    ·cases h
  ·cases h
theorem GG{op:Op}(d:xQ pf op=0){e:Operand->Option O}(Y Y2:Hp)(Z g:Nat):zU C e Y2 g op=(zU C e Y Z op).map fun r=>(r.1,Y2,g):=by
 cases op<;>simp only[xQ]at d<;>(try (exact absurd d (by omega)))<;>simp only[zU]
 case move x=>cases e x<;>rfl
 case assign x=>cases e x<;>rfl
 case pick c a b=>split<;>simp[vj,jz]
 case build t i=>split<;>simp[vj,jz]
 case nilCheck x=>split<;>rfl
 case binOp=>split<;>simp[vj,jz]
 case unOp=>split<;>simp[vj,jz]
 case convert=>split<;>simp[vj,jz]
 case makeFunc=>split<;>rfl
 case fieldAddr=>split<;>simp[vj,jz]
 case field=>split<;>simp[vj,jz]
 case index=>split<;>simp[vj,jz]
 case extract=>split<;>simp[vj,jz]
 case call c=>
  unfold xO;cases yh (c.args.toList.map e)with
  |none=>rfl
  |some xs=>
   simp only;cases h:c.callee with
   |value f=>rw[h]at d;cases f<;>simp at d;split at d<;>omega
   |invoke r m=>rfl
   |builtin b=>
    rw[h]at d;cases b<;>simp at d<;>simp only[yn]
    ·split<;>simp[vj,jz]
    ·simp[vj,jz]
    ·simp[vj,jz]
theorem UP{op:Op}(c:xQ pf op=0){b:Operand->Option O}{Y d:Hp}{Z e:Nat}{x:O}(h:zU C b Y Z op=some (x,d,e))(Y2:Hp)(a:Nat):zU C b Y2 a op=some (x,Y2,a):=by rw[GG c Y Y2 Z a,h];rfl
theorem J0{b a:Operand->Option O}:∀{l:List (Nat×Operand)},(∀p∈l,b p.2=a p.2)->vo b l=vo a l
 |[],_=>rfl
 |(i,x)::l,h=>by simp only[vo];rw[h (i,x) (by simp),J0 (l:=l) fun p Y=>h p (by simp[Y])]
theorem rb{o e:Operand->Option O}{op:Op}{Y:Hp}{Z:Nat}(h:∀x∈op.operands.toList,o x=e x):zU C o Y Z op=zU C e Y Z op:=by
 cases op<;>simp only[Op.operands]at h<;>simp only[zU]
 case move x=>rw[h x (by simp)]
 case assign x=>rw[h x (by simp)]
 case pick c a b=>rw[h c (by simp),h a (by simp),h b (by simp)]
 case box t x=>rw[h x (by simp)]
 case build t q=>rw[J0 (l:=q.toList) fun p Y=>h p.2 (by simp only[qw];exact⟨p,Y,rfl⟩)]
 case buildSlice t n q=>rw[J0 (l:=q.toList) fun p Y=>h p.2 (by simp only[qw];exact⟨p,Y,rfl⟩)]
 case load t x=>rw[h x (by simp)]
 case store t a x=>rw[h a (by simp),h x (by simp)]
 case nilCheck x=>rw[h x (by simp)]
 case binOp op t x y B=>rw[h x (by simp),h y (by simp)]
 case unOp op t x=>rw[h x (by simp)]
 case convert s d x=>rw[h x (by simp)]
 case makeFunc f a b=>rw[pQ (g:=e) fun x j=>h x (by simp at j⊢;exact .inl j),pQ (l:=b.toList) (g:=e) fun x j=>h x (by simp at j⊢;exact .inr j)]
 case makeSlice t l c=>rw[h l (by simp),h c (by simp)]
 case slice t x lo hi w=>
  cases w with
  |some m=>rfl
  |none=>
   simp only;rw[h x (by simp)];have u:lo.map o=lo.map e:=by cases lo with
    |none=>rfl
    |some y=>simp only[zy];rw[h y (by simp)]
   have v:hi.map o=hi.map e:=by cases hi with
    |none=>rfl
    |some y=>simp only[zy];rw[h y (by simp)]
   rw[u,v]
 case fieldAddr t x f=>rw[h x (by simp)]
 case field t x f=>rw[h x (by simp)]
 case indexAddr t x i=>rw[h x (by simp),h i (by simp)]
 case index t x i=>rw[h x (by simp),h i (by simp)]
 case extract x i=>rw[h x (by simp)]
 case makeMap t r=>cases r<;>rfl
 case lookup t x i D=>rw[h x (by simp),h i (by simp)]
 case mapUpdate t m k x=>rw[h m (by simp),h k (by simp),h x (by simp)]
 case insert t m k x=>rw[h m (by simp),h k (by simp),h x (by simp)]
 case call c=>
  unfold xO;have z:c.args.toList.map o=c.args.toList.map e:=pQ fun x j=>h x (by simp only[Call.operands,Array.toList_append,zK];exact .inr j)
  rw[z];cases yh (c.args.toList.map e)with
  |none=>rfl
  |some xs=>
   simp only;cases A:c.callee with
   |value f=>simp only;rw[h f (by simp[Call.operands,A])]
   |invoke r m=>rfl
   |builtin b=>rfl
def ki(C:Ctx)(a:Array Oper)(o:Oper)(U:Nat->O)(Y:Hp)(Z:Nat):Option (O×Hp×Nat):=
 if Region.wanted o (QA a U)=true then zU C (get U) Y Z o.op else some (.wP [],Y,Z)
theorem yH(a:Array Oper)(o:Oper)(st:St):yD C a o st=(ki C a o st.U st.Y st.Z).map fun r=>⟨put st.U o.dst r.1,r.2.1,r.2.2⟩:=by
 unfold yD ki;split
 ·cases zU C (get st.U) st.Y st.Z o.op<;>rfl
 ·rfl
theorem QB{a:Array Oper}{o:Oper}{U c:Nat->O}{Y:Hp}{Z:Nat}(h:∀t,t∈o.looksAt a->U t=c t):ki C a o U Y Z=ki C a o c Y Z:=by
 have e:Region.wanted o (QA a U)=Region.wanted o (QA a c):=by
  unfold Region.wanted;split
  ·rfl
  ·rename_i j b i;have:QA a U j=QA a c j:=by
    unfold QA;split
    ·rename_i d hd;rw[h d (by simp[Oper.looksAt,i,hd])]
    ·rfl
   rw[this]
 unfold ki;rw[e];split
 ·refine rb fun x k=>?_
  cases x with
  |tmp t=>simp only[get];rw[h t];simp only[Oper.looksAt,zK,List.mem_filterMap];exact .inl ⟨.tmp t,k,rfl⟩
  |const x=>rfl
  |global g=>rfl
  |func f=>rfl
 ·rfl
theorem xv{U:Nat->O}{d:Option Tmp}{x:O}{t:Nat}(h:∀e,d=some e->e≠t):put U d x t=U t:=by
 cases d with
 |none=>rfl
 |some e=>exact wi _ _ _ _ fun a=>h e rfl a.symm
theorem ic{U:Nat->O}{d e:Option Tmp}{x y:O}(h:∀k,d=some k->e≠some k):put (put U d x) e y=put (put U e y) d x:=by
 cases d with
 |none=>rfl
 |some k=>
  cases e with
  |none=>rfl
  |some m=>
   have a:m≠k:=fun b=>h k rfl (by rw[b])
   funext i;simp only[put,qR];by_cases c:i=m<;>by_cases f:i=k<;>simp_all
def LO(pf:FuncId->Bool)(c:Array Oper)(a b:Oper):Bool:=
 a.apart c b&&(xQ pf a.op==0||xQ pf b.op==0||(decide (xQ pf a.op<=1)&&decide (xQ pf b.op<=1)))
theorem aj{b:Array Oper}{o:Oper}{U:Nat->O}{Y d:Hp}{Z f:Nat}{x:O}(g:xQ pf o.op=0)(h:ki C b o U Y Z=some (x,d,f))(Y2:Hp)(a:Nat):ki C b o U Y2 a=some (x,Y2,a):=by
 unfold ki at h⊢;split at h
 ·rename_i c;rw[ze c];exact UP g h Y2 a
 ·rename_i c;rw[zd c];injection h with h
  injection h with e _;subst e;rfl
theorem W7(b:∀g a,pf g=true->C.Γ g=some a->Q9 a){c:Array Oper}{o:Oper}{U:Nat->O}{Y d:Hp}{Z e:Nat}{x:O}(f:xQ pf o.op<=1)(h:ki C c o U Y Z=some (x,d,e)):d=Y/\e=Z:=by
 unfold ki at h;split at h
 ·exact LN b f h
 ·injection h with h;injection h with _ h;injection h with i j;exact⟨i.symm,j.symm⟩
theorem uj{c:Array Oper}{a b:Oper}(j:xQ pf a.op=0)(p:∀d,a.dst=some d->d ∉ b.looksAt c)(q:∀d,a.dst=some d->b.dst≠some d)(s:∀d,b.dst=some d->d ∉ a.looksAt c)(st:St) :
  (yD C c a st).bind (yD C c b)=(yD C c b st).bind (yD C c a):=by
 have u:∀x Y Z,ki C c b (put st.U a.dst x) Y Z=ki C c b st.U Y Z:=fun x Y Z=>QB fun t k=>xv fun e l g=>p e l (g ▸ k)
 have o:∀x Y Z,ki C c a (put st.U b.dst x) Y Z=ki C c a st.U Y Z:=fun x Y Z=>QB fun t k=>xv fun e l g=>s e l (g ▸ k)
 have i:∀x y,put (put st.U a.dst x) b.dst y=put (put st.U b.dst y) a.dst x:=fun x y=>ic q
 rw[yH c a st,yH c b st];cases f:ki C c a st.U st.Y st.Z with
 |none=>
  cases m:ki C c b st.U st.Y st.Z with
  |none=>rfl
  |some r=>
   obtain⟨y,Y2,n⟩:=r;simp only[xL,gw,zy,zZ];rw[yH];simp only[o];cases v:ki C c a st.U Y2 n with
   |none=>rfl
   |some w=>obtain⟨x,z,D⟩:=w;rw[aj j v st.Y st.Z]at f;cases f
 |some r=>
  obtain⟨x,Y1,n1⟩:=r;have h:=aj j f st.Y st.Z;rw[f]at h;injection h with h;injection h with _ h;injection h with A B;subst A;subst B;simp only[zy,zZ];rw[yH];simp only[u];cases m:ki C c b st.U st.Y st.Z with
  |none=>rfl
  |some r=>obtain⟨y,Y2,n⟩:=r;simp only[zy,zZ];rw[yH];simp only[o,aj j f Y2 n,zy,i]
theorem GH(i:∀g f,pf g=true->C.Γ g=some f->Q9 f){c:Array Oper}{a b:Oper}(h:LO pf c a b=true)(st:St) :
  (yD C c a st).bind (yD C c b)=(yD C c b st).bind (yD C c a):=by
 simp only[LO,zC]at h;obtain⟨o,m⟩:=h;obtain⟨p,q,s⟩:=Oper.apart_spec o;simp only[qS,jq,zC,qz]at m;rcases m with(h|h)|⟨A,w⟩
 ·exact uj h p q s st
 ·exact(uj h s (fun d hd B=>q d B hd) p st).symm
 ·have D:∀x Y Z,ki C c b (put st.U a.dst x) Y Z=ki C c b st.U Y Z:=fun x Y Z=>QB fun t u=>xv fun e v j=>p e v (j ▸ u)
  have z:∀x Y Z,ki C c a (put st.U b.dst x) Y Z=ki C c a st.U Y Z:=fun x Y Z=>QB fun t u=>xv fun e v j=>s e v (j ▸ u)
  have n:∀x y,put (put st.U a.dst x) b.dst y=put (put st.U b.dst y) a.dst x:=fun x y=>ic q
  rw[yH c a st,yH c b st];cases k:ki C c a st.U st.Y st.Z with
  |none=>
   cases l:ki C c b st.U st.Y st.Z with
   |none=>rfl
   |some r=>obtain⟨y,Y2,E⟩:=r;obtain⟨rfl,rfl⟩:=W7 i w l;simp only[xL,gw,zy,zZ];rw[yH];simp only[z,k,xL]
  |some r=>
   obtain⟨x,Y1,n1⟩:=r;obtain⟨rfl,rfl⟩:=W7 i A k;simp only[zy,zZ];rw[yH];simp only[D];cases l:ki C c b st.U st.Y st.Z with
   |none=>rfl
   |some r=>obtain⟨y,Y2,E⟩:=r;obtain⟨rfl,rfl⟩:=W7 i w l;simp only[zy,zZ];rw[yH];simp only[z,k,zy,n]
def kn(C:Ctx)(a:Array Oper):List Nat->St->Option St
 |[],st=>some st
 |i::l,st=>match a[i]? with
  |none=>kn C a l st
  |some o=>(yD C a o st).bind (kn C a l)
def ie(acc:List Nat)(o:Oper):Nat:=o.after.toList.foldl (fun s e=>if Region.binds .any e then s||| 2 ^ e.on||| acc.getD e.on 0 else s) 0
def re(c:Oper->Oper->Bool)(b:Array Oper):List Oper->Nat->List Nat->Bool
 |[],_,_=>true
 |o::l,i,a=>
  o.after.toList.all (fun e=>!Region.binds .any e||decide (e.on<i)) &&
  (List.range i).all (fun j=>(ie a o).testBit j||(match b[j]? with|some p=>c p o|none=>false)) &&
  re c b l (i+1) (a++[ie a o])
def ak(a:Array Oper)(L:Nat->Prop):Prop:=∀k o,L k->a[k]?=some o->∀e∈o.after.toList,Region.binds .any e=true->L e.on
def oe(L:Nat->Prop)(o:Oper):Prop:=∀e∈o.after.toList,Region.binds .any e=true->L e.on
theorem og(acc:List Nat)(j:Nat):∀(l:List Edge) (s:Nat),(l.foldl (fun s e=>if Region.binds .any e then s||| 2 ^ e.on||| acc.getD e.on 0 else s) s).testBit j=true ->
  s.testBit j=true\/∃e∈l,Region.binds .any e=true/\(j=e.on\/(acc.getD e.on 0).testBit j=true)
 |[],s,h=>.inl h
 |e::l,s,h=>by
  simp only[vA]at h;rcases og acc j l _ h with h1|⟨c,h1,d,f⟩
  ·split at h1
   ·rename_i a;simp only[Nat.testBit_or,qS]at h1;rcases h1 with(h1|h1)|h1
    ·exact .inl h1
    ·refine .inr ⟨e,by simp,a,.inl ?_⟩;by_cases b:j=e.on
     ·exact b
     ·rw[Nat.testBit_two_pow_of_ne (fun h=>b h.symm)]at h1;cases h1
    ·exact .inr ⟨e,by simp,a,.inr h1⟩
   ·exact .inl h1
  ·exact .inr ⟨c,by simp[h1],d,f⟩
def dh(a:Array Oper)(b:List Nat):Prop:=∀(k m:Nat),b[k]?=some m->∀o,a[k]?=some o->∀L,ak a L->oe L o->∀j,m.testBit j=true->L j
theorem V8{a:Array Oper}{b:List Nat}(n:dh a b){o:Oper}(L:Nat->Prop)(k:ak a L)(Y:oe L o)(p:∀e∈o.after.toList,Region.binds .any e=true->e.on<a.size)(j:Nat)(h:(ie b o).testBit j=true):L j:=by
 rcases og b j _ 0 h with g|⟨e,g,l,c⟩
 ·simp at g
 ·have d:=Y e g l;rcases c with rfl|c
  ·exact d
  ·cases i:b[e.on]? with
   |none=>rw[JO,i]at c;simp at c
   |some m=>rw[JO,i]at c;have f:=p e g l;exact n e.on m i a[e.on] (by simp[f]) L k (k e.on _ d (by simp[f])) j c
theorem eO{y:Oper->Oper->Bool}{a:Array Oper}:∀{l:List Oper} {i:Nat} {b:List Nat},re y a l i b=true->b.length=i->(∀k,l[k]?=a[i+k]?)->dh a b ->
  ∀k o,l[k]?=some o->(∀e∈o.after.toList,Region.binds .any e=true->e.on<i+k)/\∀j,j<i+k->(∀L,ak a L->oe L o->L j)\/∃p,a[j]?=some p/\y p o=true
 |[],i,b,_,_,_,_,k,o,r=>by simp at r
 |o'::l,i,b,h,z,s,A,k,o,r=>by
  simp only[re,zC,zY,qS,vk,qz,ye]at h;obtain⟨⟨C,D⟩,E⟩:=h;have t:a[i]?=some o':=by have:=s 0;simpa using this.symm
  have hi:i<a.size:=(qh.1 t).1;have B:∀e∈o'.after.toList,Region.binds .any e=true->e.on<i:=fun e v d=>by
   rcases C e v with h|h
   ·rw[d]at h;cases h
   ·exact h
  have u:∀L,ak a L->oe L o'->∀j,(ie b o').testBit j=true->L j:=fun L g Y j n=>V8 A L g Y (fun e v d=>by have:=B e v d;omega) j n
  cases k with
  |zero=>
   simp at r;subst r;refine⟨by simpa using B,fun j n=>?_⟩;rcases D j (by simpa using n)with h|h
   ·exact .inl fun L g Y=>u L g Y j h
   ·split at h
    ·rename_i p Y;exact .inr ⟨p,Y,h⟩
    ·cases h
  |succ k=>
   have w:dh a (b++[ie b o']):=by
    intro q m f F c L g Y j n;by_cases x:q<b.length
    ·rw[z8 x]at f;exact A q m f F c L g Y j n
    ·rw[zQ (by omega)]at f;have:q=i:=by have:=(zi.1 f).1;simp at this;omega
     subst this;rw[z]at f;simp at f;subst f;rw[t]at c;injection c with c
     subst c;exact u L g Y j n
   have:=eO E (by simp[z]) (fun q=>by have:=s (q+1);simpa[gQ,cW 1 q]using this) w k o (by simpa using r);rwa [show i+1+k=i+(k+1)from by omega]at this
def ig(b:Oper->Oper->Bool)(a:Array Oper):Bool:=re b a a.toList 0 []
theorem eP{b:Oper->Oper->Bool}{a:Array Oper}(h:ig b a=true):∀i o,a[i]?=some o->(∀e∈o.after.toList,Region.binds .any e=true->e.on<i)/\∀j,j<i->(∀L,ak a L->oe L o->L j)\/∃p,a[j]?=some p/\b p o=true:=by intro i o c;have:=eO h rfl (by simp) (fun k m d=>by simp at d) i o (by simpa using c);simpa using this
structure tS (C:Ctx) (ops:Array Oper) (cm:Oper->Oper->Bool) (A:St->Prop):Prop where
 keep:∀(i:Nat) (o:Oper) (st st':St),ops[i]?=some o->A st->yD C ops o st=some st'->A st'
 comm:∀(i j:Nat) (a b:Oper) (st st':St),ops[i]?=some a->ops[j]?=some b->cm a b=true->A st->(yD C ops a st).bind (yD C ops b)=some st'->(yD C ops b st).bind (yD C ops a)=some st'
theorem XT{a:Array Oper}{s:Oper->Oper->Bool}{A:St->Prop}(l:tS C a s A){i:Nat}{o:Oper}(f:a[i]?=some o)(b:List Nat):∀(pre:List Nat) (st r:St),A st->(∀j∈pre,∃p,a[j]?=some p/\s p o=true) ->
  kn C a (pre++i::b) st=some r->kn C a (i::(pre++b)) st=some r
 |[],st,r,_,_,h=>h
 |j::pre,st,r,t,h,d=>by
  obtain⟨p,Y,m⟩:=h j (by simp);simp only[q7,kn,Y]at d;cases hs:yD C a p st with
  |none=>rw[hs]at d;cases d
  |some c=>
   rw[hs,zZ]at d;have e:=XT l f b pre c r (l.keep j p st c Y t hs) (fun k v=>h k (by simp[v])) d;simp only[kn,f]at e;cases n:yD C a o c with
   |none=>rw[n]at e;cases e
   |some q=>
    rw[n,zZ]at e;have g:=l.comm j i p o st q Y f m t (by rw[hs,zZ];exact n);simp only[kn,f,q7,Y];cases u:yD C a o st with
    |none=>rw[u]at g;cases g
    |some w=>rw[u,zZ]at g;rw[zZ,g,zZ];exact e
def QU(a:AM.Spec):Prop:=∀args Y Z r b c,a args Y Z=some (r,b,c)->Z<=c/\∀id blk,id<Z->Y id=some blk->blk.arr=false->b id=some blk
def uk(L:List Tmp):Op->Bool
 | .load _ (.tmp a)=>L.contains a
 | .indexAddr _ (.tmp a) _=>L.contains a
 |_=>false
def ixB(L:List Tmp):Op->Bool
 | .indexAddr _ (.tmp a) _=>L.contains a
 |_=>false
def ij(a:FuncId->Bool):Op->Bool
 | .call ⟨.value (.func g),_,_⟩=>a g
 | .call ⟨.builtin .append,_,_⟩=>true
 | .buildSlice _ _ _=>true
 | .alloc _=>true
 |_=>false
def UQ:Op->Bool
 | .store _ _ _=>true
 |_=>false
def ik(D:List (Tmp×Tmp)):Op->Op->Bool
 | .load _ (.tmp a),.store _ (.tmp b) _=>D.contains (a,b)
 |_,_=>false
def PQ(D:List (Tmp×Tmp))(L:List Tmp)(a:FuncId->Bool)(p o:Op):Bool:=ik D p o||(uk L p&&ij a o)||(ixB L p&&UQ o)
def TE(D:List (Tmp×Tmp))(L:List Tmp)(b:FuncId->Bool)(a:Array Oper)(p o:Oper):Bool:=
 p.apart a o&&o.apart a p&&p.guard.isNone&&o.guard.isNone&&(PQ D L b p.op o.op||PQ D L b o.op p.op)
def GJ(L:List Tmp):Bool:=L.any fun s=>decide (zB<=s)
def V9(L:List Tmp):Op->Bool
 | .buildSlice _ _ a=>a.toList.all fun p=>match p.2 with
  | .tmp z=>L.contains (z+zB)
  |_=>false
 |_=>false
def br:Op->Bool
 | .load _ (.tmp _)=>true
 | .indexAddr _ (.tmp _) _=>true
 |_=>false
def di(pf:FuncId->Bool):Op->Bool
 | .call ⟨.value (.func g),_,_⟩=>pf g
 |_=>false
def LP:Op->Bool
 | .alloc _=>true
 |_=>false
def PR(pf:FuncId->Bool)(L:List Tmp)(a:Array Oper)(p o:Oper):Bool:=GJ L&&p.apart a o&&p.guard.isNone&&o.guard.isNone&&(br p.op||di pf p.op)&&(V9 L o.op||LP o.op)
def Fh(pf:FuncId->Bool)(D:List (Tmp×Tmp))(L:List Tmp)(b:FuncId->Bool)(a:Array Oper)(p o:Oper):Bool:=LO pf a p o||TE D L b a p o||PR pf L a p o
def UR(pf:FuncId->Bool)(o:Op):Bool:=decide (xQ pf o<=1)||match o with
 | .store _ _ _=>true
 | .call ⟨.builtin .append,_,_⟩=>true
 | .buildSlice _ _ _=>true
 | .alloc _=>true
 |_=>false
def CX(pf:FuncId->Bool)(L:List Tmp)(ops:Array Oper):Bool:=!GJ L||ops.all fun o=>UR pf o.op&&L.all fun s=>decide (s<zB)||o.dst != some (s-zB)||(o.guard.isNone&&match o.op with
 | .move (.tmp b)=>L.contains (b+zB)
 | .build _ a=>a.toList.all fun p=>match p.2 with
  | .tmp z=>L.contains (z+zB)
  |_=>false
 |_=>false)
def rf(pf:FuncId->Bool)(D:List (Tmp×Tmp))(L:List Tmp)(a:FuncId->Bool)(ops:Array Oper):Bool:=(D.isEmpty&&L.isEmpty)||ops.all fun o=>D.all (fun p=>o.dst != some p.2&&(o.dst != some p.1||match o.op with
    | .fieldAddr _ (.tmp s) _=>D.contains (s,p.2)
    | .indexAddr _ (.tmp s) _=>D.contains (s,p.2)&&L.contains s
    |_=>false)) &&
 L.all (fun s=>o.dst != some s||match o.op with
  | .fieldAddr _ (.tmp b) _=>L.contains b
  | .indexAddr _ (.tmp b) _=>L.contains b
  |_=>false) &&
 (decide (xQ pf o.op<=1)||match o.op with
  | .store _ _ _=>true
  | .call ⟨.value (.func g),_,_⟩=>D.all (fun p=>L.contains p.2)&&a g
  | .call ⟨.builtin .append,_,_⟩=>D.all (fun p=>L.contains p.2)
  | .buildSlice _ _ _=>D.all (fun p=>L.contains p.2)
  | .alloc _=>D.all (fun p=>L.contains p.2)
  |_=>false)
def rh(pf:FuncId->Bool)(D:List (Tmp×Tmp))(L:List Tmp)(b:FuncId->Bool)(a:Array Oper):Bool:=CX pf L a&&rf pf D L b a
end
section
variable{C:Ctx}{pf:FuncId->Bool}
theorem Va{Y Y1:Hp}{x y:O}(h:wV Y x=some (y,Y1)){id:Nat}{b:kN}(c:Y id=some b)(e:b.arr=false):Y1 id=some b:=by
 unfold wV at h;split at h
 ·split at h
  ·rename_i f a;split at h
   ·rename_i d;injection h with h
    injection h with _ h;subst h;rw[wi]
    ·exact c
    ·rintro rfl;rw[c]at a;injection a with a;subst a;rw[e]at d;cases d.1
   ·cases h
  ·cases h
 all_goals first
  |(injection h with h;injection h with _ h;subst h;exact c)
  |(split at h<;>first|(injection h with h;injection h with _ h;subst h;exact c)|cases h)
  |cases h
theorem KQ:∀{xs ys:zb} {Y Y1:Hp},wx Y xs=some (ys,Y1)->∀{id:Nat} {b:kN},Y id=some b->b.arr=false->Y1 id=some b
 |[],ys,Y,Y1,h,id,b,a,c=>by simp only[wx]at h;injection h with h;injection h with _ h;subst h;exact a
 |x::l,ys,Y,Y1,h,id,b,a,c=>by
  simp only[wx]at h;split at h
  ·rename_i y Y2 d;split at h
   ·rename_i r e f;injection h with h;injection h with _ h;subst h
    exact KQ f (Va d a c) c
   ·cases h
  ·cases h
theorem YW{Y Y1:Hp}{x y:O}(h:qD Y x=some (y,Y1)){id:Nat}{b:kN}(a:Y id=some b)(c:b.arr=false):Y1 id=some b:=by
 unfold qD at h;split at h
 ·split at h
  ·rename_i l e d;injection h with h;injection h with _ h;subst h
   exact KQ d a c
  ·cases h
 ·exact Va h a c
theorem GK{P:Program}{Y e:Hp}{t:TypeId}{p x:O}(h:Qy P Y t p x=some e){id:Nat}{b:kN}(f:Y id=some b)(d:b.arr=false):∃g,e id=some g/\g.arr=false:=by
 unfold Qy at h;split at h
 ·rename_i id' i j;split at h
  ·rename_i o m;split at h
   ·rename_i y Y1 c;have k:Y1 id=some b:=by
     split at c
     ·exact YW c f d
     ·injection c with c;injection c with _ c;subst c;exact f
    split at h
    ·rename_i q n a _;split at h
     ·split at h
      ·injection h with h;subst h;by_cases l:id=id'
       ·subst l;rw[k]at a;injection a with a
        subst a;exact⟨_,wL _ _ _,d⟩
       ·exact⟨b,by rw[wi _ _ _ _ l];exact k,d⟩
      ·cases h
     ·cases h
    ·cases h
   ·cases h
  ·cases h
 ·cases h
theorem CY{P:Program}{Y a:Hp}{t:TypeId}{id i j:Nat}{x:O}{b:kN}(h:Qy P Y t (.ref id i j) x=some a)(c:Y id=some b)(d:b.arr=false){k:Nat}(e:k≠id):a k=Y k:=by
 simp only[Qy,c,d]at h;simp only[zq,qn]at h;split at h
 ·split at h
  ·split at h
   ·injection h with h;subst h;exact wi _ _ _ _ e
   ·cases h
  ·cases h
 ·cases h
theorem bu{a:Array Oper}{l c:Oper}(o:l.apart a c=true){st:St}(p:∀Y Z y d f,ki C a l st.U Y Z=some (y,d,f)->d=Y/\f=Z)
  (g:∀z d f,ki C a c st.U st.Y st.Z=some (z,d,f)->(ki C a l st.U d f).map (·.1)=(ki C a l st.U st.Y st.Z).map (·.1)) :
  (yD C a l st).bind (yD C a c)=(yD C a c st).bind (yD C a l):=by
 obtain⟨B,D,E⟩:=Oper.apart_spec o;have cs:∀y Y Z,ki C a c (put st.U l.dst y) Y Z=ki C a c st.U Y Z:=fun y Y Z=>QB fun u s=>xv fun e t h=>B e t (h ▸ s)
 have x:∀y Y Z,ki C a l (put st.U c.dst y) Y Z=ki C a l st.U Y Z:=fun y Y Z=>QB fun u s=>xv fun e t h=>E e t (h ▸ s)
 have i:∀y z,put (put st.U l.dst y) c.dst z=put (put st.U c.dst z) l.dst y:=fun y z=>ic D
 rw[yH a l st,yH a c st];cases v:ki C a c st.U st.Y st.Z with
 |none=>
  cases j:ki C a l st.U st.Y st.Z with
  |none=>rfl
  |some q=>obtain⟨y,Y1,w⟩:=q;obtain⟨rfl,rfl⟩:=p _ _ _ _ _ j;simp only[zy,xL,zZ,gw];rw[yH];simp only[cs,v,xL]
 |some q=>
  obtain⟨z,d,f⟩:=q;have b:=g z d f v;cases j:ki C a l st.U st.Y st.Z with
  |none=>
   rw[j]at b;have F:ki C a l st.U d f=none:=by
    cases m:ki C a l st.U d f with
    |none=>rfl
    |some r=>rw[m]at b;cases b
   simp only[zy,xL,zZ,gw];rw[yH];simp only[x,F,xL]
  |some q=>
   obtain⟨y,Y1,w⟩:=q;obtain⟨rfl,rfl⟩:=p _ _ _ _ _ j;rw[j]at b;obtain⟨n,k,A⟩:∃n,ki C a l st.U d f=some n/\n.1=y:=by
    cases m:ki C a l st.U d f with
    |none=>rw[m]at b;cases b
    |some r=>rw[m]at b;injection b with b;exact⟨r,rfl,b⟩
   obtain⟨H,Y2,G⟩:=n;simp only at A;subst A;obtain⟨rfl,rfl⟩:=p _ _ _ _ _ k;simp only[zy,zZ];rw[yH,yH];simp only[cs,v,x,k,zy,i]
theorem jW{a:Array Oper}{o:Oper}(g:o.guard=none)(U:Nat->O)(Y:Hp)(Z:Nat):ki C a o U Y Z=zU C (get U) Y Z o.op:=by
 have w:Region.wanted o (QA a U)=true:=by unfold Region.wanted;rw[g]
 simp only[ki,w,qB]
theorem YX{P:Program}{Y b:Hp}{t:TypeId}{p:O}(a:∀id o n,p≠.own id o n)(q:O):qH P b t p q=qH P Y t p q:=by
 cases q with
 |v y=>
  cases y with
  |int w i=>
   cases p with
   |own id o n=>exact absurd rfl (a id o n)
   |_=>
    simp only[qH];cases wY P t with
    |none=>rfl
    |some e=>simp only;cases qv P e<;>rfl
  |_=>simp only[qH]
 |_=>simp only[qH]
theorem GL{L:List Tmp}{op:Op}(b:uk L op=true){st:St}(g:Q6 L st){e:Hp}{Z k:Nat}(l:∀id blk,id<st.Z->st.Y id=some blk->blk.arr=false->e id=some blk) :
  (zU C (get st.U) e k op).map (·.1)=(zU C (get st.U) st.Y Z op).map (·.1):=by
 unfold uk at b;split at b
 ·rename_i t a;obtain⟨⟨c,d⟩,_⟩:=g a (by simpa using b);have:xB C.P e t (st.U a)=xB C.P st.Y t (st.U a):=by
   cases f:st.U a with
   |ref id i j=>obtain⟨m,blk,h,n⟩:=d id i j f;simp only[xB,l id blk m h n,h]
   |_=>rfl
  simp only[zU,get,this];cases xB C.P st.Y t (st.U a)<;>rfl
 ·rename_i t a i;obtain⟨⟨c,d⟩,_⟩:=g a (by simpa using b);have:∀q,qH C.P e t (st.U a) q=qH C.P st.Y t (st.U a) q:=by exact fun q=>YX c q
  simp only[zU,show get st.U (.tmp a)=some (st.U a)from rfl];cases get st.U i with
  |none=>rfl
  |some q=>simp only[this];cases qH C.P st.Y t (st.U a) q<;>rfl
 ·cases b
theorem al{op:Op}{U:Nat->O}{Y b:Hp}{Z c:Nat}{y:O}(d:(∃t a,op=.load t (.tmp a))\/∃t a i,op=.indexAddr t (.tmp a) i)(h:zU C (get U) Y Z op=some (y,b,c)):b=Y/\c=Z:=by
 rcases d with⟨t,a,rfl⟩|⟨t,a,i,rfl⟩
 ·simp only[zU,get]at h;exact(JZ h).2
 ·simp only[zU,get]at h;split at h
  ·exact(JZ h).2
  ·cases h
theorem LQ{L:List Tmp}{op:Op}(h:uk L op=true):(∃t a,op=.load t (.tmp a))\/∃t a i,op=.indexAddr t (.tmp a) i:=by
 unfold uk at h;split at h
 ·exact .inl ⟨_,_,rfl⟩
 ·exact .inr ⟨_,_,_,rfl⟩
 ·cases h
theorem KR:∀{e a:List (Nat×O)} {Y Y1:Hp},zp Y e=some (a,Y1)->∀{id:Nat} {b:kN},Y id=some b->b.arr=false->Y1 id=some b
 |[],a,Y,Y1,h,id,b,c,d=>by simp only[zp]at h;injection h with h;injection h with _ h;subst h;exact c
 |(i,x)::l,a,Y,Y1,h,id,b,c,d=>by
  simp only[zp]at h;split at h
  ·rename_i y Y2 f;split at h
   ·rename_i r g j;injection h with h;injection h with _ h;subst h
    exact KR j (YW f c d) d
   ·cases h
  ·cases h
theorem um{P:Program}{Y g:Hp}{Z i:Nat}{t u:TypeId}{s x y:O}(h:yW P Y Z t u s x=some (y,g,i)):Z<=i/\∀id blk,id<Z->Y id=some blk->blk.arr=false->g id=some blk:=by
 unfold yW at h;split at h
 ·split at h
  ·split at h
   ·split at h
    ·split at h
     ·split at h
      ·injection h with h;injection h with _ h;injection h with d f;subst d;subst f;exact⟨zk _,fun _ _ _ c _=>c⟩
      ·injection h with h;injection h with _ h;injection h with d f;subst d;subst f;exact⟨by omega,fun id blk hid c _=>by rw[wi _ _ _ _ (by omega)];exact c⟩
     ·cases h
    ·split at h
     ·rename_i b a;split at h
      ·rename_i j;injection h with h;injection h with _ h;injection h with d f
       subst d;subst f;refine⟨by omega,fun id blk hid c k=>?_⟩;rw[wi _ _ _ _ (by omega),wi _ _ _ _ (fun e=>by
        subst e;rw[c]at a;injection a with a
        subst a;rw[k]at j;cases j.1)]
       exact c
      ·cases h
     ·cases h
    ·cases h
   ·cases h
  ·cases h
 ·cases h
theorem dj{t:TypeId}{U:Nat->O}{Y a:Hp}{Z c:Nat}{z:O}(h:zU C (get U) Y Z (.alloc t)=some (z,a,c)):∃b,a=qR Y Z b/\c=Z+1:=by
 simp only[zU]at h;split at h
 ·split at h
  ·injection h with h;injection h with _ h;injection h with d e;exact⟨_,d.symm,e.symm⟩
  ·cases h
 ·cases h
theorem il{k:FuncId->Bool}(c:∀g a,k g=true->C.Γ g=some a->QU a){op:Op}(b:ij k op=true){U:Nat->O}{Y l:Hp}{Z m:Nat}{z:O}(h:zU C (get U) Y Z op=some (z,l,m)) :
  Z<=m/\∀id blk,id<Z->Y id=some blk->blk.arr=false->l id=some blk:=by
 unfold ij at b;split at b
 ·rename_i g o ts;simp only[zU,xO]at h;split at h
  ·simp only[get,jH]at h;split at h
   ·rename_i a hs;exact c g a b hs _ _ _ _ _ _ h
   ·cases h
  ·cases h
 ·rename_i o ts;simp only[zU,xO]at h;split at h
  ·simp only[yn]at h;split at h
   ·exact um h
   ·cases h
  ·cases h
 ·rename_i t len d;simp only[zU]at h;split at h
  ·rename_i r p;unfold zr at h;split at h
   ·split at h
    ·rename_i n s u Y1 _ _ e;split at h
     ·split at h
      ·injection h with h;injection h with _ h;injection h with f i;subst f;subst i;refine⟨by omega,fun id blk hid j q=>?_⟩;rw[wi _ _ _ _ (by omega)];exact KR e j q
      ·cases h
     ·cases h
    ·cases h
   ·cases h
  ·cases h
 ·rename_i t;obtain⟨v,f,i⟩:=dj h;subst f;subst i;refine⟨by omega,fun id blk hid j _=>?_⟩;rw[wi _ _ _ _ (by omega)];exact j
 ·cases b
theorem oh{I:FuncId->Bool}(B:∀g m,I g=true->C.Γ g=some m->QU m){D:List (Tmp×Tmp)}{L:List Tmp}{d:Array Oper}{l c:Oper}(J:PQ D L I l.op c.op=true)(e:l.guard=none)(K:c.guard=none)(n:l.apart d c=true){st:St}(Q:Ws D st)(M:Q6 L st) :
  (yD C d l st).bind (yD C d c)=(yD C d c st).bind (yD C d l):=by
 simp only[PQ,qS,zC]at J;rcases J with(f|⟨s,E⟩)|⟨k,R⟩
 ·unfold ik at f;split at f
  ·rename_i t a t' b x u S;refine bu n (fun Y Z y o v h=>?_) (fun z o v h=>?_)
   ·rw[jW e,u]at h;exact al (.inl ⟨_,_,rfl⟩) h
   ·rw[jW K,S]at h;rw[jW e,jW e,u];simp only[zU,get]at h;have r:xB C.P o t (st.U a)=xB C.P st.Y t (st.U a):=by
     cases F:st.U a with
     |ref id i j=>
      obtain⟨id',i',j',blk,T,G,W,w⟩:=Q (a,b) (by simpa using f) id i j F;rw[T]at h;split at h
      ·rename_i p q N X;simp only[zW]at N;subst N;obtain⟨h2,e1,A⟩:=zV h;injection A with _ A
       injection A with A _;subst A;simp only[xB,CY e1 W w G]
      ·cases h
     |_=>rfl
    simp only[zU,get,r];cases xB C.P st.Y t (st.U a)<;>rfl
  ·cases f
 ·refine bu n (fun Y Z y o v h=>?_) (fun z o v h=>?_)
  ·rw[jW e]at h;exact al (LQ s) h
  ·rw[jW K]at h;rw[jW e,jW e];exact GL s M (il B E h).2
 ·unfold ixB at k;split at k
  ·rename_i t a i u;refine bu n (fun Y Z y o v h=>?_) (fun z o v h=>?_)
   ·rw[jW e,u]at h;exact al (.inr ⟨_,_,_,rfl⟩) h
   ·rw[jW e,jW e,u];obtain⟨⟨H,_⟩,_⟩:=M a (by simpa using k);have:∀q,qH C.P o t (st.U a) q=qH C.P st.Y t (st.U a) q:=by exact fun q=>YX H q
    simp only[zU,show get st.U (.tmp a)=some (st.U a)from rfl];cases get st.U i with
    |none=>rfl
    |some q=>simp only[this];cases qH C.P st.Y t (st.U a) q<;>rfl
  ·cases k
theorem Vb{P:Program}{t:TypeId}{f:Nat}{p:O}{id i j:Nat}(h:yN P t f p=some (.ref id i j)):∃a b,p=.ref id a b:=by
 unfold yN at h;split at h
 ·split at h
  ·split at h
   ·cases h
   ·injection h with h;cases h
  ·cases h
 ·split at h
  ·split at h
   ·cases h
   ·injection h with h;injection h with c _ _;subst c;exact⟨_,_,rfl⟩
  ·cases h
 ·cases h
theorem im{P:Program}{t:TypeId}{f:Nat}{p:O}{id o n:Nat}(h:yN P t f p=some (.own id o n)):False:=by
 unfold yN at h;split at h
 ·split at h
  ·split at h
   ·cases h
   ·injection h with h;cases h
  ·cases h
 ·split at h
  ·split at h
   ·cases h
   ·injection h with h;cases h
  ·cases h
 ·cases h
theorem Vc{P:Program}{Y:Hp}{t:TypeId}{p q:O}{id i j:Nat}(h:qH P Y t p q=some (.ref id i j))(a:∀id o n,p≠.own id o n):∃b c,p=.ref id b c:=by
 unfold qH at h;split at h
 ·split at h
  ·split at h
   ·split at h
    ·obtain⟨z,_,e⟩:=zV h;cases e
    ·cases h
   ·exact absurd rfl (a _ _ _)
   ·cases h
  ·unfold x1 at h;split at h
   ·split at h
    ·split at h
     ·split at h
      ·injection h with h;cases h
      ·injection h with h;injection h with d _ _;subst d;exact⟨_,_,rfl⟩
      ·cases h
     ·cases h
    ·cases h
   ·cases h
 ·cases h
theorem iq{P:Program}{Y:Hp}{t:TypeId}{p q:O}{id o n:Nat}(h:qH P Y t p q=some (.own id o n)):False:=by
 unfold qH at h;split at h
 ·split at h
  ·split at h
   ·split at h
    ·obtain⟨z,_,e⟩:=zV h;cases e
    ·cases h
   ·split at h
    ·split at h
     ·injection h with h;cases h
     ·cases h
    ·cases h
   ·cases h
  ·unfold x1 at h;split at h
   ·split at h
    ·split at h
     ·split at h
      ·injection h with h;cases h
      ·injection h with h;cases h
      ·cases h
     ·cases h
    ·cases h
   ·cases h
 ·cases h
theorem ir{x:O}(h:x.WH=true)(Y:Hp):wV Y x=some (x,Y):=by cases x<;>first|rfl|cases h
theorem iu:∀{cs:zb},cs.all O.WH=true->∀Y:Hp,wx Y cs=some (cs,Y)
 |[],_,_=>rfl
 |x::cs,h,Y=>by simp only[wO,zC]at h;simp only[wx,ir h.1,iu h.2]
theorem LR{x:O}(h:x.shut=true)(a:∀cs,x≠.agg cs):x.WH=true:=by cases x<;>first|exact absurd rfl (a _)|exact h
theorem LS{x:O}(h:x.shut=true)(Y:Hp):qD Y x=some (x,Y):=by
 by_cases a:∀cs,x≠.agg cs
 ·have b:=ir (LR h a) Y;unfold qD;split
  ·exact absurd rfl (a _)
  ·exact b
 ·have:∃cs,x=.agg cs:=Classical.byContradiction fun c=>a fun cs e=>c ⟨cs,e⟩
  obtain⟨cs,rfl⟩:=this;simp only[qD,iu (cs:=cs) h]
theorem GM{x:O}(h:x.YS=true)(a:∀cs,x≠.wP cs):x.shut=true:=by cases x<;>first|exact absurd rfl (a _)|exact h
theorem GN{x y:O}(h:x.YS=true){Y Y1:Hp}(a:qD Y x=some (y,Y1)):Y1=Y:=by
 by_cases b:∀cs,x≠.wP cs
 ·rw[LS (GM h b)]at a;injection a with a
  injection a with _ a;exact a.symm
 ·exfalso;apply b;rintro cs rfl;cases a
theorem iv:∀{b a:List (Nat×O)} {Y Y1:Hp},(∀p∈b,p.2.YS=true)->zp Y b=some (a,Y1)->Y1=Y
 |[],a,Y,Y1,_,h=>by injection h with h;injection h with _ h;exact h.symm
 |(i,x)::l,a,Y,Y1,hs,h=>by
  simp only[zp]at h;split at h
  ·rename_i y Y2 c;split at h
   ·rename_i r d e;injection h with h;injection h with _ h;subst h
    rw[iv (fun p Y=>hs p (by simp[Y])) e,GN (hs (i,x) (by simp)) c]
   ·cases h
  ·cases h
theorem ri{x:O}(h:x.YS=true)(a:x.cells.all O.wW=true):x.cells.all O.WH=true:=by
 cases x with
 |agg cs=>exact h
 |wP cs=>simp[O.cells,O.wW]at a
 |_=>simpa[O.cells,O.YS,O.shut]using h
theorem uo{v:Value}{p:O}(h:da v=some p):p.WH=true:=by unfold da at h;split at h<;>first|(injection h with h;subst h;rfl)|cases h
theorem bw:∀{l:List Value} {a:zb},vG l=some a->a.all O.WH=true
 |[],a,h=>by injection h with h;subst h;rfl
 |x::l,a,h=>by
  simp only[vG]at h;split at h
  ·rename_i p r b c;injection h with h
   subst h;rw[wO,uo b,bw c];rfl
  ·cases h
theorem iw{P:Program}{t:TypeId}{z:zb}(h:yC P t=some z):z.all O.WH=true:=by
 unfold yC at h;cases a:(P.info? t).bind (·.zero)with
 |none=>rw[a]at h;cases h
 |some q=>rw[a]at h;exact bw h
theorem XU:∀{xs cs:zb} {off:Nat},cs.all O.WH=true->xs.all O.WH=true->(yS cs off xs).all O.WH=true
 |[],cs,off,h,_=>h
 |x::xs,cs,off,h,a=>by
  simp only[wO,zC]at a;simp only[yS];refine XU ?_ a.2;rw[zY]at h⊢;intro y b;rcases ZR b with b|rfl
  ·exact h y b
  ·exact a.1
theorem ao{b:Nat->Option (Nat×Nat)}:∀{c:List (Nat×O)} {cs r:zb},cs.all O.WH=true->(∀p∈c,p.2.YS=true)->qE b cs c=some r->r.all O.WH=true
 |[],cs,r,h,_,a=>by injection a with a;subst a;exact h
 |(i,x)::l,cs,r,h,Y,a=>by
  simp only[qE]at a;split at a
  ·split at a
   ·rename_i d;exact ao (XU h (ri (Y (i,x) (by simp)) d.2.2)) (fun p e=>Y p (by simp[e])) a
   ·cases a
  ·cases a
theorem uq{P:Program}{t:TypeId}{c:List (Nat×O)}{y:O}(Y:∀p∈c,p.2.YS=true)(h:qb P t c=some y):y.shut=true:=by
 unfold qb at h;split at h
 ·rename_i d z _ a;obtain⟨r,b,rfl⟩:=zV h;exact ao (iw a) Y b
 ·rename_i z _ a;split at h
  ·split at h
   ·obtain⟨r,b,rfl⟩:=zV h;exact ao (iw a) Y b
   ·cases h
  ·cases h
 ·cases h
theorem iy{b:Operand->Option O}:∀{l:List (Nat×Operand)} {a:List (Nat×O)},vo b l=some a->∀p∈a,∃q∈l,b q.2=some p.2
 |[],a,h,p,Y=>by injection h with h;subst h;cases Y
 |(i,x)::l,a,h,p,Y=>by
  simp only[vo]at h;split at h
  ·rename_i y r c d;injection h with h
   subst h;rcases zv.1 Y with rfl|Y
   ·exact⟨(i,x),by simp,c⟩
   ·obtain⟨q,f,e⟩:=iy d p Y;exact⟨q,by simp[f],e⟩
  ·cases h
theorem Fi{L:List Tmp}{st:St}(h:Q6 L st){z:Tmp}(a:L.contains (z+zB)=true):(st.U z).YS=true:=by have:=(h (z+zB) (by simpa using a)).2 (Nat.le_add_left _ _);simpa using this
theorem iz{L:List Tmp}{st:St}(h:Q6 L st){a:List (Nat×Operand)}(Y:(a.all fun p=>match p.2 with|.tmp z=>L.contains (z+zB)|_=>false)=true){c:List (Nat×O)}(hs:vo (get st.U) a=some c):∀p∈c,p.2.YS=true:=by
 intro p b;obtain⟨q,d,e⟩:=iy hs p b;have:=zY.1 Y q d;split at this
 ·rename_i z f;rw[f]at e;simp only[get,zW]at e;rw[<-e];exact Fi h this
 ·cases this
theorem US{x:O}(h:x.shut=true):x.YS=true:=by cases x<;>first|rfl|exact h
def aq(Y:Hp)(Z:Nat):Prop:=∀id b,Y id=some b->id<Z
theorem Vd{Y Y1:Hp}{x y:O}(h:wV Y x=some (y,Y1)){id:Nat}{b:kN}(a:Y1 id=some b):Y id=some b:=by
 unfold wV at h;split at h
 ·rename_i k off n;split at h
  ·rename_i d c;split at h
   ·injection h with h;injection h with _ h;subst h;by_cases e:id=k
    ·subst e;rw[wL]at a;cases a
    ·rwa [wi _ _ _ _ e]at a
   ·cases h
  ·cases h
 all_goals first
  |(injection h with h;injection h with _ h;subst h;exact a)
  |(split at h<;>first|(injection h with h;injection h with _ h;subst h;exact a)|cases h)
  |cases h
theorem KS:∀{xs ys:zb} {Y Y1:Hp},wx Y xs=some (ys,Y1)->∀{id:Nat} {b:kN},Y1 id=some b->Y id=some b
 |[],ys,Y,Y1,h,id,b,a=>by simp only[wx]at h;injection h with h;injection h with _ h;subst h;exact a
 |x::l,ys,Y,Y1,h,id,b,a=>by
  simp only[wx]at h;split at h
  ·rename_i y Y2 c;split at h
   ·rename_i r d e;injection h with h;injection h with _ h;subst h
    exact Vd c (KS e a)
   ·cases h
  ·cases h
theorem XV{Y Y1:Hp}{x y:O}(h:qD Y x=some (y,Y1)){id:Nat}{b:kN}(a:Y1 id=some b):Y id=some b:=by
 unfold qD at h;split at h
 ·split at h
  ·rename_i l d c;injection h with h;injection h with _ h;subst h
   exact KS c a
  ·cases h
 ·exact Vd h a
theorem KT:∀{d a:List (Nat×O)} {Y Y1:Hp},zp Y d=some (a,Y1)->∀{id:Nat} {b:kN},Y1 id=some b->Y id=some b
 |[],a,Y,Y1,h,id,b,c=>by simp only[zp]at h;injection h with h;injection h with _ h;subst h;exact c
 |(i,x)::l,a,Y,Y1,h,id,b,c=>by
  simp only[zp]at h;split at h
  ·rename_i y Y2 e;split at h
   ·rename_i r f g;injection h with h;injection h with _ h;subst h
    exact XV e (KT g c)
   ·cases h
  ·cases h
theorem rj{Y:Hp}{Z:Nat}(h:∀id b,Y id=some b->id<Z)(x:kN):aq (qR Y Z (some x)) (Z+1):=by
 intro id b a;by_cases e:id=Z
 ·omega
 ·rw[wi _ _ _ _ e]at a;have:=h id b a;omega
theorem GO{P:Program}{Y f:Hp}{t:TypeId}{p x:O}(h:Qy P Y t p x=some f){Z:Nat}(g:aq Y Z):aq f Z:=by
 unfold Qy at h;split at h
 ·rename_i k i j;split at h
  ·rename_i l d;split at h
   ·rename_i y Y1 a;have m:∀id b,Y1 id=some b->Y id=some b:=fun id b c=>by
     split at a
     ·exact XV a c
     ·injection a with a;injection a with _ a;subst a;exact c
    split at h
    ·split at h
     ·split at h
      ·injection h with h;subst h;intro id b c;by_cases e:id=k
       ·subst e;exact g id l d
       ·rw[wi _ _ _ _ e]at c;exact g id b (m id b c)
      ·cases h
     ·cases h
    ·cases h
   ·cases h
  ·cases h
 ·cases h
theorem CZ{P:Program}{Y f:Hp}{Z g:Nat}{t u:TypeId}{s x y:O}(h:yW P Y Z t u s x=some (y,f,g))(e:aq Y Z):aq f g:=by
 unfold yW at h;split at h
 ·split at h
  ·split at h
   ·split at h
    ·split at h
     ·split at h
      ·injection h with h;injection h with _ h;injection h with a c;subst a;subst c;exact e
      ·injection h with h;injection h with _ h;injection h with a c;subst a;subst c;exact rj e _
     ·cases h
    ·split at h
     ·rename_i k _ _ b i;split at h
      ·injection h with h;injection h with _ h;injection h with a c;subst a;subst c;refine rj (fun id j d=>?_) _;unfold qR at d;split at d
       ·cases d
       ·exact e id j d
      ·cases h
     ·cases h
    ·cases h
   ·cases h
  ·cases h
 ·cases h
theorem GP{P:Program}{Y c:Hp}{Z d:Nat}{t:TypeId}{len:Nat}{e:List (Nat×O)}{y:O}(h:zr P Y Z t len e=some (y,c,d))(f:aq Y Z):aq c d:=by
 unfold zr at h;split at h
 ·split at h
  ·rename_i n k l Y1 _ _ a;split at h
   ·split at h
    ·injection h with h;injection h with _ h;injection h with g i;subst g;subst i;exact rj (fun id b j=>f id b (KT a j)) _
    ·cases h
   ·cases h
  ·cases h
 ·cases h
theorem GQ(f:∀g a,pf g=true->C.Γ g=some a->Q9 a){op:Op}(c:UR pf op=true){U:Nat->O}{Y k:Hp}{Z l:Nat}{y:O}(h:zU C (get U) Y Z op=some (y,k,l))(e:aq Y Z):aq k l:=by
 simp only[UR,qS,qz]at c;rcases c with c|c
 ·obtain⟨rfl,rfl⟩:=LN f c h;exact e
 ·split at c
  ·simp only[zU]at h;split at h
   ·obtain⟨n,i,d⟩:=zV h;injection d with _ d;injection d with d m;subst d;subst m;exact GO i e
   ·cases h
  ·simp only[zU,xO]at h;split at h
   ·simp only[yn]at h;split at h
    ·exact CZ h e
    ·cases h
   ·cases h
  ·simp only[zU]at h;split at h
   ·exact GP h e
   ·cases h
  ·obtain⟨o,i,d⟩:=dj h;subst i;subst d;intro id b j;unfold qR at j;split at j
   ·omega
   ·have:=e id b j;omega
  ·cases c
theorem GR{P:Program}{Y c:Hp}{t:TypeId}{p y:O}(hs:∀id b,Y id=some b->c id=some b)(h:xB P Y t p=some y):xB P c t p=some y:=by
 cases p with
 |ref id i j=>
  simp only[xB]at h⊢;cases a:Y id with
  |none=>rw[a]at h;cases h
  |some b=>rw[a]at h;rw[hs id b a];exact h
 |_=>exact h
theorem iA{P:Program}{Y d:Hp}{t:TypeId}{p q y:O}(hs:∀id b,Y id=some b->d id=some b)(h:qH P Y t p q=some y):qH P d t p q=some y:=by
 by_cases a:∀id o n,p≠.own id o n
 ·rw[YX (Y:=Y) a];exact h
 ·have:∃id o n,p=.own id o n:=by refine Classical.byContradiction fun j=>a fun id o n e=>j ⟨id,o,n,e⟩
  obtain⟨id,o,n,rfl⟩:=this;cases q with
  |v z=>
   cases z with
   |int k i=>
    simp only[qH]at h⊢;cases f:wY P t with
    |none=>rw[f]at h;exact h
    |some e=>
     rw[f]at h;simp only at h⊢;cases g:qv P e with
     |none=>rw[g]at h;cases h
     |some m=>
      rw[g]at h;simp only at h⊢;cases c:Y id with
      |none=>rw[c]at h;cases h
      |some b=>rw[c]at h;rw[hs id b c];exact h
   |_=>cases h
  |_=>cases h
theorem GU{op:Op}(d:br op=true){U:Nat->O}{Y e:Hp}{Z g:Nat}{y:O}{k:Hp}{n1:Nat}(hs:∀id b,Y id=some b->e id=some b)(h:zU C (get U) Y Z op=some (y,k,n1)):zU C (get U) e g op=some (y,e,g):=by
 unfold br at d;split at d
 ·rename_i t a;simp only[zU,get]at h⊢;obtain⟨z,f,c⟩:=zV h;injection c with c _
  subst c;rw[GR hs f];rfl
 ·rename_i t a i;simp only[zU,show get U (.tmp a)=some (U a)from rfl]at h⊢;cases j:get U i with
  |none=>rw[j]at h;cases h
  |some q=>
   rw[j]at h;obtain⟨z,f,c⟩:=zV h;injection c with c _
   subst c;simp only[iA hs f];rfl
 ·cases d
theorem C2{op:Op}(h:br op=true):(∃t a,op=.load t (.tmp a))\/∃t a i,op=.indexAddr t (.tmp a) i:=by
 unfold br at h;split at h
 ·exact .inl ⟨_,_,rfl⟩
 ·exact .inr ⟨_,_,_,rfl⟩
 ·cases h
theorem GW{L:List Tmp}{t:TypeId}{len:Nat}{a:Array (Nat×Operand)}{st:St}(j:Q6 L st)(c:V9 L (.buildSlice t len a)=true){g:Hp}{i:Nat}{z:O}(h:zU C (get st.U) st.Y st.Z (.buildSlice t len a)=some (z,g,i)):∃b,g=qR st.Y st.Z b/\i=st.Z+1:=by
 simp only[V9]at c;simp only[zU]at h;split at h
 ·rename_i o e;have d:=iz j c e;unfold zr at h;split at h
  ·split at h
   ·rename_i n p q Y1 _ _ f;have k:=iv d f;subst k;split at h
    ·split at h
     ·injection h with h;injection h with _ h;injection h with l m;exact⟨_,l.symm,m.symm⟩
     ·cases h
    ·cases h
   ·cases h
  ·cases h
 ·cases h
theorem LU(r:∀g m,pf g=true->C.Γ g=some m->Q9 m){L:List Tmp}{n:Array Oper}{l c:Oper}(I:PR pf L n l c=true){st s:St}(P:Q6 L st)(J:aq st.Y st.Z)(hs:(yD C n l st).bind (yD C n c)=some s):(yD C n c st).bind (yD C n l)=some s:=by
 simp only[PR,zC,Option.isNone_iff_eq_none]at I;obtain⟨⟨⟨⟨⟨_,B⟩,x⟩,Q⟩,d⟩,f⟩:=I;have D:xQ pf l.op<=1:=by
  rcases Bool.or_eq_true_iff.1 d with d|d
  ·rcases C2 d with⟨t,a,e⟩|⟨t,a,i,e⟩<;>simp[e,xQ]
  ·unfold di at d;split at d
   ·rename_i g E ts j;simp[j,xQ,d]
   ·cases d
 have F:st.Y st.Z=none:=by
  cases R:st.Y st.Z with
  |none=>rfl
  |some b=>have:=J _ b R;omega
 cases k:ki C n l st.U st.Y st.Z with
 |none=>rw[yH,k]at hs;cases hs
 |some q=>
  obtain⟨y,S,n1⟩:=q;rw[<-bu B (fun Y Z y K M h=>W7 r D h) (fun z K M h=>?_)]
  ·exact hs
  ·rw[jW Q]at h;have u:∃b,K=qR st.Y st.Z b/\M=st.Z+1:=by
    rcases Bool.or_eq_true_iff.1 f with f|f
    ·have o:=f;unfold V9 at f;split at f
     ·rename_i t len G j;rw[j]at h o;exact GW P o h
     ·cases f
    ·unfold LP at f;split at f
     ·rename_i t j;rw[j]at h;exact dj h
     ·cases f
   obtain⟨b,rfl,rfl⟩:=u;rcases Bool.or_eq_true_iff.1 d with d|d
   ·have v:∀id A,st.Y id=some A->qR st.Y st.Z b id=some A:=fun id A N=>by rw[wi _ _ _ _ (by have:=J id A N;omega)];exact N
    rw[jW x]at k⊢;rw[jW x,k,GU d v k];rfl
   ·unfold di at d;split at d
    ·rename_i g E ts j;rw[jW x,j]at k⊢;rw[jW x,j,k];have H:zU C (get st.U) (qR st.Y st.Z b) (st.Z+1) (.call ⟨.value (.func g),E,ts⟩)=some (y,qR st.Y st.Z b,st.Z+1):=by
      simp only[zU,xO]at k⊢;cases w:yh (E.toList.map (get st.U))with
      |none=>rw[w]at k;cases k
      |some xs=>
       rw[w]at k;simp only[get,jH]at k⊢;cases p:C.Γ g with
       |none=>rw[p]at k;cases k
       |some m=>rw[p]at k;exact(r g m d p _ _ _ _ _ _ k).2 b F
     rw[H];rfl
    ·cases d
def AskA(D:List (Tmp×Tmp))(L:List Tmp)(st:St):Prop:=(Ws D st/\Q6 L st)/\(GJ L=true->aq st.Y st.Z)
theorem C3(X:∀g k,pf g=true->C.Γ g=some k->Q9 k){bk:FuncId->Bool}(hbk:∀g k,bk g=true->C.Γ g=some k->QU k){D:List (Tmp×Tmp)}{L:List Tmp}{I:Array Oper}(hpl:rf pf D L bk I=true){i:Nat}{o:Oper}{st J:St}(ho:I[i]?=some o)(G:Ws D st/\TB L st)(hs:yD C I o st=some J):Ws D J/\TB L J:=by
  simp only[rf,qS,zC]at hpl;rcases hpl with⟨hD,hL⟩|hpl
  ·have hD:D=[]:=by simpa using hD
   have hL:L=[]:=by simpa using hL
   subst hD;subst hL;exact⟨(fun p Y=>(by cases Y)),(fun s hs=>(by cases hs))⟩
  have h0:=XO.1 hpl o (fL ho);simp only[zC,qS,qz]at h0;obtain⟨⟨hd,hld⟩,hk⟩:=h0;rw[yH]at hs;obtain⟨r,a,pS⟩:=zV hs;obtain⟨y,Y1,Q⟩:=r;subst pS;have A:(∀id blk,st.Y id=some blk->blk.arr=false->D.all (fun p=>L.contains p.2)=false\/id<st.Z->∃K,Y1 id=some K/\K.arr=false)/\st.Z<=Q:=by
   have h:∀{op:Op},o.op=op->ij bk op=true->D.all (fun p=>L.contains p.2)=true->(∀id blk,st.Y id=some blk->blk.arr=false->D.all (fun p=>L.contains p.2)=false\/id<st.Z->∃K,Y1 id=some K/\K.arr=false)/\st.Z<=Q:=by
    intro op c hf M;unfold ki at a;split at a
    ·rw[c]at a;obtain⟨l,d⟩:=il hbk hf a;refine⟨fun id blk w v h3=>?_,l⟩;rcases h3 with h3|h3
     ·rw[M]at h3;cases h3
     ·exact⟨blk,d id blk h3 w v,v⟩
    ·injection a with a;injection a with _ a;injection a with l d;subst l;subst d;exact⟨fun id blk w v _=>⟨blk,w,v⟩,zk _⟩
   rcases hk with hk|hk
   ·obtain⟨rfl,rfl⟩:=W7 X hk a;exact⟨fun id blk w v _=>⟨blk,w,v⟩,zk _⟩
   ·split at hk
    ·rename_i t q x c;unfold ki at a;split at a
     ·rw[c]at a;simp only[zU]at a;split at a
      ·obtain⟨v,l,d⟩:=zV a;injection d with _ d;injection d with d B;subst d;subst B;exact⟨fun id blk w v _=>GK l w v,zk _⟩
      ·cases a
     ·injection a with a;injection a with _ a;injection a with l d;subst l;subst d;exact⟨fun id blk w v _=>⟨blk,w,v⟩,zk _⟩
    ·rename_i g aZ ts c;simp only[zC]at hk;exact h c (by simpa[ij]using hk.2) hk.1
    ·rename_i aZ ts c;exact h c rfl hk
    ·rename_i t n ps c;exact h c rfl hk
    ·rename_i t c;exact h c rfl hk
    ·cases hk
  refine⟨fun p Y=>?_,fun s R=>?_⟩
  rotate_left
  ·have hl:=zY.1 hld s R;simp only[qS,bne_iff_ne]at hl;have H:(∀id o' n,put st.U o.dst y s≠.own id o' n)/\∀id i' j',put st.U o.dst y s=.ref id i' j'->id<st.Z/\∃blk,st.Y id=some blk/\blk.arr=false:=by
    by_cases m:o.dst=some s
    ·have u:put st.U o.dst y s=y:=by rw[m];exact wL _ _ _
     rw[u];rcases hl with hl|hl
     ·exact absurd m hl
     ·split at hl
      ·rename_i t b f c;obtain⟨E,F⟩:=G.2 b (by simpa using hl);unfold ki at a;split at a
       ·rw[c]at a;simp only[zU,get]at a;obtain⟨z,l,d⟩:=zV a;injection d with d _
        subst d;refine⟨fun id o' n e=>?_,fun id i' j' e=>?_⟩
        ·subst e;exact im l
        ·subst e;obtain⟨i0,j0,B⟩:=Vb l;exact F _ _ _ B
       ·injection a with a;injection a with a _;subst a;exact⟨(fun _ _ _ e=>by cases e),(fun _ _ _ e=>by cases e)⟩
      ·rename_i t b ix c;obtain⟨E,F⟩:=G.2 b (by simpa using hl);unfold ki at a;split at a
       ·rw[c]at a;simp only[zU,get]at a;split at a
        ·rename_i p0 q0 S hq0;simp only[zW]at S;subst S;obtain⟨z,l,d⟩:=zV a;injection d with d _
         subst d;refine⟨fun id o' n e=>?_,fun id i' j' e=>?_⟩
         ·subst e;exact iq l
         ·subst e;obtain⟨i0,j0,B⟩:=Vc l E;exact F _ _ _ B
        ·cases a
       ·injection a with a;injection a with a _;subst a;exact⟨(fun _ _ _ e=>by cases e),(fun _ _ _ e=>by cases e)⟩
      ·cases hl
    ·have u:put st.U o.dst y s=st.U s:=xv (fun e T=>by rintro rfl;exact m T);rw[u];exact G.2 s R
   refine⟨H.1,fun id i' j' e=>?_⟩;obtain⟨w,blk,v,h3⟩:=H.2 id i' j' e;exact⟨yZ w A.2,A.1 id blk v h3 (.inr w)⟩
  ·have hd:=zY.1 hd p Y;simp only[zC,qS,bne_iff_ne]at hd;obtain⟨hd2,hd1⟩:=hd;have hpb:put st.U o.dst y p.2=st.U p.2:=xv (fun e T=>by rintro rfl;exact hd2 T);have N:∀id i j,put st.U o.dst y p.1=.ref id i j->∃id' i' j' blk,st.U p.2=.ref id' i' j'/\id≠id'/\st.Y id'=some blk/\blk.arr=false:=by
    intro id i j e;by_cases m:o.dst=some p.1
    ·have u:put st.U o.dst y p.1=y:=by rw[m];exact wL _ _ _
     rw[u]at e;subst e;rcases hd1 with hd1|hd1
     ·exact absurd m hd1
     ·split at hd1
      ·rename_i t b f c;unfold ki at a;split at a
       ·rw[c]at a;simp only[zU,get]at a;obtain⟨z,l,d⟩:=zV a;injection d with d _
        subst d;obtain⟨i0,j0,B⟩:=Vb l;exact G.1 (b,p.2) (by simpa using hd1) _ _ _ B
       ·injection a with a;injection a with a _;cases a
      ·rename_i t b ix c;simp only[zC]at hd1;obtain⟨E,F⟩:=G.2 b (by simpa using hd1.2);unfold ki at a;split at a
       ·rw[c]at a;simp only[zU,get]at a;split at a
        ·rename_i p0 q0 S hq0;simp only[zW]at S;subst S;obtain⟨z,l,d⟩:=zV a;injection d with d _
         subst d;obtain⟨i0,j0,B⟩:=Vc l E;exact G.1 (b,p.2) (by simpa using hd1.1) _ _ _ B
        ·cases a
       ·injection a with a;injection a with a _;cases a
      ·cases hd1
    ·have u:put st.U o.dst y p.1=st.U p.1:=xv (fun e T=>by rintro rfl;exact m T);rw[u]at e;exact G.1 p Y id i j e
   intro id i j e;obtain⟨id',i',j',blk,eb,hne,hbl,W⟩:=N id i j e;have P:D.all (fun p=>L.contains p.2)=false\/id'<st.Z:=by
    cases M:D.all (fun p=>L.contains p.2)
    ·exact .inl rfl
    ·refine .inr ?_;have:=zY.1 M p Y;exact((G.2 p.2 (by simpa using this)).2 id' i' j' eb).1
   obtain⟨K,hb1,hb2⟩:=A.1 id' blk hbl W P;exact⟨id',i',j',K,by show put st.U o.dst y p.2=_;rw[hpb];exact eb,hne,hb1,hb2⟩
theorem UT(v:∀g f,pf g=true->C.Γ g=some f->Q9 f){L:List Tmp}{h:Array Oper}(F:CX pf L h=true)(I:GJ L=true){i:Nat}{o:Oper}{st d:St}(J:h[i]?=some o)(w:Q6 L st)(G:aq st.Y st.Z)(hs:yD C h o st=some d) :
  (∀s∈L,zB<=s->(d.U (s-zB)).YS=true)/\aq d.Y d.Z:=by
 simp only[CX,I,Bool.not_true,km]at F;have H:=XO.1 F o (fL J);simp only[zC]at H;obtain⟨l,m⟩:=H;rw[yH]at hs;obtain⟨r,a,x⟩:=zV hs;obtain⟨y,Y1,A⟩:=r;subst x;refine⟨fun s n p=>?_,?_⟩
 ·have c:=zY.1 m s n;simp only[qS,qz,bne_iff_ne,zC,Option.isNone_iff_eq_none]at c;by_cases hd:o.dst=some (s-zB)
  ·have j:put st.U o.dst y (s-zB)=y:=by rw[hd];exact wL _ _ _
   show(put st.U o.dst y (s-zB)).YS=true;rw[j];rcases c with(c|c)|⟨K,c⟩
   ·exact absurd c (Nat.not_lt.2 p)
   ·exact absurd hd c
   ·rw[jW K]at a;split at c
    ·rename_i b k;rw[k]at a;simp only[zU,get,zy]at a;injection a with a
     injection a with a _;rw[<-a];exact Fi w c
    ·rename_i t B k;rw[k]at a;simp only[zU]at a;split at a
     ·rename_i N q;obtain⟨z,D,u⟩:=zV a;injection u with u _
      subst u;exact US (uq (iz w c q) D)
     ·cases a
    ·cases c
  ·have j:put st.U o.dst y (s-zB)=st.U (s-zB):=xv (fun e M E=>hd (by rw[M,E]));show(put st.U o.dst y (s-zB)).YS=true;rw[j];exact(w s n).2 p
 ·show aq Y1 A;unfold ki at a;split at a
  ·exact GQ v l a G
  ·injection a with a;injection a with _ a;injection a with D u;subst D;subst u;exact G
theorem LV(k:∀g d,pf g=true->C.Γ g=some d->Q9 d){r:FuncId->Bool}(m:∀g d,r g=true->C.Γ g=some d->QU d){D:List (Tmp×Tmp)}{L:List Tmp}{n:Array Oper}(l:rh pf D L r n=true):tS C n (Fh pf D L r n) (AskA D L):=by
 simp only[rh,zC]at l;obtain⟨B,l⟩:=l;refine⟨fun i o st t w f hs=>?_,fun i j a b st t H I c f hs=>?_⟩
 ·obtain⟨x,y⟩:=C3 k m l w ⟨f.1.1,fun s hs=>(f.1.2 s hs).1⟩ hs;cases q:GJ L
  ·refine⟨⟨x,fun s h=>⟨y s h,fun E=>?_⟩⟩,fun e=>by rw[q]at e;cases e⟩;have:=List.any_eq_false.1 q s h;simp at this;omega
  ·obtain⟨F,G⟩:=UT k B q w f.1.2 (f.2 q) hs;exact⟨⟨x,fun s h=>⟨y s h,F s h⟩⟩,fun _=>G⟩
 ·simp only[Fh,qS]at c;rcases c with(c|c)|c
  ·rw[<-GH k c st];exact hs
  ·simp only[TE,zC,qS,Option.isNone_iff_eq_none]at c;obtain⟨⟨⟨⟨u,p⟩,z⟩,A⟩,hm⟩:=c;rcases hm with hm|hm
   ·rw[<-oh m hm z A u f.1.1 f.1.2];exact hs
   ·rw[oh m hm A z p f.1.1 f.1.2];exact hs
  ·have v:GJ L=true:=by simp only[PR,zC]at c;exact c.1.1.1.1.1
   exact LU k c f.1.2 (f.2 v) hs
end
def Zy(C:Ctx)(code:Code)(st:St)(K:Exit->St->Prop):Prop:=∃e a,qV C code st=some (e,a)/\K e a
def rk(C:Ctx)(b:Array Oper)(l:List Oper)(st:St)(K:St->Prop):Prop:=∃a,xn C b l st=some a/\K a
def Ve{α:Type}(o:Option α)(K:α->Prop):Prop:=∃x,o=some x/\K x
theorem ur{α:Type}{o o':Option α}(K:α->Prop)(h:o=o'):Ve o K=Ve o' K:=by rw[h]
theorem C4{α:Type}(x:α)(K:α->Prop):Ve (some x) K=K x:=by simp[Ve]
def eQ(C:Ctx)(o:Option O)(x y:Code)(st:St)(K:Exit->St->Prop):Prop:=(o=some (.v (.bool true))/\Zy C x st K)\/(o=some (.v (.bool false))/\Zy C y st K)
theorem uu{C:Ctx}{o o':Option O}{x y:Code}{st:St}{K:Exit->St->Prop}(h:o=o'):eQ C o x y st K=eQ C o' x y st K:=by rw[h]
theorem C5(C:Ctx)(x y:Code)(st:St)(K:Exit->St->Prop):eQ C (some (.v (.bool true))) x y st K=Zy C x st K:=by simp[eQ]
theorem uv(C:Ctx)(x y:Code)(st:St)(K:Exit->St->Prop):eQ C (some (.v (.bool false))) x y st K=Zy C y st K:=by simp[eQ]
def iB(C:Ctx)(b:Code)(K:Exit->St->Prop)(e:Exit)(st:St):Prop:=match e with
 | .normal=>Zy C b st K
 |e=>K e st
def Wu(id:Nat)(K:Exit->St->Prop)(e:Exit)(st:St):Prop:=match e with
 | .exit i=>if i=id then K .normal st else K (.exit i) st
 |e=>K e st
def KU(K:Exit->St->Prop)(st:St):Prop:=K .normal st
theorem rl(C:Ctx)(b:Code)(K:Exit->St->Prop)(st:St):iB C b K .normal st=Zy C b st K:=rfl
theorem GX(C:Ctx)(b:Code)(K:Exit->St->Prop)(st:St):iB C b K .ret st=K .ret st:=rfl
theorem C6(C:Ctx)(b:Code)(K:Exit->St->Prop)(i:Nat)(st:St):iB C b K (.exit i) st=K (.exit i) st:=rfl
theorem YY(id:Nat)(K:Exit->St->Prop)(st:St):Wu id K .normal st=K .normal st:=rfl
theorem C7(id:Nat)(K:Exit->St->Prop)(st:St):Wu id K .ret st=K .ret st:=rfl
theorem dk(id:Nat)(K:Exit->St->Prop)(st:St):Wu id K (.exit id) st=K .normal st:=by simp[Wu]
theorem Xa{C:Ctx}{code:Code}{st:St}{b:Exit}{a:St}(K:Exit->St->Prop)(h:qV C code st=some (b,a)):Zy C code st K=K b a:=by
 unfold Zy;apply propext;constructor
 ·rintro⟨e,c,f,d⟩;rw[h]at f;obtain⟨rfl,rfl⟩:b=e/\a=c:=by simpa using f
  exact d
 ·exact fun d=>⟨_,_,h,d⟩
theorem LW(C:Ctx)(st:St)(K:Exit->St->Prop):Zy C .skip st K=K .normal st:=Xa K (by simp only[qV])
theorem LX(C:Ctx)(id:Nat)(st:St)(K:Exit->St->Prop):Zy C (.exit id) st K=K (.exit id) st:=Xa K (by simp only[qV])
theorem PS(C:Ctx)(st:St)(K:Exit->St->Prop):Zy C .ret st K=K .ret st:=Xa K (by simp only[qV])
theorem GY(C:Ctx)(l:Nat)(st:St)(K:Exit->St->Prop):Zy C (.label l) st K=K .normal st:=Xa K (by simp only[qV])
theorem uw(C:Ctx)(i:Nat)(a:Array Oper)(d:Bool)(c st:St)(K:Exit->St->Prop)(g:tQ (C.fz i) c=some st)(h:Ws (C.dyn i) st)(j:Q6 (C.Lr i) st):Zy C (.region i a d) c K=rk C a a.toList st (KU K):=by
 unfold Zy rk KU;simp only[qV,g,h,j,and_self,qB];apply propext;constructor
 ·rintro⟨e,b,h,f⟩;split at h
  ·rename_i s hs;obtain⟨rfl,rfl⟩:Exit.normal=e/\s=b:=by simpa using h
   exact⟨_,hs,f⟩
  ·cases h
 ·rintro⟨b,h,f⟩;exact⟨.normal,b,by rw[h],f⟩
theorem YA(C:Ctx)(i:Nat)(a:Array Oper)(d:Bool)(st:St)(K:Exit->St->Prop)(h:Ws (C.dyn i) st)(b:Q6 (C.Lr i) st)(c:C.fz i=[]:=by rfl):Zy C (.region i a d) st K=rk C a a.toList st (KU K):=
 uw C i a d st st K (by rw[c];rfl) h b
theorem J1(C:Ctx)(i:Nat)(a:Array Oper)(d:Bool)(st:St)(K:Exit->St->Prop)(h:C.dyn i=[])(b:C.Lr i=[])(c:C.fz i=[]:=by rfl):Zy C (.region i a d) st K=rk C a a.toList st (KU K):=YA C i a d st K (by rw[h];intro p Y;cases Y) (by rw[b];intro p Y;cases Y) c
theorem Fj(C:Ctx)(a b:Code)(st:St)(K:Exit->St->Prop):Zy C (.seq a b) st K=Zy C a st (iB C b K):=by
 unfold Zy;simp only[qV];apply propext;constructor
 ·rintro⟨e,c,h,d⟩;split at h
  ·rename_i s hs;exact⟨.normal,s,hs,e,c,h,d⟩
  ·rename_i r k;refine⟨e,c,h,?_⟩;cases e<;>simp_all[iB]
 ·rintro⟨e,c,h,d⟩;cases e
  case normal=>obtain⟨i,f,j,g⟩:=d;exact⟨i,f,by rw[h];exact j,g⟩
  all_goals exact⟨_,c,by rw[h],d⟩
theorem LY(C:Ctx)(c:Operand)(x y:Code)(st:St)(K:Exit->St->Prop):Zy C (.cond c x y) st K=eQ C (get st.U c) x y st K:=by
 unfold Zy eQ;simp only[qV];apply propext;constructor
 ·rintro⟨e,a,h,d⟩;split at h
  ·rename_i b;exact .inl ⟨b,e,a,h,d⟩
  ·rename_i b;exact .inr ⟨b,e,a,h,d⟩
  ·cases h
 ·rintro (⟨b,e,a,h,d⟩|⟨b,e,a,h,d⟩)
  ·exact⟨e,a,by rw[b];exact h,d⟩
  ·exact⟨e,a,by rw[b];exact h,d⟩
theorem GZ(C:Ctx)(id:Nat)(b:Code)(st:St)(K:Exit->St->Prop):Zy C (.block id b) st K=Zy C b st (Wu id K):=by
 unfold Zy;simp only[qV];apply propext;constructor
 ·rintro⟨e,a,h,c⟩;split at h
  ·rename_i i s hs;refine⟨.exit i,s,hs,?_⟩;unfold Wu;split at h
   ·rename_i hi;obtain⟨rfl,rfl⟩:Exit.normal=e/\s=a:=by simpa using h
    simp[hi,c]
   ·rename_i hi;obtain⟨rfl,rfl⟩:Exit.exit i=e/\s=a:=by simpa using h
    simp[hi,c]
  ·rename_i r d;refine⟨e,a,h,?_⟩;cases e<;>simp_all[Wu]
 ·rintro⟨e,a,h,c⟩;cases e
  case exit i=>
   unfold Wu at c;simp only[h];by_cases hi:i=id
   ·simp only[hi,qB]at c⊢;exact⟨_,_,rfl,c⟩
   ·simp only[hi,qn]at c⊢;exact⟨_,_,rfl,c⟩
  all_goals exact⟨_,a,by rw[h],c⟩
def asgK(C:Ctx)(b:Code)(K:Exit->St->Prop)(e:Exit)(st:St):Prop:=match e with
 | .normal=>Zy C b st K
 |_=>False
def UU(I:Nat->Hp->Nat->Prop)(k:Nat)(U:Nat->O)(K:Exit->St->Prop)(e:Exit)(st:St):Prop:=match e with
 | .normal=>I (k+1) st.Y st.Z
 | .ret=>K .ret ⟨U,st.Y,st.Z⟩
 | .exit i=>K (.exit i) ⟨U,st.Y,st.Z⟩
 |_=>False
theorem G3{C:Ctx}{f:Operand}{s:Array Tmp}{a b:Code}{st:St}{K:Exit->St->Prop}{p:Tmp}{g:FuncId}{cap:zb}{it:ZU}{xs:zb}{Y1:Hp}
  (o:s.toList=[p]) (v:get st.U f=some (.fn (.func g) [] cap)) (hit:C.it g=some it) (w:it cap st.Y=some (xs,Y1)) (I:Nat->Hp->Nat->Prop) (x:I 0 Y1 st.Z)
  (h:∀k Y Z (t:k<xs.length),I k Y Z->Zy C a ⟨qR st.U p xs[k],Y,Z⟩ (asgK C b (UU I k st.U K))) (i:∀Y Z,I xs.length Y Z->K .normal ⟨st.U,Y,Z⟩):Zy C (.rangeFunc f s a b) st K:=by
 have q:∀d k Y Z,xs.length-k=d->k<=xs.length->I k Y Z->∃e Y2 c,JU (qV C a) (qV C b) st.U p (xs.drop k) Y Z=some (e,Y2,c)/\K e ⟨st.U,Y2,c⟩:=by
  intro d
  induction d with
  |zero=>
   intro k Y Z hd t r;obtain rfl:k=xs.length:=by omega
   exact⟨.normal,Y,Z,by rw[zn];rfl,i Y Z r⟩
  |succ d y=>
   intro k Y Z hd t r;have j:k<xs.length:=by omega
   obtain⟨z,D,l,m⟩:=h k Y Z j r;rw[zc j];simp only[JU,l];cases z<;>try exact m.elim
   obtain⟨A,u,B,n⟩:=m;simp only[B];cases A<;>try exact n.elim
   ·exact y (k+1) u.Y u.Z (by omega) (by omega) n
   ·exact⟨_,_,_,rfl,n⟩
   ·exact⟨_,_,_,rfl,n⟩
 obtain⟨e,Y2,c,l,m⟩:=q _ 0 Y1 st.Z rfl (j9 _) x;rw[wS]at l;exact⟨e,⟨st.U,Y2,c⟩,by simp only[qV,o,v,hit,w,l],m⟩
theorem PT(C:Ctx)(a:Array Oper)(st:St)(K:St->Prop):rk C a [] st K=K st:=by simp[rk,xn]
def LZ(C:Ctx)(a:Array Oper)(l:List Oper)(K:St->Prop)(st:St):Prop:=rk C a l st K
theorem L0(C:Ctx)(a:Array Oper)(l:List Oper)(K:St->Prop)(st:St):LZ C a l K st=rk C a l st K:=rfl
theorem L1(C:Ctx)(a:Array Oper)(o:Oper)(l:List Oper)(st:St)(K:St->Prop):rk C a (o::l) st K=Ve (yD C a o st) (LZ C a l K):=by
 unfold rk Ve LZ rk;simp only[xn];apply propext;constructor
 ·rintro⟨b,h,c⟩;split at h
  ·rename_i s hs;exact⟨s,hs,b,h,c⟩
  ·cases h
 ·rintro⟨s,hs,b,h,c⟩;exact⟨b,by rw[hs];exact h,c⟩
theorem zE(C:Ctx)(b:Code)(st:St)(K:Exit->St->Prop):Zy C (.loop b) st K=Zy C b st (iB C (.loop b) K):=by
 unfold Zy;simp only[qV];rw[pW];apply propext;constructor
 ·rintro⟨e,a,h,c⟩;split at h
  ·rename_i s hs;exact⟨.normal,s,hs,e,a,by simpa only[qV]using h,c⟩
  ·rename_i r j;refine⟨e,a,h,?_⟩;cases e<;>simp_all[iB]
 ·rintro⟨e,a,h,c⟩;cases e
  case normal=>obtain⟨g,d,i,f⟩:=c;exact⟨g,d,by rw[h];simpa only[qV]using i,f⟩
  all_goals exact⟨_,a,by rw[h],c⟩
def rm(I:St->Prop)(a:St->Nat)(n:Nat)(K:Exit->St->Prop)(e:Exit)(st:St):Prop:=match e with
 | .normal=>I st/\a st<n
 |e=>K e st
theorem mV(I:St->Prop)(a:St->Nat)(n:Nat)(K:Exit->St->Prop)(st:St):rm I a n K .normal st=(I st/\a st<n):=rfl
theorem C8(I:St->Prop)(a:St->Nat)(n:Nat)(K:Exit->St->Prop)(st:St):rm I a n K .ret st=K .ret st:=rfl
theorem ux(I:St->Prop)(a:St->Nat)(n i:Nat)(K:Exit->St->Prop)(st:St):rm I a n K (.exit i) st=K (.exit i) st:=rfl
theorem Zy.mono{C:Ctx}{code:Code}{st:St}{K b:Exit->St->Prop}(h:Zy C code st K)(c:∀e st,K e st->b e st):Zy C code st b:=
 let⟨e,a,d,f⟩:=h
 ⟨e,a,d,c _ _ f⟩
theorem W8{C:Ctx}{b:Code}{st:St}{K:Exit->St->Prop}(I:St->Prop)(d:St->Nat)(h:I st)(a:∀st,I st->Zy C b st (rm I d (d st) K)):Zy C (.loop b) st K:=by
 have f:∀n st,d st=n->I st->Zy C (.loop b) st K:=by
  intro n
  induction n using Nat.strongRecOn with
  |_ n i=>
   intro st j k;rw[zE];refine(a st k).mono fun e c g=>?_
   cases e
   case normal=>exact i (d c) (j ▸ g.2) c rfl g.1
   all_goals exact g
 exact f _ st rfl h
def J2(P:Program)(fn:Func)(R:O->Hp->Nat->Prop)(e:Exit)(st:St):Prop:=match e with
 | .normal|.ret=>Ve (xP P fn st) (fun x=>R x st.Y st.Z)
 |_=>False
theorem uy(P:Program)(fn:Func)(R:O->Hp->Nat->Prop)(st:St):J2 P fn R .normal st=Ve (xP P fn st) (fun x=>R x st.Y st.Z):=rfl
theorem L2(P:Program)(fn:Func)(R:O->Hp->Nat->Prop)(st:St):J2 P fn R .ret st=Ve (xP P fn st) (fun x=>R x st.Y st.Z):=rfl
theorem qF{C:Ctx}{fn:Func}{code:Code}{args:zb}{Y:Hp}{Z:Nat}{R:O->Hp->Nat->Prop}(g:fn.body=some code)
  (h:Zy C code ⟨kE args,Y,Z⟩ (J2 C.P fn R)):∃x d f,jJ C fn args Y Z=some (x,d,f)/\R x d f:=by
 obtain⟨e,st,i,a⟩:=h;unfold jJ;simp only[g,i];unfold J2 at a;split at a
 ·obtain⟨x,b,c⟩:=a;exact⟨x,st.Y,st.Z,by simp[b],c⟩
 ·obtain⟨x,b,c⟩:=a;exact⟨x,st.Y,st.Z,by simp[b],c⟩
 ·exact a.elim
def zI(r:O)(x:O)(Y:Hp)(_:Nat):Prop:=(freeze Y x).map (·.1)=some r
theorem zm{C:Ctx}{fn:Func}{code:Code}{args:zb}{r:O}(a:fn.body=some code)
  (h:Zy C code ⟨kE args,fun _=>none,0⟩ (J2 C.P fn (zI r))):zo C fn args=some r:=by
 obtain⟨x,d,e,b,c⟩:=qF a h;unfold zo;simp only[b];exact c
theorem YB(d:Option Tmp)(op:Op)(t:TypeId)(p:String)(a:Array Edge)(y:Nat->Option Bool):Region.wanted ⟨d,op,t,p,a,none⟩ y=true:=rfl
theorem L3(C:Ctx)(a:Array Oper)(d:Option Tmp)(op:Op)(t:TypeId)(p:String)(b:Array Edge)(st:St):yD C a ⟨d,op,t,p,b,none⟩ st =
  (zU C (get st.U) st.Y st.Z op).map fun r=>⟨put st.U d r.1,r.2.1,r.2.2⟩:=by
 simp only[yD,YB,qB];cases zU C (get st.U) st.Y st.Z op<;>rfl
variable{dr:Prop}
section
variable{C:Ctx}{pf:FuncId->Bool}
def ZZ(a:Array Bool)(k:Nat):Prop:=a.getD k false=true
theorem eR{i n:Nat}(h:i<n):List.range n=List.range i++i::List.range' (i+1) (n-i-1):=by
 have a:List.range n=List.range' 0 i++List.range' i (n-i):=by rw[List.range_eq_range',show List.range' 0 n=List.range' 0 (i+(n-i))from by rw[show i+(n-i)=n from by omega],<-List.range'_append_1];simp
 rw[a,List.range_eq_range'];congr 1;rw[show n-i=(n-i-1)+1 from by omega,List.range'_succ];simp
theorem L4{a:Array Oper}{cm:Oper->Oper->Bool}{A:St->Prop}(D:tS C a cm A)(E:ig cm a=true):∀(fuel t:Nat) (listed:Array Bool) (st:St),A st->listed.size=a.size->ak a (ZZ listed) ->
  ((List.range a.size).filter fun i=>!listed.getD i true).length<=fuel ->
  ∀r:St,kn C a ((List.range a.size).filter fun i=>!listed.getD i true) st=some r->kn C a (Region.linearise.go .any a fuel t listed []) st=some r:=by
 intro fuel
 induction fuel with
 |zero=>intro t listed st _ _ _ Q r c;rw[xr (Nat.le_zero.1 Q)]at c;exact c
 |succ fuel ih=>
  intro t listed st R S F Q r c;simp only[Region.linearise.go];change kn C a (match(Region.ready .any a listed)[t % (Region.ready .any a listed).length]? with
   |some i=>Region.linearise.go .any a fuel (t/(Region.ready .any a listed).length) (listed.setIfInBounds i true) [i]
   |none=>[].reverse) st=some r
  have q:∀k,k<a.size->listed.getD k true=listed.getD k false:=fun k hk=>by
   have:k<listed.size:=by omega
   simp[this]
  have d:∀i,i∈Region.ready .any a listed↔i<a.size/\listed.getD i true=false/\∃o,a[i]?=some o/\oe (ZZ listed) o:=by
   intro i;unfold Region.ready;simp only[UB,ye,zC,vk];constructor
   ·rintro⟨G,T,h3⟩;refine⟨G,T,a[i],by simp[G],fun e s u=>?_⟩;simp only[G,jY,zy,Wo]at h3;have:=XO.1 h3 e (by simpa using s);simpa[u,ZZ]using this
   ·rintro⟨G,T,o,m,Y⟩;refine⟨G,T,?_⟩;simp only[m,zy,Wo];refine XO.2 fun e s=>?_
    cases u:Region.binds .any e with
    |false=>rfl
    |true=>simpa[ZZ]using Y e (by simpa using s) u
  cases hi:(Region.ready .any a listed)[t % (Region.ready .any a listed).length]? with
  |none=>
   have H:Region.ready .any a listed=[]:=by
    cases c:Region.ready .any a listed with
    |nil=>rfl
    |cons x xs=>rw[c]at hi;have w:t % (x::xs).length<(x::xs).length:=zgh _ (by simp);simp at hi;simp at w;omega
   have I:∀n k,k<n->k<a.size->listed.getD k true=true:=by
    intro n
    induction n with
    |zero=>intro k hk;omega
    |succ n J=>
     intro k hk g;by_cases W:k<n
     ·exact J k W g
     ·have X:k=n:=by omega
      subst X;cases u:listed.getD k true with
      |true=>rfl
      |false=>
       have m:a[k]?=some a[k]:=by simp[g]
       have v:k∈Region.ready .any a listed:=(d k).2 ⟨g,u,a[k],m,fun e s hbe=>by have w:=(eP E k _ m).1 e s hbe;have:=J e.on w (by omega);rw[q e.on (by omega)]at this;exact this⟩
       rw[H]at v;cases v
   have:((List.range a.size).filter fun i=>!listed.getD i true)=[]:=by rw[List.filter_eq_nil_iff];intro k hk;have g:=ye.1 hk;rw[I (k+1) k (by omega) g];simp
   rw[this]at c;exact c
  |some i=>
   simp only[];obtain⟨K,hul,o,m,Y⟩:=(d i).1 (zL hi);rw[linearise_go_acc,List.reverse_singleton,List.singleton_append];have y:∀k,(listed.setIfInBounds i true).getD k true=if k=i then true else listed.getD k true:=by
    intro k;by_cases hk:k=i
    ·subst hk;have:k<listed.size:=by omega
     simp[this]
    ·rw[zd hk];simp[eH (fun h=>hk h.symm)]
   have hlf:∀k,ZZ (listed.setIfInBounds i true) k↔k=i\/ZZ listed k:=by
    intro k;unfold ZZ;by_cases hk:k=i
    ·subst hk;have:k<listed.size:=by omega
     simp[this]
    ·simp[eH (fun h=>hk h.symm),hk]
   have f:((List.range a.size).filter fun k=>!listed.getD k true)=((List.range i).filter fun k=>!listed.getD k true)++i::((List.range' (i+1) (a.size-i-1)).filter fun k=>!listed.getD k true):=by rw[eR K,List.filter_append,List.filter_cons_of_pos (by rw[hul];rfl)]
   have b:((List.range a.size).filter fun k=>!(listed.setIfInBounds i true).getD k true)=((List.range i).filter fun k=>!listed.getD k true)++((List.range' (i+1) (a.size-i-1)).filter fun k=>!listed.getD k true):=by
    rw[eR K,List.filter_append,List.filter_cons_of_neg (by rw[y];simp)];congr 1
    ·exact List.filter_congr fun k hk=>by have:=ye.1 hk;rw[y,zd (by omega)]
    ·exact List.filter_congr fun k hk=>by have:=(List.mem_range'_1.1 hk).1;rw[y,zd (by omega)]
   have L:ak a (ZZ (listed.setIfInBounds i true)):=by
    intro k o' hk l e s u;rw[hlf]at hk⊢;rcases hk with rfl|hk
    ·rw[m]at l;injection l with l
     subst l;exact .inr (Y e s u)
    ·exact .inr (F k o' hk l e s u)
   have p:((List.range a.size).filter fun k=>!(listed.setIfInBounds i true).getD k true).length<=fuel:=by rw[b];rw[f]at Q;simp only[qj,zP]at Q⊢;omega
   have M:=fun st R=>ih (t/(Region.ready .any a listed).length) (listed.setIfInBounds i true) st R (by simpa using S) L p
   rw[f]at c;have c:=XT D m _ _ _ r R (fun j hj=>by
    obtain⟨z,N⟩:=UB.1 hj;have z:=ye.1 z;rcases(eP E i o m).2 j z with h|h
    ·have:=h (ZZ listed) F Y;unfold ZZ at this;rw[<-q j (by omega)]at this;rw[this]at N;cases N
    ·exact h) c
   simp only[kn,m]at c⊢;cases B:yD C a o st with
   |none=>rw[B]at c;cases c
   |some P=>rw[B]at c;simp only[zZ]at c⊢;exact M P (D.keep i o st P m R B) r (by rw[b];exact c)
theorem rn(a:Array Oper)(st:St):∀(l:List Oper) (i:Nat),(∀k,l[k]?=a[i+k]?)->i+l.length=a.size->kn C a (List.range' i l.length) st=xn C a l st:=by
 intro l
 induction l generalizing st with
 |nil=>intro i _ _;rfl
 |cons o l d=>
  intro i c e;have f:a[i]?=some o:=by have:=c 0;simpa using this.symm
  simp only[zP,List.range'_succ,kn,f,xn];cases hs:yD C a o st with
  |none=>rfl
  |some b=>simp only[zZ];exact d b (i+1) (fun k=>by have:=c (k+1);simpa[gQ,cW 1 k]using this) (by simp at e;omega)
theorem XW(a:Array Oper)(st:St):kn C a (List.range a.size) st=xn C a a.toList st:=by have:=rn (C:=C) a st a.toList 0 (by simp) (by simp);rw[List.range_eq_range'];simpa using this
theorem PU{a:Array Oper}{e:Oper->Oper->Bool}{A:St->Prop}(c:tS C a e A)(d:ig e a=true)(t:Nat)(st r:St)(f:A st)(g:xn C a a.toList st=some r):kn C a (Region.linearise .any a t) st=some r:=by
 unfold Region.linearise;refine L4 c d a.size t _ st f (by simp) (fun k o b=>by unfold ZZ at b;rw[YR,Array.getElem?_replicate]at b;split at b<;>simp at b) (zG (zbf _ _) (by simp)) r ?_
 have:((List.range a.size).filter fun i=>!(Array.replicate a.size false).getD i true)=List.range a.size:=by rw[List.filter_eq_self];intro i hi;have hi:=ye.1 hi;simp[hi]
 rw[this,XW];exact g
end
section
variable{C:Ctx}{pf:FuncId->Bool}{w0:World}{S0 L:Nat->Prop}{N Z0:Nat}{G0:Nat->GI}{n0:Nat}
theorem Vf{w:World}{S:Nat->Prop}{G:Nat->GI}{Z:Nat}{f:Array Oper}{U:Nat->O}{a:Act}(hs:∀t,qe w S G Z (U t) (a.tmps.getD t undef)):yielded f a.tmps=QA f U:=by
 funext j;unfold yielded QA;cases hd:(f[j]?).bind (·.dst)with
 |none=>rfl
 |some d=>
  simp only[zZ];have k:=hs d;have m:∀b:Bool,a.tmps.getD d undef=.bool b->a.tmps[d]?=some (.bool b):=by
   intro b l;by_cases g:d<a.tmps.size
   ·simp[g]at l⊢;exact l
   ·simp[g]at l;simp[undef]at l
  cases i:U d with
  |v x=>
   rw[i]at k;obtain⟨e,o⟩:=k.wX;cases x with
   |bool b=>simp only[m b e]
   |_=>
    cases n:a.tmps[d]? with
    |none=>rfl
    |some y=>
     have:a.tmps.getD d undef=y:=by simp[n]
     rw[this]at e;subst e;rfl
  |_=>
   cases n:a.tmps[d]? with
   |none=>rfl
   |some y=>
    have:a.tmps.getD d undef=y:=by simp[n]
    rw[i,this]at k;cases y with
    |bool b=>cases k with
     |c h=>cases h
    |_=>rfl
def Cp(F:Fence):Prop:=F=Fence.wide\/∃l,F=Fence.wide.inRound l
theorem Cp.fn{F:Fence}(h:Cp F)(f:FuncId):F.fn f:=by rcases h with rfl|⟨l,rfl⟩<;>trivial
theorem Cp.deep{F:Fence}(h:Cp F):F.depth=none:=by rcases h with rfl|⟨l,rfl⟩<;>rfl
theorem Cp.calls{F:Fence}(h:Cp F){n:Nat}{P:Program}{f:FuncId}{args:Array Value}{w:World}{R:Ending->World->Prop}(a:Calls P f args w R):CallsIn F n P f args w R:=by
 rcases h with rfl|⟨l,rfl⟩
 ·exact mK.2 a
 ·exact(mK.2 a:CallsIn Fence.wide n P f args w R)
theorem WX(k:∀g r,C.Γ g=some r->kh dr C.P g r){m:Array Oper}(s:∀(i:Nat) (o:Oper),m[i]?=some o->∀d,o.dst=some d->d<N){F:Fence}{n:Nat}(hF:Cp F){Q:Exit->Act->World->Prop} :
  ∀(l:List Nat) (st j:St) (a:Act) (w:World),kn C m l st=some j->gz dr C.P w0 S0 L N Z0 G0 n0 st a w->(∀T w',gz dr C.P w0 S0 L N Z0 G0 n0 j T w'->Q .normal T w')->wpOpsIn F n C.P m Q l a w
 |[],st,j,a,w,h,hs,A=>by
  simp only[kn]at h;injection h with h
  subst h;exact A a w hs
 |i::l,st,j,a,w,h,hs,A=>by
  simp only[wpOpsIn];cases B:m[i]? with
  |none=>simp only[kn,B]at h;exact WX k s hF l st j a w h hs A
  |some o=>
   simp only[kn,B]at h;cases b:yD C m o st with
   |none=>rw[b]at h;cases h
   |some W=>
    rw[b]at h;simp only[zZ]at h;obtain⟨S,G,t⟩:=hs;unfold yD at b;simp only[];rw[Vf t.xc];split at b
    ·rename_i D;rw[ze D];split at b
     ·rename_i x Y Z u;injection b with b
      subst b;have E:∀c,o.op≠.defer c:=by intro c H;rw[H]at u;simp[zU]at u
      refine⟨fun f _=>hF.fn f,?_⟩;rw[Oper.semAt_eq _ _ _ E];have I:=bq k t.inv (a:=a.eval) (fun y pv X=>ZX t.xc X) (o:=o) u;rcases I with⟨v,w',J,K,z,M,R⟩|⟨g,vs,z,H⟩
      ·have p:gz dr C.P w0 S0 L N Z0 G0 n0 ⟨put st.U o.dst x,Y,Z⟩ (a.put o.dst v) w':=⟨J,K,t.step M R (s i o B)⟩;have q:=WX (n:=n) k s hF l _ j _ w' h p A;rcases z with z|⟨z,rfl⟩
       ·rw[z];exact q
       ·rw[z];exact q
      ·rw[z];refine⟨fun h=>by simp[hF.deep]at h,hF.calls (H.mono fun e w' hh=>?_)⟩;obtain⟨v,J,K,rfl,M,R⟩:=hh;have p:gz dr C.P w0 S0 L N Z0 G0 n0 ⟨put st.U o.dst x,Y,Z⟩ (a.put o.dst v) w':=⟨J,K,t.step M R (s i o B)⟩;exact WX k s hF l _ j _ w' h p A
     ·cases b
    ·rename_i D;rw[zd D];injection b with b
     subst b;exact⟨fun f _=>hF.fn f,WX k s hF l _ j _ w h ⟨S,G,t.step (.refl t.inv) jM (s i o B)⟩ A⟩
def jI:Code->Bool
 | .seq a b=>jI a&&jI b
 | .cond _ a b=>jI a&&jI b
 | .block _ b=>jI b
 | .loop b=>jI b
 | .rangeFunc _ _ _ _=>false
 | .scope _=>false
 |_=>true
def vI(pf:FuncId->Bool)(c:Nat->List (Tmp×Tmp))(e:Nat->List Tmp)(f:FuncId->Bool)(N:Nat):Code->Bool
 | .region i g h=>g.all (fun o=>match o.dst with|some d=>decide (d<N)|none=>true)&&(!h||(ig (Fh pf (c i) (e i) f g) g&&rh pf (c i) (e i) f g))
 | .seq a b=>vI pf c e f N a&&vI pf c e f N b
 | .cond _ a b=>vI pf c e f N a&&vI pf c e f N b
 | .block _ b=>vI pf c e f N b
 | .loop b=>vI pf c e f N b
 | .rangeFunc _ j a b=>j.all (fun p=>decide (p<N))&&jI a&&jI b&&vI pf c e f N a&&vI pf c e f N b
 |_=>true
theorem gz.drew{st:St}{a:Act}{w:World}(h:gz dr C.P w0 S0 L N Z0 G0 n0 st a w):gz dr C.P w0 S0 L N Z0 G0 n0 st a {w with drawn:=w.drawn+1}:=by obtain⟨S,G,c⟩:=h;refine⟨S,G,c.inv.same rfl,fun t=>(c.xc t).mono (fun b d=>⟨d,rfl⟩) (zk _) (fun _ _=>rfl),c.size,c.defers,c.s0,c.s1,c.own,c.fr.trans (Fr.drew w L) fun _ _ h=>h,c.up,c.loc⟩
theorem gz.top{st:St}{a:Act}{w:World}(h:gz dr C.P w0 S0 L N Z0 G0 n0 st a w):aq st.Y st.Z:=by obtain⟨S,G,b⟩:=h;exact b.inv.top
theorem gz.zeh{st:St}{a:Act}{w:World}(h:gz dr C.P w0 S0 L N Z0 G0 n0 st a w){t:Nat}{y:O}{Y1:Hp}(g:qD st.Y (st.U t)=some (y,Y1)):gz dr C.P w0 S0 L N Z0 G0 n0 ⟨qR st.U t y,Y1,st.Z⟩ a w:=by
 obtain⟨S,G,h⟩:=h;obtain⟨f,k,c,_,_⟩:=kV (dr:=dr) h.inv g (h.xc t);have d:∀b,kF st.Y G b->L b\/w0.heap.size<=b:=by rintro b ⟨id,blk,hid,rfl⟩;exact h.own id blk hid
 refine⟨f,G,k.inv,fun s=>?_,h.size,h.defers.step k,fun b e=>k.keep (dr:=dr) b (h.s0 b e),fun b e=>?_,fun id b e=>?_,h.fr,h.up,h.loc⟩
 ·show qe w f G st.Z (qR st.U t y s) _;by_cases hs:s=t
  ·subst hs;rw[wL];exact .c c
  ·rw[wi _ _ _ _ hs];exact(h.xc s).mono (k.same h.inv) (zk _) (fun _ _=>rfl)
 ·rcases k.from_ b e with h1|h1|h1
  ·exact h.s1 b h1
  ·exact .inr (d b h1)
  ·exact .inr (.inr (zG h.fr.size h1))
 ·rcases k.own id b e with h1|h1
  ·exact d _ h1
  ·exact .inr (zG h.fr.size h1)
theorem gz.tQ{a:Act}{w:World}:∀{l:List Tmp} {st b:St},gz dr C.P w0 S0 L N Z0 G0 n0 st a w->AM.tQ l st=some b->gz dr C.P w0 S0 L N Z0 G0 n0 b a w
 |[],st,b,h,e=>by
  simp only[AM.tQ]at e;injection e with e
  rw[<-e];exact h
 |t::l,st,b,h,e=>by
  simp only[AM.tQ]at e;split at e
  ·rename_i y Y1 c;exact gz.tQ (h.zeh c) e
  ·cases e
def K5(S:Nat->Prop)(G:Nat->GI)(Y:Hp)(b:Nat):Prop:=¬S b/\∀id blk,Y id=some blk->(G id).g≠b
theorem K5.step{P:Program}{Y d:Hp}{Z g:Nat}{S e:Nat->Prop}{G f:Nat->GI}{w w':World}{b:Nat}(h:K5 S G Y b)(k:kO dr P Y Z S G w d g e f w')(j:b<w.heap.size):K5 e f d b:=by
 refine⟨fun hs=>?_,fun id blk hid i=>?_⟩
 ·rcases k.from_ b hs with h1|⟨id,blk,h1,c⟩|h1
  ·exact h.1 h1
  ·exact h.2 id blk h1 c
  ·omega
 ·rcases k.own id blk hid with⟨id',a,h1,c⟩|h1
  ·exact h.2 id' a h1 (c.trans i)
  ·omega
theorem K5.same{P:Program}{Y a:Hp}{Z c:Nat}{S d:Nat->Prop}{G e:Nat->GI}{w w':World}{b:Nat}(h:K5 S G Y b)(k:kO dr P Y Z S G w a c d e w')(f:b<w.heap.size):w'.heap[b]?=w.heap[b]?:=
 k.fr.block b f fun⟨id,blk,g,i⟩=>h.2 id blk g i
section
variable{P:Program}{S:Nat->Prop}{G:Nat->GI}
theorem Inv.frame{w w':World}{Y:Hp}{Z:Nat}{B:Nat->Prop}(h:Inv P w S G Y Z)(d:Fr dr w B w')(e:∀b,B b->K5 S G Y b):Inv P w' S G Y Z:=by
 have f:∀b,S b->S b/\w'.heap[b]?=w.heap[b]?:=fun b a=>⟨a,d.block b (h.st b a) fun c=>(e b c).1 a⟩
 exact⟨fun b a=>yZ (h.st b a) d.size,h.top,fun id b a=>(h.live id b a).mono f (zk _) (fun _ _=>rfl) (d.block _ (h.live id b a).lt fun c=>(e _ c).2 id b a rfl),h.apart,h.inj,h.gT.mono f⟩
theorem Marks.frame{w w':World}{Y:Hp}{B:Nat->Prop}{ds:List Deferred}(h:Marks n0 w S Y G ds)(a:Fr dr w B w')(c:∀D,fN D∈ds->¬B D):Marks n0 w' S Y G ds:=by obtain⟨d,f,e,g,i⟩:=h;refine⟨zG d a.size,f,e,g,fun D hd=>?_⟩;obtain⟨j,b,k⟩:=i D hd;exact⟨j,(a.block D (qh.1 b).1 (c D (by rw[e];exact List.mem_map_of_mem hd))).trans b,k⟩
theorem uz{D a:Nat}(h:fN D=fN a):D=a:=by
 unfold fN at h;injection h with h
 injection h
theorem Marks.at{w:World}{Y:Hp}{ds:List Deferred}(h:Marks n0 w S Y G ds){D:Nat}(hd:fN D∈ds):n0<=D/\w.heap[D]?=some (.deferred (some []))/\¬S D/\∀id b,Y id=some b->(G id).g≠D:=by obtain⟨f,i,rfl,j,a⟩:=h;obtain⟨c,d,e⟩:=qw.1 hd;rw[<-uz e];exact a c d
theorem Qm.frame{st:St}{a:Act}{w w':World}{B:Nat->Prop}(h:Qm dr P w0 S0 L N Z0 G0 n0 st S G a w)(c:Fr dr w B w')(f:∀b,B b->K5 S G st.Y b)(i:∀b,B b->L b\/w0.heap.size<=b)
  (j:∀D,fN D∈a.defers->¬B D):Qm dr P w0 S0 L N Z0 G0 n0 st S G a w':=by
 have k:∀b,S b->S b/\w'.heap[b]?=w.heap[b]?:=fun b d=>⟨d,c.block b (h.inv.st b d) fun e=>(f b e).1 d⟩
 refine⟨h.inv.frame c f,fun t=>(h.xc t).mono k (zk _) (fun _ _=>rfl),h.size,h.defers.frame c j,h.s0,h.s1,h.own,h.fr.trans c fun b d l=>?_,h.up,h.loc⟩;rcases i b l with g|g
 ·exact g
 ·omega
theorem Qm.Tk{st:St}{a:Act}{w w':World}{B:Nat->Prop}(h:Qm dr P w0 S0 L N Z0 G0 0 st S G a w)(d:Fr dr w B w')(f:∀b,B b->K5 S G st.Y b)(g:∀D,fN D∈a.defers->¬B D):Qm dr P w' S (kF st.Y G) N st.Z G 0 st S G a w':=by
 have i:∀b,S b->S b/\w'.heap[b]?=w.heap[b]?:=fun b c=>⟨c,d.block b (h.inv.st b c) fun e=>(f b e).1 c⟩
 exact⟨h.inv.frame d f,fun t=>(h.xc t).mono i (zk _) (fun _ _=>rfl),h.size,h.defers.frame d g,fun _ h=>h,fun _ h=>.inl h,fun id b c=>.inl ⟨id,b,c,rfl⟩,Fr.refl _ _,zk _,fun _ _=>rfl⟩
theorem Qm.inner{st:St}{a:Act}{w:World}(h:Qm dr P w0 S0 L N Z0 G0 n0 st S G a w):Qm dr P w S (kF st.Y G) N st.Z G 0 st S G {a with defers:=[]} w:=
 ⟨h.inv,h.xc,h.size,.nil (j9 _),fun _ h=>h,fun _ h=>.inl h,fun id b c=>.inl ⟨id,b,c,rfl⟩,Fr.refl _ _,zk _,fun _ _=>rfl⟩
theorem Qm.stp{Y:Hp}{Z:Nat}{b:Nat->Prop}{c:Nat->GI}{st:St}{a:Act}{w w':World}(h:Qm dr P w S (kF Y G) N Z G n0 st b c a w'):kO dr P Y Z S G w st.Y st.Z b c w':=⟨h.inv,h.up,h.loc,h.s0,h.s1,h.own,h.fr⟩
end
def uA(dr:Prop)(P:Program)(g:FuncId)(it:ZU):Prop:=
 (∃fn,P.funcs[g]?=some fn/\(fn.name== "runtime.NumGoroutine")=false/\fn.body.isNone=false) /\
 ∀cap Y Z xs Y1,it cap Y=some (xs,Y1)->∃us:List Value,xs=us.map O.v/\(∀u∈us,lit u=true)/\(∀id b,Y1 id=some b->Y id=some b) /\
  ∀(w:World) (S:Nat->Prop) (G:Nat->GI) (vs:List Value),Inv P w S G Y Z->Zip (qe w S G Z) cap vs ->
   ∃B:Nat->Prop,(∀b,B b->kF Y G b/\K5 S G Y1 b) /\
    ∀(n l:Nat) (J c:List Value->World->Prop),
     (∀pre W a,J pre W->Fr dr W B a->J pre a)->(∀pre W a,c pre W->Fr dr W B a->c pre a)->(∀pre W,J pre W->Gl P W fun b=>b<W.heap.size) ->
     (∀pre x W,J pre W->us[pre.length]?=some x->YieldAt Fence.wide n P l #[x] W fun e a=>(e=.returned (.bool true)/\J (pre++[x]) a/\(∀b,B b->a.heap[b]?=W.heap[b]?)/\W.heap.size<=a.heap.size)\/(e=.returned (.bool false)/\c (pre++[x]) a)) ->
     ∀W,J [] W->(∀b,B b->W.heap[b]?=w.heap[b]?)->w.heap.size<=W.heap.size ->
      CallsIn Fence.wide (n+1) P g (#[.func (.yield l) #[] #[]]++vs.toArray) W fun e a=>(∃v,e=.returned v)/\(J us a\/∃pre,c pre a)
abbrev G5:=uA True
theorem PW{w:World}{S:Nat->Prop}{G:Nat->GI}{Z:Nat}{u:Value}(h:lit u=true):qe w S G Z (.v u) u:=.c (.v h)
theorem C9{w:World}{l:Nat}(o:Obj)(B:Nat->Prop)(a:B l):Fr dr w B (w.putObj l o):=
 ⟨rfl,rfl,rfl,by simp,fun _=>zk _,fun k _ b=>zee fun e=>b (e ▸ a)⟩
theorem iC(hΓ:∀g spec,C.Γ g=some spec->kh dr C.P g spec)(hpf:∀g spec,pf g=true->C.Γ g=some spec->Q9 spec)(hbk:∀g spec,C.bk g=true->C.Γ g=some spec->QU spec)(hit:∀g it,C.it g=some it->uA dr C.P g it)(hm:C.P.follows .mixedOrders=true) :
  ∀(c:Code),vI pf C.dyn C.Lr C.bk N c=true->∀(F:Fence) (n:Nat),Cp F->(F=Fence.wide\/jI c=true)->∀(w0:World) (S0 L:Nat->Prop) (Z0:Nat) (G0:Nat->GI) (n0:Nat) (st st':St) (e:Exit) (a:Act) (w:World) (Q:Exit->Act->World->Prop),n0<=w0.heap.size->qV C c st=some (e,st')->gz dr C.P w0 S0 L N Z0 G0 n0 st a w ->
   (∀a' w',gz dr C.P w0 S0 L N Z0 G0 n0 st' a' w'->Q e a' w')->c.wpIn F n C.P Q a w:=by
 intro c
 induction c with
 |skip=>
  intro _ F n hF _ w0 S0 L Z0 G0 n0 st st' e a w Q _ h hs hQ;simp only[qV]at h;injection h with h
  injection h with e1 e2;subst e1;subst e2;exact wpIn_skip (hQ a w hs)
 |region id ops draw=>
  intro hok F n hF _ w0 S0 L Z0 G0 n0 st st' e a w Q _ h hs hQ;simp only[vI,zC,qS,vk]at hok;obtain⟨hN0,hdraw⟩:=hok;have hN:∀(i:Nat) (o:Oper),ops[i]?=some o->∀d,o.dst=some d->d<N:=by intro i o ho d hd;have:=XO.1 hN0 o (fL ho);simpa[hd]using this
  simp only[qV]at h;split at h
  case h_2=>cases h
  rename_i st1 hth;have hs:=hs.tQ hth;clear hth;generalize st1=st at h hs;split at h
  case isFalse=>cases h
  rename_i hA;split at h
  ·rename_i s hs1;injection h with h
   injection h with e1 e2;subst e1;subst e2;cases draw with
   |false=>exact wpIn_region (WX hΓ hN hF _ st s a w (by rw[XW];exact hs1) hs hQ)
   |true=>
    have hd:ig (Fh pf (C.dyn id) (C.Lr id) C.bk ops) ops=true/\rh pf (C.dyn id) (C.Lr id) C.bk ops=true:=by simpa using hdraw
    refine wpIn_region_draw fun t=>?_
    simp only[Region.schedule,hm,KI,qB];exact WX hΓ hN hF _ st s a _ (PU (LV hpf hbk hd.2) hd.1 _ _ _ ⟨hA,fun _=>hs.top⟩ hs1) hs.drew hQ
  ·cases h
 |seq x y ihx ihy=>
  intro hok F n hF hno w0 S0 L Z0 G0 n0 st st' e a w Q hn0 h hs hQ;simp only[vI,zC]at hok;have hnx:F=Fence.wide\/jI x=true:=hno.imp (fun h=>h) fun h=>by simp only[jI,zC]at h;exact h.1
  have hny:F=Fence.wide\/jI y=true:=hno.imp (fun h=>h) fun h=>by simp only[jI,zC]at h;exact h.2
  simp only[qV]at h;split at h
  ·rename_i s hx;exact wpIn_seq (ihx hok.1 F n hF hnx w0 S0 L Z0 G0 n0 st s .normal a w _ hn0 hx hs fun a' w' hs'=>ihy hok.2 F n hF hny w0 S0 L Z0 G0 n0 s st' e a' w' Q hn0 h hs' hQ)
  ·rename_i r hr;refine wpIn_seq (ihx hok.1 F n hF hnx w0 S0 L Z0 G0 n0 st st' e a w _ hn0 h hs fun a' w' hs'=>?_);have:=hQ a' w' hs';cases e<;>first
    |exact this
    |exact(hr _ h).elim
 |cond c x y ihx ihy=>
  intro hok F n hF hno w0 S0 L Z0 G0 n0 st st' e a w Q hn0 h hs hQ;simp only[vI,zC]at hok;have hnx:F=Fence.wide\/jI x=true:=hno.imp (fun h=>h) fun h=>by simp only[jI,zC]at h;exact h.1
  have hny:F=Fence.wide\/jI y=true:=hno.imp (fun h=>h) fun h=>by simp only[jI,zC]at h;exact h.2
  simp only[qV]at h;obtain⟨S,G,hS⟩:=hs;split at h
  ·rename_i hc;obtain⟨hv,_⟩:=(ZX hS.xc hc).wX;exact wpIn_cond_true hv (ihx hok.1 F n hF hnx w0 S0 L Z0 G0 n0 st st' e a w Q hn0 h ⟨S,G,hS⟩ hQ)
  ·rename_i hc;obtain⟨hv,_⟩:=(ZX hS.xc hc).wX;exact wpIn_cond_false hv (ihy hok.2 F n hF hny w0 S0 L Z0 G0 n0 st st' e a w Q hn0 h ⟨S,G,hS⟩ hQ)
  ·cases h
 |block id b ih=>
  intro hok F n hF hno w0 S0 L Z0 G0 n0 st st' e a w Q hn0 h hs hQ;simp only[vI]at hok;have hnb:F=Fence.wide\/jI b=true:=hno.imp (fun h=>h) fun h=>by simp only[jI]at h;exact h
  simp only[qV]at h;split at h
  ·rename_i i s hb;refine wpIn_block (ih hok F n hF hnb w0 S0 L Z0 G0 n0 st s (.exit i) a w _ hn0 hb hs fun a' w' hs'=>?_);unfold Exit.inBlock;split at h
   ·rename_i hi;injection h with h
    injection h with e1 e2;subst e1;subst e2;simp[hi,hQ a' w' hs']
   ·rename_i hi;injection h with h
    injection h with e1 e2;subst e1;subst e2;simp[hi,hQ a' w' hs']
  ·rename_i r hr;refine wpIn_block (ih hok F n hF hnb w0 S0 L Z0 G0 n0 st st' e a w _ hn0 h hs fun a' w' hs'=>?_);have:=hQ a' w' hs';cases e<;>first
    |exact this
    |exact(hr _ _ h).elim
 |loop b ih=>
  intro hok F n hF hno w0 S0 L Z0 G0 n0 st st' e a w Q hn0 h hs hQ;simp only[vI]at hok;have hnb:F=Fence.wide\/jI b=true:=hno.imp (fun h=>h) fun h=>by simp only[jI]at h;exact h
  simp only[qV]at h;obtain⟨m,hm'⟩:=QR h;refine wpIn_loop_rounds m ?_;clear h
  induction m generalizing st a w with
  |zero=>simp[iter]at hm'
  |succ m ihn=>
   rw[roundsIn_succ];simp only[iter]at hm';split at hm'
   ·rename_i s hb;exact ih hok F n hF hnb w0 S0 L Z0 G0 n0 st s .normal a w _ hn0 hb hs fun a' w' hs'=>ihn s a' w' hs' hm'
   ·rename_i r hr;refine ih hok F n hF hnb w0 S0 L Z0 G0 n0 st st' e a w _ hn0 hm' hs fun a' w' hs'=>?_
    have:=hQ a' w' hs';cases e<;>first
     |exact this
     |exact(hr _ hm').elim
 |rangeFunc f ps x y ihx ihy=>
  intro hok F n hF hno w0 S0 L Z0 G0 n0 st st' e a w Q hn0 h hs hQ;obtain rfl:F=Fence.wide:=hno.resolve_right (by simp[jI]);simp only[vI,zC]at hok;obtain⟨⟨⟨⟨hps,hnx⟩,hny⟩,hox⟩,hoy⟩:=hok;simp only[qV]at h;split at h
  case h_2=>cases h
  rename_i p g cap hpl hfg;split at h
  case h_2=>cases h
  rename_i it hIt;split at h
  case h_2=>cases h
  rename_i xs Y1 hx;split at h
  case h_2=>cases h
  rename_i e0 Y2 CJ hro;injection h with h
  injection h with e1 e2;subst e1;subst e2;obtain⟨S,G,hS⟩:=hs;obtain⟨⟨gfn,gf1,gf2,gf3⟩,hitS⟩:=hit g it hIt;obtain⟨us,rfl,hlit,hsub,hrun⟩:=hitS cap st.Y st.Z _ Y1 hx;obtain⟨aZ,vs,ev,l1,l2,r1,r2⟩:=(ZX hS.xc hfg).tR;obtain rfl:aZ=#[]:=by simpa using l1.symm
  obtain⟨B,hB,hcalls⟩:=hrun w S G vs.toList hS.inv ⟨by simpa using l2,fun j pv u hj hu=>r2 j pv u hj (by simpa using hu)⟩;have hBlt:∀b,B b->b<w.heap.size:=fun b hb=>by obtain⟨id,blk,h1,rfl⟩:=(hB b hb).1;exact(hS.inv.live id blk h1).lt
  have hpN:p<N:=by have:=XO.1 hps p (by rw[<-Array.mem_toList_iff,hpl];simp);simpa using this
  have hps1:ps=#[p]:=by apply Array.toList_inj.1;rw[hpl]
  subst hps1;refine wpIn_rangeFunc fun fn hfn=>?_
  obtain⟨rec,hrec⟩:∃rec:LoopState->Option Code->Loop,rec=fun s pe=>{state:=s,pending:=pe,fn,tmps:=a.tmps,params:=#[p],assign:=x,body:=y,defers:=w.heap.size}:=⟨_,rfl⟩
  obtain⟨W1,hW1⟩:=yx ((w.alloc (.deferred (some []))).alloc (.loop (rec .ready none)));have hL1:W1.heap[w.heap.size+1]?=some (.loop (rec .ready none)):=by rw[<-hW1];have:=World.alloc_heap_new (w.alloc (.deferred (some []))) (.loop (rec .ready none));rwa [World.size_alloc]at this
  have hK1:W1.heap[w.heap.size]?=some (.deferred (some [])):=by rw[<-hW1];exact(Below.heap_alloc _ _ _ (by simp)).trans (World.alloc_heap_new w _)
  have hsz1:W1.heap.size=w.heap.size+2:=by rw[<-hW1];simp
  have hold1:∀b,b<w.heap.size->W1.heap[b]?=w.heap[b]?:=fun b hb=>by rw[<-hW1];exact(Below.heap_alloc _ _ _ (by simp;omega)).trans (Below.heap_alloc w _ b hb)
  have fr1:Fr dr w (fun _=>False) W1:=⟨by rw[<-hW1];rfl,by rw[<-hW1];rfl,by rw[<-hW1];rfl,by omega,fun _=>by rw[<-hW1];exact zk _,fun k hk _=>hold1 k hk⟩;obtain⟨l,hl⟩:∃l,l=w.heap.size+1:=⟨_,rfl⟩;obtain⟨a1,ha1⟩:∃a1:Act,a1={a with defers:=fN w.heap.size::a.defers}:=⟨_,rfl⟩;have hfreshAway:∀b,w.heap.size<=b->K5 S G Y1 b:=fun b hb=>⟨fun hs=>by have:=hS.inv.st b hs;omega,fun id blk hid he=>by have:=(hS.inv.live id blk (hsub id blk hid)).lt;omega⟩
  have hk0:Inv C.P W1 S G Y1 st.Z:=by have h1:Inv C.P w S G Y1 st.Z:=⟨hS.inv.st,fun id b hb=>hS.inv.top id b (hsub id b hb),fun id b hb=>hS.inv.live id b (hsub id b hb),fun id b hb=>hS.inv.apart id b (hsub id b hb),fun id id' b b' hb hb' he=>hS.inv.inj id id' b b' (hsub id b hb) (hsub id' b' hb') he,hS.inv.gT⟩;exact h1.frame fr1 (fun _ h=>h.elim)
  have hsim1:Qm dr C.P w0 S0 L N Z0 G0 n0 ⟨st.U,Y1,st.Z⟩ S G a1 W1:=by
   subst ha1;obtain⟨hd0,Ds,hd1,hd2,hd3⟩:=hS.defers;refine⟨hk0,fun t=>(hS.xc t).mono (fun b hb=>⟨hb,hold1 b (hS.inv.st b hb)⟩) (zk _) (fun _ _=>rfl),hS.size,⟨by omega,w.heap.size::Ds,by simp[hd1],?_,?_⟩,hS.s0,hS.s1,fun id b hb=>hS.own id b (hsub id b hb),hS.fr.trans fr1 (fun _ _ h=>h.elim),hS.up,hS.loc⟩
   ·refine List.nodup_cons.2 ⟨fun hm=>?_,hd2⟩;have:=(qh.1 (hd3 _ hm).2.1).1;omega
   ·intro D hD;rcases zv.1 hD with rfl|hD
    ·exact⟨hd0,hK1,(hfreshAway _ (zk _))⟩
    ·obtain⟨g1,g2,g4,g3⟩:=hd3 D hD;exact⟨g1,(hold1 D (qh.1 g2).1).trans g2,g4,fun id b hb=>g3 id b (hsub id b hb)⟩
  have hsmall:w0.heap.size<=w.heap.size:=hS.fr.size;have hBL:∀b,B b->L b\/w0.heap.size<=b:=fun b hb=>by obtain⟨id,blk,h1,rfl⟩:=(hB b hb).1;exact hS.own id blk h1
  have hmk:∀D,fN D∈a1.defers->¬B D/\¬D=l:=by
   intro D hD;subst ha1;rcases zv.1 hD with h1|h1
   ·obtain rfl:=uz h1;exact⟨fun hb=>by have:=hBlt _ hb;omega,by omega⟩
   ·obtain⟨g1,g2,_,g3⟩:=hS.defers.at h1;have:=(qh.1 g2).1;refine⟨fun hb=>?_,by omega⟩;obtain⟨id,blk,h2,h3⟩:=(hB D hb).1;exact g3 id blk h2 h3
  have hlB:¬B l:=fun hb=>by have:=hBlt l hb;omega
  obtain⟨Good,hGood⟩:∃Good:Hp->Nat->(Nat->Prop)->(Nat->GI)->LoopState->Option Code->World->Prop,Good=fun Y Z S G s pe W=>
    Qm dr C.P w0 S0 L N Z0 G0 n0 ⟨st.U,Y,Z⟩ S G a1 W/\(∀b,B b->K5 S G Y b)/\K5 S G Y l/\W.heap[l]?=some (.loop (rec s pe))/\w.heap.size<=W.heap.size:=⟨_,rfl⟩
  have good_frame:∀{Y Z S G s pe W W'},Good Y Z S G s pe W->Fr dr W B W'->Good Y Z S G s pe W':=by intro Y Z S G s pe W W' hg fr;subst hGood;obtain⟨g1,g2,g3,g4,g5⟩:=hg;exact⟨g1.frame fr g2 hBL (fun D hD=>(hmk D hD).1),g2,g3,(fr.block l (qh.1 g4).1 hlB).trans g4,zG g5 fr.size⟩
  have good_put:∀{Y Z S G s pe W} (s':LoopState) (pe':Option Code),Good Y Z S G s pe W->Good Y Z S G s' pe' (W.putObj l (.loop (rec s' pe'))):=by intro Y Z S G s pe W s' pe' hg;subst hGood;obtain⟨g1,g2,g3,g4,g5⟩:=hg;refine⟨g1.frame (C9 _ (fun b=>b=l) rfl) (fun b hb=>hb ▸ g3) (fun b hb=>.inr (by omega)) (fun D hD=>(hmk D hD).2),g2,g3,World.putObj_heap_same (qh.1 g4).1,by simpa using g5⟩
  have V8:∀{Y Z S G s pe W Y' Z' S' G' W'},Good Y Z S G s pe W->kO dr C.P Y Z S G W Y' Z' S' G' W'->Good Y' Z' S' G' s pe W'/\∀b,B b->W'.heap[b]?=W.heap[b]?:=by intro Y Z S G s pe W Y' Z' S' G' W' hg k;subst hGood;obtain⟨g1,g2,g3,g4,g5⟩:=hg;have hll:=(qh.1 g4).1;refine⟨⟨g1.step (dst:=none) k jM (fun _ h=>by cases h),fun b hb=>(g2 b hb).step k (yZ (hBlt b hb) g5),g3.step k hll,(g3.same k hll).trans g4,zG g5 k.fr.size⟩,fun b hb=>(g2 b hb).same k (yZ (hBlt b hb) g5)⟩
  obtain⟨J,hJ⟩:∃J:List Value->World->Prop,J=fun pre W=>∃Y Z S G,Good Y Z S G .ready none W/\JU (qV C x) (qV C y) st.U p ((us.drop pre.length).map O.v) Y Z=some (e0,Y2,CJ):=⟨_,rfl⟩
  obtain⟨Jx,hJx⟩:∃Jx:List Value->World->Prop,Jx=fun _ W=>∃c S G,Good Y2 CJ S G .done (some c) W/\(c=.ret/\e0=.ret\/∃i,c=.exit i/\e0=.exit i):=⟨_,rfl⟩
  have hJ0:J [] W1:=by subst hJ;refine⟨Y1,st.Z,S,G,?_,hro⟩;subst hGood;exact⟨hsim1,fun b hb=>(hB b hb).2,hfreshAway l (by omega),by rw[hl];exact hL1,by omega⟩
  have gf2':¬gfn.name= "runtime.NumGoroutine":=by simpa using gf2
  have gf3':¬gfn.body=none:=by intro h;simp[h]at gf3
  refine⟨l,[fN w.heap.size],W1,{target:=.fn (.func g) vs,args:=#[.func (.yield l) #[] #[]]},W1,g,#[.func (.yield l) #[] #[]]++vs,W1,?_,?_,?_,?_,(fun h=>by simp[Fence.wide]at h),?_⟩
  ·rw[hl,<-hW1,hrec];exact run_enterLoop_outer _ _ _ _ _
  ·simp only[resolve,ev];simp[go_sem]
  ·intro f' _;trivial
  ·simp[invoke,callFunc,gf1,gf2',gf3']
  ·have hround:∀pre u W,J pre W->us[pre.length]?=some u->YieldAt Fence.wide 0 C.P l #[u] W fun e W'=>(e=.returned (.bool true)/\J (pre++[u]) W'/\(∀b,B b->W'.heap[b]?=W.heap[b]?)/\W.heap.size<=W'.heap.size)\/(e=.returned (.bool false)/\Jx (pre++[u]) W'):=by
    intro pre u W hj hu;subst hJ;obtain⟨Y,Z,S1,G1,hg,hr⟩:=hj;obtain⟨hlt,hue⟩:=zi.1 hu;rw[zc hlt,hue]at hr;simp only[wc,JU]at hr;split at hr
    case h_2=>cases hr
    rename_i s1 hfx;have hg1:=hg;rw[hGood]at hg1;obtain⟨g1,g2,g3,g4,g5⟩:=hg1;have hy:=run_yield (P:=C.P) (args:=#[u]) g4 (by rw[hrec];rfl);rw[hrec]at hy;refine⟨fn,_,x,y,hy,roundIn_of_wpIn (F:=Fence.wide) trivial ?_⟩;have hin:=(g1.step (dst:=some p) (u:=u) (.refl g1.inv) (PW (hlit u (zL hu))) (fun d hd=>by cases hd;exact hpN)).inner;have htm:(#[p].zip #[u]).foldl (fun tmps (t,a)=>tmps.setIfInBounds t a) a.tmps=a.tmps.setIfInBounds p u:=by simp
    rw[ha1]at hin;rw[htm];refine ihx hox (Fence.wide.inRound l) 0 (.inr ⟨l,rfl⟩) (.inr hnx) W S1 (kF Y G1) Z G1 0 _ s1 .normal _ W _ (j9 _) hfx ⟨S1,G1,hin⟩ fun a2 w2 hs2=>?_
    obtain⟨S2,G2,h2⟩:=hs2;obtain⟨hg2,hb2⟩:=V8 hg h2.stp;have hl2:w2.heap[l]?=some (.loop (rec .ready none)):=by rw[hGood]at hg2;exact hg2.2.2.2.1
    have hbr:=run_beginRound (P:=C.P) hl2 (by rw[hrec]);have hrb:({rec .ready none with state:=.busy}:Loop)=rec .busy none:=by rw[hrec]
    rw[hrb]at hbr;refine⟨_,hbr,?_⟩;have hg3:=good_put .busy none hg2;have hal2:K5 S2 G2 s1.Y l:=by rw[hGood]at hg2;exact hg2.2.2.1
    have h3:=h2.Tk (C9 (.loop (rec .busy none)) (fun b=>b=l) rfl) (fun b hb=>hb ▸ hal2) (fun D hD e=>by have:=(h2.defers.at hD).2.1;rw[e,hl2]at this;cases this)
    cases hfy:qV C y s1 with
    |none=>rw[hfy]at hr;cases hr
    |some r2=>
     obtain⟨e2,s2⟩:=r2;rw[hfy]at hr;refine ihy hoy (Fence.wide.inRound l) 0 (.inr ⟨l,rfl⟩) (.inr hny) _ S2 (kF s1.Y G2) s1.Z G2 0 s1 s2 e2 a2 _ _ (j9 _) hfy ⟨S2,G2,h3⟩ fun a4 w4 hs4=>?_
     obtain⟨S4,G4,h4⟩:=hs4;obtain⟨hg4,hb4⟩:=V8 hg3 h4.stp;have hl4:w4.heap[l]?=some (.loop (rec .busy none)):=by rw[hGood]at hg4;exact hg4.2.2.2.1
     have hbb:∀b,B b->w4.heap[b]?=W.heap[b]?:=fun b hb=>(hb4 b hb).trans ((zee (k:=b) (r:=l) (fun e=>hlB (by rw[<-e];exact hb))).trans (hb2 b hb))
     have hsz:W.heap.size<=w4.heap.size:=by have q1:=h2.fr.size;have q2:=h4.fr.size;rw[World.putObj_size]at q2;exact zG q1 q2
     cases e2 with
     |normal=>
      have he:=run_endRound (P:=C.P) none hl4;have hrr:({rec .busy none with state:=if(none:Option Code).isNone then .ready else .done,pending:=none}:Loop)=rec .ready none:=by rw[hrec];rfl
      rw[hrr]at he;refine⟨_,_,he,.inl ⟨rfl,⟨s2.Y,s2.Z,S4,G4,good_put .ready none hg4,by simpa using hr⟩,fun b hb=>(zee (k:=b) (r:=l) (fun e=>hlB (by rw[<-e];exact hb))).trans (hbb b hb),by simpa using hsz⟩⟩
     |ret=>
      have he:=run_endRound (P:=C.P) (some .ret) hl4;have hrr:({rec .busy none with state:=if(some Code.ret:Option Code).isNone then .ready else .done,pending:=some .ret}:Loop)=rec .done (some .ret):=by rw[hrec];rfl
      rw[hrr]at he;simp only at hr;injection hr with hr
      injection hr with r1 hr;injection hr with r2 r3;subst r1;subst r2;subst r3;refine⟨_,_,he,.inr ⟨rfl,?_⟩⟩;rw[hJx];exact⟨.ret,S4,G4,good_put .done (some .ret) hg4,.inl ⟨rfl,rfl⟩⟩
     |exit i=>
      have he:=run_endRound (P:=C.P) (some (.exit i)) hl4;have hrr:({rec .busy none with state:=if(some (Code.exit i):Option Code).isNone then .ready else .done,pending:=some (.exit i)}:Loop)=rec .done (some (.exit i)):=by rw[hrec];rfl
      rw[hrr]at he;simp only at hr;injection hr with hr
      injection hr with r1 hr;injection hr with r2 r3;subst r1;subst r2;subst r3;refine⟨_,_,he,.inr ⟨rfl,?_⟩⟩;rw[hJx];exact⟨.exit i,S4,G4,good_put .done (some (.exit i)) hg4,.inr ⟨i,rfl,rfl⟩⟩
     |_=>cases hr
   have hcl:=hcalls 0 l J Jx (fun pre W W' hj fr=>by
     subst hJ;obtain⟨Y,Z,S1,G1,hg,hr⟩:=hj;exact⟨Y,Z,S1,G1,good_frame hg fr,hr⟩) (fun pre W W' hj fr=>by
     subst hJx;obtain⟨c,S1,G1,hg,hr⟩:=hj;exact⟨c,S1,G1,good_frame hg fr,hr⟩) (fun pre W hj=>by
     subst hJ;obtain⟨Y,Z,S1,G1,hg,hr⟩:=hj;rw[hGood]at hg;exact hg.1.inv.gT.mono fun b hb=>⟨hg.1.inv.st b hb,rfl⟩) hround W1 hJ0 (fun b hb=>hold1 b (hBlt b hb)) (by omega)
   refine mK.2 ((mK.1 hcl).mono ?_);rintro e W2 ⟨⟨v,rfl⟩,hj|⟨pre,hj⟩⟩
   ·rw[hJ]at hj;obtain⟨Y,Z,S1,G1,hg,hr⟩:=hj;rw[zn]at hr;simp only[KH,JU]at hr;injection hr with hr
    injection hr with r1 hr;injection hr with r2 r3;subst r1;subst r2;subst r3;have hl2:W2.heap[l]?=some (.loop (rec .ready none)):=by rw[hGood]at hg;exact hg.2.2.2.1
    have he:=run_endLoop (P:=C.P) hl2 (by rw[hrec];simp);have hrr:({rec .ready none with state:=.exhausted}:Loop)=rec .exhausted none:=by rw[hrec]
    have hrp:(rec .ready none).pending=none:=by rw[hrec]
    rw[hrr,hrp]at he;have hg':=good_put .exhausted none hg;rw[hGood]at hg';have hq:=hQ a1 _ ⟨S1,G1,hg'.1⟩;rw[ha1]at hq;exact⟨none,_,he,hq⟩
   ·rw[hJx]at hj;obtain⟨c,S1,G1,hg,hc⟩:=hj;have hl2:W2.heap[l]?=some (.loop (rec .done (some c))):=by rw[hGood]at hg;exact hg.2.2.2.1
    have he:=run_endLoop (P:=C.P) hl2 (by rw[hrec];simp);have hrr:({rec .done (some c)with state:=.exhausted}:Loop)=rec .exhausted (some c):=by rw[hrec]
    have hrp:(rec .done (some c)).pending=some c:=by rw[hrec]
    rw[hrr,hrp]at he;have hg':=good_put .exhausted (some c) hg;rw[hGood]at hg';have hq:=hQ a1 _ ⟨S1,G1,hg'.1⟩;rw[ha1]at hq;refine⟨some c,_,he,?_⟩;rcases hc with⟨rfl,rfl⟩|⟨i,rfl,rfl⟩
    ·exact wpIn_ret hq
    ·exact wpIn_exit hq
 |exit id=>
  intro _ F n hF _ w0 S0 L Z0 G0 n0 st st' e a w Q _ h hs hQ;simp only[qV]at h;injection h with h
  injection h with e1 e2;subst e1;subst e2;exact wpIn_exit (hQ a w hs)
 |scope b _=>intro _ F n hF _ w0 S0 L Z0 G0 n0 st st' e a w Q _ h;simp[qV]at h
 |label l=>
  intro _ F n hF _ w0 S0 L Z0 G0 n0 st st' e a w Q _ h hs hQ;simp only[qV]at h;injection h with h
  injection h with e1 e2;subst e1;subst e2;exact wpIn_label (hQ a w hs)
 |goto l=>intro _ F n hF _ w0 S0 L Z0 G0 n0 st st' e a w Q _ h;simp[qV]at h
 |ret=>
  intro _ F n hF _ w0 S0 L Z0 G0 n0 st st' e a w Q _ h hs hQ;simp only[qV]at h;injection h with h
  injection h with e1 e2;subst e1;subst e2;exact wpIn_ret (hQ a w hs)
 |refuse why=>intro _ F n hF _ w0 S0 L Z0 G0 n0 st st' e a w Q _ h;simp[qV]at h
end
end Go.AM
