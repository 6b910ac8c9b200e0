/- Lemmas. -/
import Derived.Orders
import Derived.LoopNIn
import Derived.RangeFuncRecord
import Derived.RangeFuncSeq
import Derived.Test.YtmbfinldjgmhaaaGreatDoorG2
set_option maxRecDepth 8000
open Go Proofs Proofs.YtmbfinldjgmhaaaGreatDoor Proofs.Tryz RowKit AM SpanLaw Q Zz
namespace Go.AM
def xY(pf:FuncId->Bool):Op->Nat
 | .move _|.assign _|.pick ..|.build ..|.binOp ..|.unOp ..|.convert ..|.makeFunc ..|.fieldAddr ..|.field ..|.index ..|.extract ..|.nilCheck _=>0
 | .load ..|.indexAddr ..|.slice ..=>1
 | .call c=>match c.callee with
  | .builtin .len|.builtin .min|.builtin .max=>0
  | .value (.func g)=>if pf g then 1 else 2
  |_=>2
 |_=>2
def Wk(a:AM.Spec):Prop:=∀args Y Z r Y' c,a args Y Z=some (r,Y',c)->(Y'=Y/\c=Z)/\∀b,Y Z=none->a args (qt Y Z b) (Z+1)=some (r,qt Y Z b,Z+1)
section
variable{C:Ctx}{pf:FuncId->Bool}
theorem Km{α:Type}{o:Option O}{Y Y':α}{Z b:Nat}{x:O}(h:(o.map fun y=>(y,Y,Z))=some (x,Y',b)):o=some x/\Y'=Y/\b=Z:=by obtain⟨y,c,a⟩:=zV h;injection a with d a;injection a with e f;subst d;subst e;subst f;exact⟨c,rfl,rfl⟩
theorem M6(j:∀g a,pf g=true->C.Γ g=some a->Wk a){op:Op}(e:xY pf op<=1){U:Nat->O}{Y Y':Hp}{Z i:Nat}{x:O}(h:zX C (get U) Y Z op=some (x,Y',i)):Y'=Y/\i=Z:=by
 have d:∀{y:O},some (y,Y,Z)=some (x,Y',i)->Y'=Y/\i=Z:=by
  intro y h;injection h with h
  injection h with _ h;injection h with o p;exact⟨o.symm,p.symm⟩
 cases op<;>simp only[xY]at e<;>(try omega)<;>simp only[zX]at h
 case move=>exact(Km h).2
 case assign=>exact(Km h).2
 case pick=>split at h<;>first|exact(Km h).2|cases h
 case build=>split at h<;>first|exact(Km h).2|cases h
 case load=>split at h<;>first|exact(Km h).2|cases h
 case nilCheck=>split at h<;>first|exact d h|cases h
 case binOp=>split at h<;>first|exact(Km h).2|cases h
 case unOp=>split at h<;>first|exact(Km h).2|cases h
 case convert=>split at h<;>first|exact(Km h).2|cases h
 case makeFunc=>split at h<;>first|exact d h|cases h
 case slice t x lo hi q=>cases q<;>simp only at h<;>first|(split at h<;>first|exact(Km h).2|cases h)|cases h
 case fieldAddr=>split at h<;>first|exact(Km h).2|cases h
 case field=>split at h<;>first|exact(Km h).2|cases h
 case indexAddr=>split at h<;>first|exact(Km h).2|cases h
 case index=>split at h<;>first|exact(Km h).2|cases h
 case extract=>split at h<;>first|exact(Km h).2|cases h
 case call c=>
  unfold xW at h;split at h
  ·rename_i xs _;cases k:c.callee with
   |invoke r m=>rw[k]at h;cases h
   |builtin b=>
    rw[k]at e h;cases b<;>simp at e<;>simp only[yv]at h
    ·split at h<;>first|exact(Km h).2|cases h
    ·exact(Km h).2
    ·exact(Km h).2
   |value f=>
    rw[k]at e h;cases f<;>simp at e;rename_i l;simp only[jG,get]at h;split at h
    ·rename_i a s;exact(j l a (by by_cases n:pf l=true;exact n;simp[n]at e) s _ _ _ _ _ _ h).1
    ·cases h
  ·cases h
theorem Ib{op:Op}(d:xY pf op=0){e:Operand->Option O}(Y Y2:Hp)(Z g:Nat):zX C e Y2 g op=(zX C e Y Z op).map fun r=>(r.1,Y2,g):=by
 cases op<;>simp only[xY]at d<;>(try (exact absurd d (by omega)))<;>simp only[zX]
 case move x=>cases e x<;>rfl
 case assign x=>cases e x<;>rfl
 case pick c a b=>split<;>simp[kU,jw]
 case build t i=>split<;>simp[kU,jw]
 case nilCheck x=>split<;>rfl
 case binOp=>split<;>simp[kU,jw]
 case unOp=>split<;>simp[kU,jw]
 case convert=>split<;>simp[kU,jw]
 case makeFunc=>split<;>rfl
 case fieldAddr=>split<;>simp[kU,jw]
 case field=>split<;>simp[kU,jw]
 case index=>split<;>simp[kU,jw]
 case extract=>split<;>simp[kU,jw]
 case call c=>
  unfold xW;cases wU (c.args.toList.map e)with
  |none=>rfl
  |some xs=>
   simp only;cases h:c.callee with
   |value f=>rw[h]at d;cases f<;>simp at d;split at d<;>omega
   |invoke r m=>rfl
   |builtin b=>
    rw[h]at d;cases b<;>simp at d<;>simp only[yv]
    ·split<;>simp[kU,jw]
    ·simp[kU,jw]
    ·simp[kU,jw]
theorem zba{op:Op}(c:xY pf op=0){b:Operand->Option O}{Y Y':Hp}{Z d:Nat}{x:O}(h:zX C b Y Z op=some (x,Y',d))(Y2:Hp)(a:Nat):zX C b Y2 a op=some (x,Y2,a):=by rw[Ib c Y Y2 Z a,h];rfl
theorem Kn{b a:Operand->Option O}:∀{l:List (Nat×Operand)},(∀p∈l,b p.2=a p.2)->va b l=va a l
 |[],_=>rfl
 |(i,x)::l,h=>by simp only[va];rw[h (i,x) (by simp),Kn (l:=l) fun p Y=>h p (by simp[Y])]
theorem s9{o e:Operand->Option O}{op:Op}{Y:Hp}{Z:Nat}(h:∀x∈op.operands.toList,o x=e x):zX C o Y Z op=zX C e Y Z op:=by
 cases op<;>simp only[Op.operands]at h<;>simp only[zX]
 case move x=>rw[h x (by simp)]
 case assign x=>rw[h x (by simp)]
 case pick c a b=>rw[h c (by simp),h a (by simp),h b (by simp)]
 case box t x=>rw[h x (by simp)]
 case build t q=>rw[Kn (l:=q.toList) fun p Y=>h p.2 (by simp only[qp];exact⟨p,Y,rfl⟩)]
 case buildSlice t n q=>rw[Kn (l:=q.toList) fun p Y=>h p.2 (by simp only[qp];exact⟨p,Y,rfl⟩)]
 case load t x=>rw[h x (by simp)]
 case store t a x=>rw[h a (by simp),h x (by simp)]
 case nilCheck x=>rw[h x (by simp)]
 case binOp op t x y B=>rw[h x (by simp),h y (by simp)]
 case unOp op t x=>rw[h x (by simp)]
 case convert s d x=>rw[h x (by simp)]
 case makeFunc f a b=>rw[Vt (g:=e) fun x j=>h x (by simp at j⊢;exact .inl j),Vt (l:=b.toList) (g:=e) fun x j=>h x (by simp at j⊢;exact .inr j)]
 case makeSlice t l c=>rw[h l (by simp),h c (by simp)]
 case slice t x lo hi w=>
  cases w with
  |some m=>rfl
  |none=>
   simp only;rw[h x (by simp)];have u:lo.map o=lo.map e:=by cases lo with
    |none=>rfl
    |some y=>simp only[zA];rw[h y (by simp)]
   have v:hi.map o=hi.map e:=by cases hi with
    |none=>rfl
    |some y=>simp only[zA];rw[h y (by simp)]
   rw[u,v]
 case fieldAddr t x f=>rw[h x (by simp)]
 case field t x f=>rw[h x (by simp)]
 case indexAddr t x i=>rw[h x (by simp),h i (by simp)]
 case index t x i=>rw[h x (by simp),h i (by simp)]
 case extract x i=>rw[h x (by simp)]
 case makeMap t r=>cases r<;>rfl
 case lookup t x i D=>rw[h x (by simp),h i (by simp)]
 case mapUpdate t m k x=>rw[h m (by simp),h k (by simp),h x (by simp)]
 case insert t m k x=>rw[h m (by simp),h k (by simp),h x (by simp)]
 case call c=>
  unfold xW;have z:c.args.toList.map o=c.args.toList.map e:=Vt fun x j=>h x (by simp only[Call.operands,Array.toList_append,zF];exact .inr j)
  rw[z];cases wU (c.args.toList.map e)with
  |none=>rfl
  |some xs=>
   simp only;cases A:c.callee with
   |value f=>simp only;rw[h f (by simp[Call.operands,A])]
   |invoke r m=>rfl
   |builtin b=>rfl
def j9(C:Ctx)(a:Array Oper)(o:Oper)(U:Nat->O)(Y:Hp)(Z:Nat):Option (O×Hp×Nat):=
 if Region.wanted o (QS a U)=true then zX C (get U) Y Z o.op else some (.wq [],Y,Z)
theorem yQ(a:Array Oper)(o:Oper)(st:St):yJ C a o st=(j9 C a o st.U st.Y st.Z).map fun r=>⟨put st.U o.dst r.1,r.2.1,r.2.2⟩:=by
 unfold yJ j9;split
 ·cases zX C (get st.U) st.Y st.Z o.op<;>rfl
 ·rfl
theorem QT{a:Array Oper}{o:Oper}{U c:Nat->O}{Y:Hp}{Z:Nat}(h:∀t,t∈o.looksAt a->U t=c t):j9 C a o U Y Z=j9 C a o c Y Z:=by
 have e:Region.wanted o (QS a U)=Region.wanted o (QS a c):=by
  unfold Region.wanted;split
  ·rfl
  ·rename_i j b i;have:QS a U j=QS a c j:=by
    unfold QS;split
    ·rename_i d hd;rw[h d (by simp[Oper.looksAt,i,hd])]
    ·rfl
   rw[this]
 unfold j9;rw[e];split
 ·refine s9 fun x k=>?_
  cases x with
  |tmp t=>simp only[get];rw[h t];simp only[Oper.looksAt,zF,List.mem_filterMap];exact .inl ⟨.tmp t,k,rfl⟩
  |const x=>rfl
  |global g=>rfl
  |func f=>rfl
 ·rfl
theorem xt{U:Nat->O}{d:Option Tmp}{x:O}{t:Nat}(h:∀e,d=some e->e≠t):put U d x t=U t:=by
 cases d with
 |none=>rfl
 |some e=>exact qL _ _ _ _ fun a=>h e rfl a.symm
theorem lk{U:Nat->O}{d e:Option Tmp}{x y:O}(h:∀k,d=some k->e≠some k):put (put U d x) e y=put (put U e y) d x:=by
 cases d with
 |none=>rfl
 |some k=>
  cases e with
  |none=>rfl
  |some m=>
   have a:m≠k:=fun b=>h k rfl (by rw[b])
   funext i;simp only[put,qt];by_cases c:i=m<;>by_cases f:i=k<;>simp_all
def M7(pf:FuncId->Bool)(c:Array Oper)(a b:Oper):Bool:=
 a.apart c b&&(xY pf a.op==0||xY pf b.op==0||(decide (xY pf a.op<=1)&&decide (xY pf b.op<=1)))
theorem ba{b:Array Oper}{o:Oper}{U:Nat->O}{Y Y':Hp}{Z d:Nat}{x:O}(f:xY pf o.op=0)(h:j9 C b o U Y Z=some (x,Y',d))(Y2:Hp)(a:Nat):j9 C b o U Y2 a=some (x,Y2,a):=by
 unfold j9 at h⊢;split at h
 ·rename_i c;rw[zf c];exact zba f h Y2 a
 ·rename_i c;rw[zc c];injection h with h
  injection h with e _;subst e;rfl
theorem Yv(b:∀g a,pf g=true->C.Γ g=some a->Wk a){c:Array Oper}{o:Oper}{U:Nat->O}{Y Y':Hp}{Z d:Nat}{x:O}(e:xY pf o.op<=1)(h:j9 C c o U Y Z=some (x,Y',d)):Y'=Y/\d=Z:=by
 unfold j9 at h;split at h
 ·exact M6 b e h
 ·injection h with h;injection h with _ h;injection h with f i;exact⟨f.symm,i.symm⟩
theorem A0{c:Array Oper}{a b:Oper}(j:xY pf a.op=0)(p:∀d,a.dst=some d->d ∉ b.looksAt c)(q:∀d,a.dst=some d->b.dst≠some d)(s:∀d,b.dst=some d->d ∉ a.looksAt c)(st:St) :
  (yJ C c a st).bind (yJ C c b)=(yJ C c b st).bind (yJ C c a):=by
 have u:∀x Y Z,j9 C c b (put st.U a.dst x) Y Z=j9 C c b st.U Y Z:=fun x Y Z=>QT fun t k=>xt fun e l g=>p e l (g ▸ k)
 have o:∀x Y Z,j9 C c a (put st.U b.dst x) Y Z=j9 C c a st.U Y Z:=fun x Y Z=>QT fun t k=>xt fun e l g=>s e l (g ▸ k)
 have i:∀x y,put (put st.U a.dst x) b.dst y=put (put st.U b.dst y) a.dst x:=fun x y=>lk q
 rw[yQ c a st,yQ c b st];cases f:j9 C c a st.U st.Y st.Z with
 |none=>
  cases m:j9 C c b st.U st.Y st.Z with
  |none=>rfl
  |some r=>
   obtain⟨y,Y2,n⟩:=r;simp only[xS,im,zA,z8];rw[yQ];simp only[o];cases v:j9 C c a st.U Y2 n with
   |none=>rfl
   |some w=>obtain⟨x,z,D⟩:=w;rw[ba j v st.Y st.Z]at f;cases f
 |some r=>
  obtain⟨x,Y1,n1⟩:=r;have h:=ba j f st.Y st.Z;rw[f]at h;injection h with h;injection h with _ h;injection h with A B;subst A;subst B;simp only[zA,z8];rw[yQ];simp only[u];cases m:j9 C c b st.U st.Y st.Z with
  |none=>rfl
  |some r=>obtain⟨y,Y2,n⟩:=r;simp only[zA,z8];rw[yQ];simp only[o,ba j f Y2 n,zA,i]
theorem Ic(i:∀g f,pf g=true->C.Γ g=some f->Wk f){c:Array Oper}{a b:Oper}(h:M7 pf c a b=true)(st:St) :
  (yJ C c a st).bind (yJ C c b)=(yJ C c b st).bind (yJ C c a):=by
 simp only[M7,zC]at h;obtain⟨o,m⟩:=h;obtain⟨p,q,s⟩:=Oper.apart_spec o;simp only[qF,yH,zC,qi]at m;rcases m with(h|h)|⟨A,w⟩
 ·exact A0 h p q s st
 ·exact(A0 h s (fun d hd B=>q d B hd) p st).symm
 ·have D:∀x Y Z,j9 C c b (put st.U a.dst x) Y Z=j9 C c b st.U Y Z:=fun x Y Z=>QT fun t u=>xt fun e v j=>p e v (j ▸ u)
  have z:∀x Y Z,j9 C c a (put st.U b.dst x) Y Z=j9 C c a st.U Y Z:=fun x Y Z=>QT fun t u=>xt fun e v j=>s e v (j ▸ u)
  have n:∀x y,put (put st.U a.dst x) b.dst y=put (put st.U b.dst y) a.dst x:=fun x y=>lk q
  rw[yQ c a st,yQ c b st];cases k:j9 C c a st.U st.Y st.Z with
  |none=>
   cases l:j9 C c b st.U st.Y st.Z with
   |none=>rfl
   |some r=>obtain⟨y,Y2,E⟩:=r;obtain⟨rfl,rfl⟩:=Yv i w l;simp only[xS,im,zA,z8];rw[yQ];simp only[z,k,xS]
  |some r=>
   obtain⟨x,Y1,n1⟩:=r;obtain⟨rfl,rfl⟩:=Yv i A k;simp only[zA,z8];rw[yQ];simp only[D];cases l:j9 C c b st.U st.Y st.Z with
   |none=>rfl
   |some r=>obtain⟨y,Y2,E⟩:=r;obtain⟨rfl,rfl⟩:=Yv i w l;simp only[zA,z8];rw[yQ];simp only[z,k,zA,n]
def ke(C:Ctx)(a:Array Oper):List Nat->St->Option St
 |[],st=>some st
 |i::l,st=>match a[i]? with
  |none=>ke C a l st
  |some o=>(yJ C a o st).bind (ke C a l)
def ln(acc:List Nat)(o:Oper):Nat:=o.after.toList.foldl (fun s e=>if Region.binds .any e then s||| 2 ^ e.on||| acc.getD e.on 0 else s) 0
def ta(c:Oper->Oper->Bool)(b:Array Oper):List Oper->Nat->List Nat->Bool
 |[],_,_=>true
 |o::l,i,a=>
  o.after.toList.all (fun e=>!Region.binds .any e||decide (e.on<i)) &&
  (List.range i).all (fun j=>(ln a o).testBit j||(match b[j]? with|some p=>c p o|none=>false)) &&
  ta c b l (i+1) (a++[ln a o])
def bb(a:Array Oper)(L:Nat->Prop):Prop:=∀k o,L k->a[k]?=some o->∀e∈o.after.toList,Region.binds .any e=true->L e.on
def ri(L:Nat->Prop)(o:Oper):Prop:=∀e∈o.after.toList,Region.binds .any e=true->L e.on
theorem rj(acc:List Nat)(j:Nat):∀(l:List Edge) (s:Nat),(l.foldl (fun s e=>if Region.binds .any e then s||| 2 ^ e.on||| acc.getD e.on 0 else s) s).testBit j=true ->
  s.testBit j=true\/∃e∈l,Region.binds .any e=true/\(j=e.on\/(acc.getD e.on 0).testBit j=true)
 |[],s,h=>.inl h
 |e::l,s,h=>by
  simp only[xR]at h;rcases rj acc j l _ h with h1|⟨c,h1,d,f⟩
  ·split at h1
   ·rename_i a;simp only[Nat.testBit_or,qF]at h1;rcases h1 with(h1|h1)|h1
    ·exact .inl h1
    ·refine .inr ⟨e,by simp,a,.inl ?_⟩;by_cases b:j=e.on
     ·exact b
     ·rw[Nat.testBit_two_pow_of_ne (fun h=>b h.symm)]at h1;cases h1
    ·exact .inr ⟨e,by simp,a,.inr h1⟩
   ·exact .inl h1
  ·exact .inr ⟨c,by simp[h1],d,f⟩
def dQ(a:Array Oper)(b:List Nat):Prop:=∀(k m:Nat),b[k]?=some m->∀o,a[k]?=some o->∀L,bb a L->ri L o->∀j,m.testBit j=true->L j
theorem XH{a:Array Oper}{b:List Nat}(n:dQ a b){o:Oper}(L:Nat->Prop)(k:bb a L)(Y:ri L o)(p:∀e∈o.after.toList,Region.binds .any e=true->e.on<a.size)(j:Nat)(h:(ln b o).testBit j=true):L j:=by
 rcases rj b j _ 0 h with g|⟨e,g,l,c⟩
 ·simp at g
 ·have d:=Y e g l;rcases c with rfl|c
  ·exact d
  ·cases i:b[e.on]? with
   |none=>rw[Ke,i]at c;simp at c
   |some m=>rw[Ke,i]at c;have f:=p e g l;exact n e.on m i a[e.on] (by simp[f]) L k (k e.on _ d (by simp[f])) j c
theorem fw{y:Oper->Oper->Bool}{a:Array Oper}:∀{l:List Oper} {i:Nat} {b:List Nat},ta y a l i b=true->b.length=i->(∀k,l[k]?=a[i+k]?)->dQ a b ->
  ∀k o,l[k]?=some o->(∀e∈o.after.toList,Region.binds .any e=true->e.on<i+k)/\∀j,j<i+k->(∀L,bb a L->ri L o->L j)\/∃p,a[j]?=some p/\y p o=true
 |[],i,b,_,_,_,_,k,o,r=>by simp at r
 |o'::l,i,b,h,z,s,A,k,o,r=>by
  simp only[ta,zC,zL,qF,yF,qi,yg]at h;obtain⟨⟨C,D⟩,E⟩:=h;have t:a[i]?=some o':=by have:=s 0;simpa using this.symm
  have hi:i<a.size:=(zU.1 t).1;have B:∀e∈o'.after.toList,Region.binds .any e=true->e.on<i:=fun e v d=>by
   rcases C e v with h|h
   ·rw[d]at h;cases h
   ·exact h
  have u:∀L,bb a L->ri L o'->∀j,(ln b o').testBit j=true->L j:=fun L g Y j n=>XH A L g Y (fun e v d=>by have:=B e v d;omega) j n
  cases k with
  |zero=>
   simp at r;subst r;refine⟨by simpa using B,fun j n=>?_⟩;rcases D j (by simpa using n)with h|h
   ·exact .inl fun L g Y=>u L g Y j h
   ·split at h
    ·rename_i p Y;exact .inr ⟨p,Y,h⟩
    ·cases h
  |succ k=>
   have w:dQ a (b++[ln b o']):=by
    intro q m f F c L g Y j n;by_cases x:q<b.length
    ·rw[zY x]at f;exact A q m f F c L g Y j n
    ·rw[zQ (by omega)]at f;have:q=i:=by have:=(zd.1 f).1;simp at this;omega
     subst this;rw[z]at f;simp at f;subst f;rw[t]at c;injection c with c
     subst c;exact u L g Y j n
   have:=fw E (by simp[z]) (fun q=>by have:=s (q+1);simpa[iR,AB 1 q]using this) w k o (by simpa using r);rwa [show i+1+k=i+(k+1)from by omega]at this
def lp(b:Oper->Oper->Bool)(a:Array Oper):Bool:=ta b a a.toList 0 []
theorem fx{b:Oper->Oper->Bool}{a:Array Oper}(h:lp b a=true):∀i o,a[i]?=some o->(∀e∈o.after.toList,Region.binds .any e=true->e.on<i)/\∀j,j<i->(∀L,bb a L->ri L o->L j)\/∃p,a[j]?=some p/\b p o=true:=by intro i o c;have:=fw h rfl (by simp) (fun k m d=>by simp at d) i o (by simpa using c);simpa using this
structure AH (C:Ctx) (ops:Array Oper) (cm:Oper->Oper->Bool) (A:St->Prop):Prop where
 keep:∀(i:Nat) (o:Oper) (st st':St),ops[i]?=some o->A st->yJ C ops o st=some st'->A st'
 comm:∀(i j:Nat) (a b:Oper) (st st':St),ops[i]?=some a->ops[j]?=some b->cm a b=true->A st->(yJ C ops a st).bind (yJ C ops b)=some st'->(yJ C ops b st).bind (yJ C ops a)=some st'
theorem aB{a:Array Oper}{q:Oper->Oper->Bool}{A:St->Prop}(g:AH C a q A){i:Nat}{o:Oper}(e:a[i]?=some o)(b:List Nat):∀(pre:List Nat) (st r:St),A st->(∀j∈pre,∃p,a[j]?=some p/\q p o=true) ->
  ke C a (pre++i::b) st=some r->ke C a (i::(pre++b)) st=some r
 |[],st,r,_,_,h=>h
 |j::pre,st,r,s,h,c=>by
  obtain⟨p,Y,l⟩:=h j (by simp);simp only[qX,ke,Y]at c;cases hs:yJ C a p st with
  |none=>rw[hs]at c;cases c
  |some st1=>
   rw[hs,z8]at c;have d:=aB g e b pre st1 r (g.keep j p st st1 Y s hs) (fun k u=>h k (by simp[u])) c;simp only[ke,e]at d;cases m:yJ C a o st1 with
   |none=>rw[m]at d;cases d
   |some n=>
    rw[m,z8]at d;have f:=g.comm j i p o st n Y e l s (by rw[hs,z8];exact m);simp only[ke,e,qX,Y];cases t:yJ C a o st with
    |none=>rw[t]at f;cases f
    |some v=>rw[t,z8]at f;rw[z8,f,z8];exact d
def Ql(a:AM.Spec):Prop:=∀args Y Z r Y' b,a args Y Z=some (r,Y',b)->Z<=b/\∀id blk,id<Z->Y id=some blk->blk.arr=false->Y' id=some blk
def A1(L:List Tmp):Op->Bool
 | .load _ (.tmp a)=>L.contains a
 | .indexAddr _ (.tmp a) _=>L.contains a
 |_=>false
def ixB(L:List Tmp):Op->Bool
 | .indexAddr _ (.tmp a) _=>L.contains a
 |_=>false
def lq(a:FuncId->Bool):Op->Bool
 | .call ⟨.value (.func g),_,_⟩=>a g
 | .call ⟨.builtin .append,_,_⟩=>true
 | .buildSlice _ _ _=>true
 | .alloc _=>true
 |_=>false
def zbb:Op->Bool
 | .store _ _ _=>true
 |_=>false
def lr(D:List (Tmp×Tmp)):Op->Op->Bool
 | .load _ (.tmp a),.store _ (.tmp b) _=>D.contains (a,b)
 |_,_=>false
def Sb(D:List (Tmp×Tmp))(L:List Tmp)(a:FuncId->Bool)(p o:Op):Bool:=lr D p o||(A1 L p&&lq a o)||(ixB L p&&zbb o)
def zaf(D:List (Tmp×Tmp))(L:List Tmp)(b:FuncId->Bool)(a:Array Oper)(p o:Oper):Bool:=
 p.apart a o&&o.apart a p&&p.guard.isNone&&o.guard.isNone&&(Sb D L b p.op o.op||Sb D L b o.op p.op)
def Ie(L:List Tmp):Bool:=L.any fun s=>decide (zB<=s)
def XI(L:List Tmp):Op->Bool
 | .buildSlice _ _ a=>a.toList.all fun p=>match p.2 with
  | .tmp z=>L.contains (z+zB)
  |_=>false
 |_=>false
def cp:Op->Bool
 | .load _ (.tmp _)=>true
 | .indexAddr _ (.tmp _) _=>true
 |_=>false
def dR(pf:FuncId->Bool):Op->Bool
 | .call ⟨.value (.func g),_,_⟩=>pf g
 |_=>false
def M8:Op->Bool
 | .alloc _=>true
 |_=>false
def Sc(pf:FuncId->Bool)(L:List Tmp)(a:Array Oper)(p o:Oper):Bool:=Ie L&&p.apart a o&&p.guard.isNone&&o.guard.isNone&&(cp p.op||dR pf p.op)&&(XI L o.op||M8 o.op)
def GP(pf:FuncId->Bool)(D:List (Tmp×Tmp))(L:List Tmp)(b:FuncId->Bool)(a:Array Oper)(p o:Oper):Bool:=M7 pf a p o||zaf D L b a p o||Sc pf L a p o
def topB(pf:FuncId->Bool)(o:Op):Bool:=decide (xY pf o<=1)||match o with
 | .store _ _ _=>true
 | .call ⟨.builtin .append,_,_⟩=>true
 | .buildSlice _ _ _=>true
 | .alloc _=>true
 |_=>false
def Ew(pf:FuncId->Bool)(L:List Tmp)(ops:Array Oper):Bool:=!Ie L||ops.all fun o=>topB pf o.op&&L.all fun s=>decide (s<zB)||o.dst != some (s-zB)||(o.guard.isNone&&match o.op with
 | .move (.tmp b)=>L.contains (b+zB)
 | .build _ a=>a.toList.all fun p=>match p.2 with
  | .tmp z=>L.contains (z+zB)
  |_=>false
 |_=>false)
def tc(pf:FuncId->Bool)(D:List (Tmp×Tmp))(L:List Tmp)(a:FuncId->Bool)(ops:Array Oper):Bool:=(D.isEmpty&&L.isEmpty)||ops.all fun o=>D.all (fun p=>o.dst != some p.2&&(o.dst != some p.1||match o.op with
    | .fieldAddr _ (.tmp s) _=>D.contains (s,p.2)
    | .indexAddr _ (.tmp s) _=>D.contains (s,p.2)&&L.contains s
    |_=>false)) &&
 L.all (fun s=>o.dst != some s||match o.op with
  | .fieldAddr _ (.tmp b) _=>L.contains b
  | .indexAddr _ (.tmp b) _=>L.contains b
  |_=>false) &&
 (decide (xY pf o.op<=1)||match o.op with
  | .store _ _ _=>true
  | .call ⟨.value (.func g),_,_⟩=>D.all (fun p=>L.contains p.2)&&a g
  | .call ⟨.builtin .append,_,_⟩=>D.all (fun p=>L.contains p.2)
  | .buildSlice _ _ _=>D.all (fun p=>L.contains p.2)
  | .alloc _=>D.all (fun p=>L.contains p.2)
  |_=>false)
def td(pf:FuncId->Bool)(D:List (Tmp×Tmp))(L:List Tmp)(b:FuncId->Bool)(a:Array Oper):Bool:=Ew pf L a&&tc pf D L b a
end
section
variable{C:Ctx}{pf:FuncId->Bool}
theorem VB{Y Y1:Hp}{x y:O}(h:wu Y x=some (y,Y1)){id:Nat}{b:kn}(c:Y id=some b)(e:b.arr=false):Y1 id=some b:=by
 unfold wu at h;split at h
 ·split at h
  ·rename_i f a;split at h
   ·rename_i d;injection h with h
    injection h with _ h;subst h;rw[qL]
    ·exact c
    ·rintro rfl;rw[c]at a;injection a with a;subst a;rw[e]at d;cases d.1
   ·cases h
  ·cases h
 all_goals first
  |(injection h with h;injection h with _ h;subst h;exact c)
  |(split at h<;>first|(injection h with h;injection h with _ h;subst h;exact c)|cases h)
  |cases h
theorem Vc:∀{xs ys:zb} {Y Y1:Hp},qY Y xs=some (ys,Y1)->∀{id:Nat} {b:kn},Y id=some b->b.arr=false->Y1 id=some b
 |[],ys,Y,Y1,h,id,b,a,c=>by simp only[qY]at h;injection h with h;injection h with _ h;subst h;exact a
 |x::l,ys,Y,Y1,h,id,b,a,c=>by
  simp only[qY]at h;split at h
  ·rename_i y Y2 d;split at h
   ·rename_i r e f;injection h with h;injection h with _ h;subst h
    exact Vc f (VB d a c) c
   ·cases h
  ·cases h
theorem Jp{Y Y1:Hp}{x y:O}(h:qa Y x=some (y,Y1)){id:Nat}{b:kn}(a:Y id=some b)(c:b.arr=false):Y1 id=some b:=by
 unfold qa at h;split at h
 ·split at h
  ·rename_i l e d;injection h with h;injection h with _ h;subst h
   exact Vc d a c
  ·cases h
 ·exact VB h a c
theorem Ig{P:Program}{Y Y':Hp}{t:TypeId}{p x:O}(h:QQ P Y t p x=some Y'){id:Nat}{b:kn}(e:Y id=some b)(d:b.arr=false):∃f,Y' id=some f/\f.arr=false:=by
 unfold QQ at h;split at h
 ·rename_i id' i j;split at h
  ·rename_i m l;split at h
   ·rename_i y Y1 c;have g:Y1 id=some b:=by
     split at c
     ·exact Jp c e d
     ·injection c with c;injection c with _ c;subst c;exact e
    split at h
    ·rename_i o n a _;split at h
     ·split at h
      ·injection h with h;subst h;by_cases k:id=id'
       ·subst k;rw[g]at a;injection a with a
        subst a;exact⟨_,wP _ _ _,d⟩
       ·exact⟨b,by rw[qL _ _ _ _ k];exact g,d⟩
      ·cases h
     ·cases h
    ·cases h
   ·cases h
  ·cases h
 ·cases h
theorem Ex{P:Program}{Y Y':Hp}{t:TypeId}{id i j:Nat}{x:O}{b:kn}(h:QQ P Y t (.ref id i j) x=some Y')(a:Y id=some b)(c:b.arr=false){k:Nat}(d:k≠id):Y' k=Y k:=by
 simp only[QQ,a,c]at h;simp only[zO,wx]at h;split at h
 ·split at h
  ·split at h
   ·injection h with h;subst h;exact qL _ _ _ _ d
   ·cases h
  ·cases h
 ·cases h
theorem cq{a:Array Oper}{l c:Oper}(n:l.apart a c=true){st:St}(o:∀Y Z y Y' d,j9 C a l st.U Y Z=some (y,Y',d)->Y'=Y/\d=Z)
  (f:∀z Y' d,j9 C a c st.U st.Y st.Z=some (z,Y',d)->(j9 C a l st.U Y' d).map (·.1)=(j9 C a l st.U st.Y st.Z).map (·.1)) :
  (yJ C a l st).bind (yJ C a c)=(yJ C a c st).bind (yJ C a l):=by
 obtain⟨A,B,D⟩:=Oper.apart_spec n;have cs:∀y Y Z,j9 C a c (put st.U l.dst y) Y Z=j9 C a c st.U Y Z:=fun y Y Z=>QT fun u p=>xt fun e s g=>A e s (g ▸ p)
 have w:∀y Y Z,j9 C a l (put st.U c.dst y) Y Z=j9 C a l st.U Y Z:=fun y Y Z=>QT fun u p=>xt fun e s g=>D e s (g ▸ p)
 have h:∀y z,put (put st.U l.dst y) c.dst z=put (put st.U c.dst z) l.dst y:=fun y z=>lk B
 rw[yQ a l st,yQ a c st];cases t:j9 C a c st.U st.Y st.Z with
 |none=>
  cases i:j9 C a l st.U st.Y st.Z with
  |none=>rfl
  |some q=>obtain⟨y,Y1,v⟩:=q;obtain⟨rfl,rfl⟩:=o _ _ _ _ _ i;simp only[zA,xS,z8,im];rw[yQ];simp only[cs,t,xS]
 |some q=>
  obtain⟨z,Y',d⟩:=q;have b:=f z Y' d t;cases i:j9 C a l st.U st.Y st.Z with
  |none=>
   rw[i]at b;have E:j9 C a l st.U Y' d=none:=by
    cases k:j9 C a l st.U Y' d with
    |none=>rfl
    |some r=>rw[k]at b;cases b
   simp only[zA,xS,z8,im];rw[yQ];simp only[w,E,xS]
  |some q=>
   obtain⟨y,Y1,v⟩:=q;obtain⟨rfl,rfl⟩:=o _ _ _ _ _ i;rw[i]at b;obtain⟨m,j,x⟩:∃m,j9 C a l st.U Y' d=some m/\m.1=y:=by
    cases k:j9 C a l st.U Y' d with
    |none=>rw[k]at b;cases b
    |some r=>rw[k]at b;injection b with b;exact⟨r,rfl,b⟩
   obtain⟨G,Y2,F⟩:=m;simp only at x;subst x;obtain⟨rfl,rfl⟩:=o _ _ _ _ _ j;simp only[zA,z8];rw[yQ,yQ];simp only[cs,t,w,j,zA,h]
theorem jT{a:Array Oper}{o:Oper}(g:o.guard=none)(U:Nat->O)(Y:Hp)(Z:Nat):j9 C a o U Y Z=zX C (get U) Y Z o.op:=by
 have w:Region.wanted o (QS a U)=true:=by unfold Region.wanted;rw[g]
 simp only[j9,w,qI]
theorem Jq{P:Program}{Y Y':Hp}{t:TypeId}{p:O}(a:∀id o n,p≠.own id o n)(q:O):qJ P Y' t p q=qJ P Y t p q:=by
 cases q with
 |v y=>
  cases y with
  |int w i=>
   cases p with
   |own id o n=>exact absurd rfl (a id o n)
   |_=>
    simp only[qJ];cases ym P t with
    |none=>rfl
    |some e=>simp only;cases qC P e<;>rfl
  |_=>simp only[qJ]
 |_=>simp only[qJ]
theorem Ih{L:List Tmp}{op:Op}(b:A1 L op=true){st:St}(f:xy L st){Y':Hp}{Z h:Nat}(k:∀id blk,id<st.Z->st.Y id=some blk->blk.arr=false->Y' id=some blk) :
  (zX C (get st.U) Y' h op).map (·.1)=(zX C (get st.U) st.Y Z op).map (·.1):=by
 unfold A1 at b;split at b
 ·rename_i t a;obtain⟨⟨c,d⟩,_⟩:=f a (by simpa using b);have:xA C.P Y' t (st.U a)=xA C.P st.Y t (st.U a):=by
   cases e:st.U a with
   |ref id i j=>obtain⟨l,blk,g,m⟩:=d id i j e;simp only[xA,k id blk l g m,g]
   |_=>rfl
  simp only[zX,get,this];cases xA C.P st.Y t (st.U a)<;>rfl
 ·rename_i t a i;obtain⟨⟨c,d⟩,_⟩:=f a (by simpa using b);have:∀q,qJ C.P Y' t (st.U a) q=qJ C.P st.Y t (st.U a) q:=by exact fun q=>Jq c q
  simp only[zX,show get st.U (.tmp a)=some (st.U a)from rfl];cases get st.U i with
  |none=>rfl
  |some q=>simp only[this];cases qJ C.P st.Y t (st.U a) q<;>rfl
 ·cases b
theorem bd{op:Op}{U:Nat->O}{Y Y':Hp}{Z b:Nat}{y:O}(c:(∃t a,op=.load t (.tmp a))\/∃t a i,op=.indexAddr t (.tmp a) i)(h:zX C (get U) Y Z op=some (y,Y',b)):Y'=Y/\b=Z:=by
 rcases c with⟨t,a,rfl⟩|⟨t,a,i,rfl⟩
 ·simp only[zX,get]at h;exact(Km h).2
 ·simp only[zX,get]at h;split at h
  ·exact(Km h).2
  ·cases h
theorem M9{L:List Tmp}{op:Op}(h:A1 L op=true):(∃t a,op=.load t (.tmp a))\/∃t a i,op=.indexAddr t (.tmp a) i:=by
 unfold A1 at h;split at h
 ·exact .inl ⟨_,_,rfl⟩
 ·exact .inr ⟨_,_,_,rfl⟩
 ·cases h
theorem Vd:∀{e a:List (Nat×O)} {Y Y1:Hp},zo Y e=some (a,Y1)->∀{id:Nat} {b:kn},Y id=some b->b.arr=false->Y1 id=some b
 |[],a,Y,Y1,h,id,b,c,d=>by simp only[zo]at h;injection h with h;injection h with _ h;subst h;exact c
 |(i,x)::l,a,Y,Y1,h,id,b,c,d=>by
  simp only[zo]at h;split at h
  ·rename_i y Y2 f;split at h
   ·rename_i r g j;injection h with h;injection h with _ h;subst h
    exact Vd j (Jp f c d) d
   ·cases h
  ·cases h
theorem A2{P:Program}{Y Y':Hp}{Z g:Nat}{t u:TypeId}{s x y:O}(h:yI P Y Z t u s x=some (y,Y',g)):Z<=g/\∀id blk,id<Z->Y id=some blk->blk.arr=false->Y' id=some blk:=by
 unfold yI at h;split at h
 ·split at h
  ·split at h
   ·split at h
    ·split at h
     ·split at h
      ·injection h with h;injection h with _ h;injection h with d f;subst d;subst f;exact⟨ze _,fun _ _ _ c _=>c⟩
      ·injection h with h;injection h with _ h;injection h with d f;subst d;subst f;exact⟨by omega,fun id blk hid c _=>by rw[qL _ _ _ _ (by omega)];exact c⟩
     ·cases h
    ·split at h
     ·rename_i b a;split at h
      ·rename_i i;injection h with h;injection h with _ h;injection h with d f
       subst d;subst f;refine⟨by omega,fun id blk hid c j=>?_⟩;rw[qL _ _ _ _ (by omega),qL _ _ _ _ (fun e=>by
        subst e;rw[c]at a;injection a with a
        subst a;rw[j]at i;cases i.1)]
       exact c
      ·cases h
     ·cases h
    ·cases h
   ·cases h
  ·cases h
 ·cases h
theorem dS{t:TypeId}{U:Nat->O}{Y Y':Hp}{Z a:Nat}{z:O}(h:zX C (get U) Y Z (.alloc t)=some (z,Y',a)):∃b,Y'=qt Y Z b/\a=Z+1:=by
 simp only[zX]at h;split at h
 ·split at h
  ·injection h with h;injection h with _ h;injection h with c d;exact⟨_,c.symm,d.symm⟩
  ·cases h
 ·cases h
theorem lu{k:FuncId->Bool}(c:∀g a,k g=true->C.Γ g=some a->Ql a){op:Op}(b:lq k op=true){U:Nat->O}{Y Y':Hp}{Z l:Nat}{z:O}(h:zX C (get U) Y Z op=some (z,Y',l)) :
  Z<=l/\∀id blk,id<Z->Y id=some blk->blk.arr=false->Y' id=some blk:=by
 unfold lq at b;split at b
 ·rename_i g m ts;simp only[zX,xW]at h;split at h
  ·simp only[get,jG]at h;split at h
   ·rename_i a hs;exact c g a b hs _ _ _ _ _ _ h
   ·cases h
  ·cases h
 ·rename_i m ts;simp only[zX,xW]at h;split at h
  ·simp only[yv]at h;split at h
   ·exact A2 h
   ·cases h
  ·cases h
 ·rename_i t len d;simp only[zX]at h;split at h
  ·rename_i q o;unfold zp at h;split at h
   ·split at h
    ·rename_i n r s Y1 _ _ e;split at h
     ·split at h
      ·injection h with h;injection h with _ h;injection h with f i;subst f;subst i;refine⟨by omega,fun id blk hid j p=>?_⟩;rw[qL _ _ _ _ (by omega)];exact Vd e j p
      ·cases h
     ·cases h
    ·cases h
   ·cases h
  ·cases h
 ·rename_i t;obtain⟨u,f,i⟩:=dS h;subst f;subst i;refine⟨by omega,fun id blk hid j _=>?_⟩;rw[qL _ _ _ _ (by omega)];exact j
 ·cases b
theorem rl{H:FuncId->Bool}(A:∀g m,H g=true->C.Γ g=some m->Ql m){D:List (Tmp×Tmp)}{L:List Tmp}{d:Array Oper}{l c:Oper}(I:Sb D L H l.op c.op=true)(e:l.guard=none)(J:c.guard=none)(n:l.apart d c=true){st:St}(N:WH D st)(K:xy L st) :
  (yJ C d l st).bind (yJ C d c)=(yJ C d c st).bind (yJ C d l):=by
 simp only[Sb,qF,zC]at I;rcases I with(f|⟨r,B⟩)|⟨k,Q⟩
 ·unfold lr at f;split at f
  ·rename_i t a t' b x s R;refine cq n (fun Y Z y Y' u h=>?_) (fun z Y' u h=>?_)
   ·rw[jT e,s]at h;exact bd (.inl ⟨_,_,rfl⟩) h
   ·rw[jT J,R]at h;rw[jT e,jT e,s];simp only[zX,get]at h;have o:xA C.P Y' t (st.U a)=xA C.P st.Y t (st.U a):=by
     cases E:st.U a with
     |ref id i j=>
      obtain⟨id',i',j',blk,S,F,T,v⟩:=N (a,b) (by simpa using f) id i j E;rw[S]at h;split at h
      ·rename_i p q M W;simp only[zN]at M;subst M;obtain⟨h2,X,w⟩:=zV h;injection w with _ w
       injection w with w _;subst w;simp only[xA,Ex X T v F]
      ·cases h
     |_=>rfl
    simp only[zX,get,o];cases xA C.P st.Y t (st.U a)<;>rfl
  ·cases f
 ·refine cq n (fun Y Z y Y' u h=>?_) (fun z Y' u h=>?_)
  ·rw[jT e]at h;exact bd (M9 r) h
  ·rw[jT J]at h;rw[jT e,jT e];exact Ih r K (lu A B h).2
 ·unfold ixB at k;split at k
  ·rename_i t a i s;refine cq n (fun Y Z y Y' u h=>?_) (fun z Y' u h=>?_)
   ·rw[jT e,s]at h;exact bd (.inr ⟨_,_,_,rfl⟩) h
   ·rw[jT e,jT e,s];obtain⟨⟨G,_⟩,_⟩:=K a (by simpa using k);have:∀q,qJ C.P Y' t (st.U a) q=qJ C.P st.Y t (st.U a) q:=by exact fun q=>Jq G q
    simp only[zX,show get st.U (.tmp a)=some (st.U a)from rfl];cases get st.U i with
    |none=>rfl
    |some q=>simp only[this];cases qJ C.P st.Y t (st.U a) q<;>rfl
  ·cases k
theorem VC{P:Program}{t:TypeId}{f:Nat}{p:O}{id i j:Nat}(h:yY P t f p=some (.ref id i j)):∃a b,p=.ref id a b:=by
 unfold yY at h;split at h
 ·split at h
  ·split at h
   ·cases h
   ·injection h with h;cases h
  ·cases h
 ·split at h
  ·split at h
   ·cases h
   ·injection h with h;injection h with c _ _;subst c;exact⟨_,_,rfl⟩
  ·cases h
 ·cases h
theorem lv{P:Program}{t:TypeId}{f:Nat}{p:O}{id o n:Nat}(h:yY P t f p=some (.own id o n)):False:=by
 unfold yY at h;split at h
 ·split at h
  ·split at h
   ·cases h
   ·injection h with h;cases h
  ·cases h
 ·split at h
  ·split at h
   ·cases h
   ·injection h with h;cases h
  ·cases h
 ·cases h
theorem VD{P:Program}{Y:Hp}{t:TypeId}{p q:O}{id i j:Nat}(h:qJ P Y t p q=some (.ref id i j))(a:∀id o n,p≠.own id o n):∃b c,p=.ref id b c:=by
 unfold qJ at h;split at h
 ·split at h
  ·split at h
   ·split at h
    ·obtain⟨z,_,e⟩:=zV h;cases e
    ·cases h
   ·exact absurd rfl (a _ _ _)
   ·cases h
  ·unfold Zh at h;split at h
   ·split at h
    ·split at h
     ·split at h
      ·injection h with h;cases h
      ·injection h with h;injection h with d _ _;subst d;exact⟨_,_,rfl⟩
      ·cases h
     ·cases h
    ·cases h
   ·cases h
 ·cases h
theorem lx{P:Program}{Y:Hp}{t:TypeId}{p q:O}{id o n:Nat}(h:qJ P Y t p q=some (.own id o n)):False:=by
 unfold qJ at h;split at h
 ·split at h
  ·split at h
   ·split at h
    ·obtain⟨z,_,e⟩:=zV h;cases e
    ·cases h
   ·split at h
    ·split at h
     ·injection h with h;cases h
     ·cases h
    ·cases h
   ·cases h
  ·unfold Zh at h;split at h
   ·split at h
    ·split at h
     ·split at h
      ·injection h with h;cases h
      ·injection h with h;cases h
      ·cases h
     ·cases h
    ·cases h
   ·cases h
 ·cases h
theorem ly{x:O}(h:x.W6=true)(Y:Hp):wu Y x=some (x,Y):=by cases x<;>first|rfl|cases h
theorem lz:∀{cs:zb},cs.all O.W6=true->∀Y:Hp,qY Y cs=some (cs,Y)
 |[],_,_=>rfl
 |x::cs,h,Y=>by simp only[q9,zC]at h;simp only[qY,ly h.1,lz h.2]
theorem Na{x:O}(h:x.shut=true)(a:∀cs,x≠.agg cs):x.W6=true:=by cases x<;>first|exact absurd rfl (a _)|exact h
theorem Nb{x:O}(h:x.shut=true)(Y:Hp):qa Y x=some (x,Y):=by
 by_cases a:∀cs,x≠.agg cs
 ·have b:=ly (Na h a) Y;unfold qa;split
  ·exact absurd rfl (a _)
  ·exact b
 ·have:∃cs,x=.agg cs:=Classical.byContradiction fun c=>a fun cs e=>c ⟨cs,e⟩
  obtain⟨cs,rfl⟩:=this;simp only[qa,lz (cs:=cs) h]
theorem Ii{x:O}(h:x.YU=true)(a:∀cs,x≠.wq cs):x.shut=true:=by cases x<;>first|exact absurd rfl (a _)|exact h
theorem Ij{x y:O}(h:x.YU=true){Y Y1:Hp}(a:qa Y x=some (y,Y1)):Y1=Y:=by
 by_cases b:∀cs,x≠.wq cs
 ·rw[Nb (Ii h b)]at a;injection a with a
  injection a with _ a;exact a.symm
 ·exfalso;apply b;rintro cs rfl;cases a
theorem lA:∀{b a:List (Nat×O)} {Y Y1:Hp},(∀p∈b,p.2.YU=true)->zo Y b=some (a,Y1)->Y1=Y
 |[],a,Y,Y1,_,h=>by injection h with h;injection h with _ h;exact h.symm
 |(i,x)::l,a,Y,Y1,hs,h=>by
  simp only[zo]at h;split at h
  ·rename_i y Y2 c;split at h
   ·rename_i r d e;injection h with h;injection h with _ h;subst h
    rw[lA (fun p Y=>hs p (by simp[Y])) e,Ij (hs (i,x) (by simp)) c]
   ·cases h
  ·cases h
theorem te{x:O}(h:x.YU=true)(a:x.cells.all O.wH=true):x.cells.all O.W6=true:=by
 cases x with
 |agg cs=>exact h
 |wq cs=>simp[O.cells,O.wH]at a
 |_=>simpa[O.cells,O.YU,O.shut]using h
theorem A3{v:Value}{p:O}(h:dL v=some p):p.W6=true:=by unfold dL at h;split at h<;>first|(injection h with h;subst h;rfl)|cases h
theorem cr:∀{l:List Value} {a:zb},vD l=some a->a.all O.W6=true
 |[],a,h=>by injection h with h;subst h;rfl
 |x::l,a,h=>by
  simp only[vD]at h;split at h
  ·rename_i p r b c;injection h with h
   subst h;rw[q9,A3 b,cr c];rfl
  ·cases h
theorem lB{P:Program}{t:TypeId}{z:zb}(h:yT P t=some z):z.all O.W6=true:=by
 unfold yT at h;cases a:(P.info? t).bind (·.zero)with
 |none=>rw[a]at h;cases h
 |some q=>rw[a]at h;exact cr h
theorem aC:∀{xs cs:zb} {off:Nat},cs.all O.W6=true->xs.all O.W6=true->(y9 cs off xs).all O.W6=true
 |[],cs,off,h,_=>h
 |x::xs,cs,off,h,a=>by
  simp only[q9,zC]at a;simp only[y9];refine aC ?_ a.2;rw[zL]at h⊢;intro y b;rcases jW b with b|rfl
  ·exact h y b
  ·exact a.1
theorem bf{b:Nat->Option (Nat×Nat)}:∀{c:List (Nat×O)} {cs r:zb},cs.all O.W6=true->(∀p∈c,p.2.YU=true)->qn b cs c=some r->r.all O.W6=true
 |[],cs,r,h,_,a=>by injection a with a;subst a;exact h
 |(i,x)::l,cs,r,h,Y,a=>by
  simp only[qn]at a;split at a
  ·split at a
   ·rename_i d;exact bf (aC h (te (Y (i,x) (by simp)) d.2.2)) (fun p Y'=>Y p (by simp[Y'])) a
   ·cases a
  ·cases a
theorem A4{P:Program}{t:TypeId}{c:List (Nat×O)}{y:O}(Y:∀p∈c,p.2.YU=true)(h:zS P t c=some y):y.shut=true:=by
 unfold zS at h;split at h
 ·rename_i d z _ a;obtain⟨r,b,rfl⟩:=zV h;exact bf (lB a) Y b
 ·rename_i z _ a;split at h
  ·split at h
   ·obtain⟨r,b,rfl⟩:=zV h;exact bf (lB a) Y b
   ·cases h
  ·cases h
 ·cases h
theorem lC{b:Operand->Option O}:∀{l:List (Nat×Operand)} {a:List (Nat×O)},va b l=some a->∀p∈a,∃q∈l,b q.2=some p.2
 |[],a,h,p,Y=>by injection h with h;subst h;cases Y
 |(i,x)::l,a,h,p,Y=>by
  simp only[va]at h;split at h
  ·rename_i y r c d;injection h with h
   subst h;rcases zv.1 Y with rfl|Y
   ·exact⟨(i,x),by simp,c⟩
   ·obtain⟨q,f,e⟩:=lC d p Y;exact⟨q,by simp[f],e⟩
  ·cases h
theorem GQ{L:List Tmp}{st:St}(h:xy L st){z:Tmp}(a:L.contains (z+zB)=true):(st.U z).YU=true:=by have:=(h (z+zB) (by simpa using a)).2 (Nat.le_add_left _ _);simpa using this
theorem lD{L:List Tmp}{st:St}(h:xy L st){a:List (Nat×Operand)}(Y:(a.all fun p=>match p.2 with|.tmp z=>L.contains (z+zB)|_=>false)=true){c:List (Nat×O)}(hs:va (get st.U) a=some c):∀p∈c,p.2.YU=true:=by
 intro p b;obtain⟨q,d,e⟩:=lC hs p b;have:=zL.1 Y q d;split at this
 ·rename_i z f;rw[f]at e;simp only[get,zN]at e;rw[<-e];exact GQ h this
 ·cases this
theorem zbc{x:O}(h:x.shut=true):x.YU=true:=by cases x<;>first|rfl|exact h
def bg(Y:Hp)(Z:Nat):Prop:=∀id b,Y id=some b->id<Z
theorem VE{Y Y1:Hp}{x y:O}(h:wu Y x=some (y,Y1)){id:Nat}{b:kn}(a:Y1 id=some b):Y id=some b:=by
 unfold wu at h;split at h
 ·rename_i k off n;split at h
  ·rename_i d c;split at h
   ·injection h with h;injection h with _ h;subst h;by_cases e:id=k
    ·subst e;rw[wP]at a;cases a
    ·rwa [qL _ _ _ _ e]at a
   ·cases h
  ·cases h
 all_goals first
  |(injection h with h;injection h with _ h;subst h;exact a)
  |(split at h<;>first|(injection h with h;injection h with _ h;subst h;exact a)|cases h)
  |cases h
theorem Ve:∀{xs ys:zb} {Y Y1:Hp},qY Y xs=some (ys,Y1)->∀{id:Nat} {b:kn},Y1 id=some b->Y id=some b
 |[],ys,Y,Y1,h,id,b,a=>by simp only[qY]at h;injection h with h;injection h with _ h;subst h;exact a
 |x::l,ys,Y,Y1,h,id,b,a=>by
  simp only[qY]at h;split at h
  ·rename_i y Y2 c;split at h
   ·rename_i r d e;injection h with h;injection h with _ h;subst h
    exact VE c (Ve e a)
   ·cases h
  ·cases h
theorem aD{Y Y1:Hp}{x y:O}(h:qa Y x=some (y,Y1)){id:Nat}{b:kn}(a:Y1 id=some b):Y id=some b:=by
 unfold qa at h;split at h
 ·split at h
  ·rename_i l d c;injection h with h;injection h with _ h;subst h
   exact Ve c a
  ·cases h
 ·exact VE h a
theorem Vf:∀{d a:List (Nat×O)} {Y Y1:Hp},zo Y d=some (a,Y1)->∀{id:Nat} {b:kn},Y1 id=some b->Y id=some b
 |[],a,Y,Y1,h,id,b,c=>by simp only[zo]at h;injection h with h;injection h with _ h;subst h;exact c
 |(i,x)::l,a,Y,Y1,h,id,b,c=>by
  simp only[zo]at h;split at h
  ·rename_i y Y2 e;split at h
   ·rename_i r f g;injection h with h;injection h with _ h;subst h
    exact aD e (Vf g c)
   ·cases h
  ·cases h
theorem tf{Y:Hp}{Z:Nat}(h:∀id b,Y id=some b->id<Z)(x:kn):bg (qt Y Z (some x)) (Z+1):=by
 intro id b a;by_cases e:id=Z
 ·omega
 ·rw[qL _ _ _ _ e]at a;have:=h id b a;omega
theorem Ik{P:Program}{Y Y':Hp}{t:TypeId}{p x:O}(h:QQ P Y t p x=some Y'){Z:Nat}(f:bg Y Z):bg Y' Z:=by
 unfold QQ at h;split at h
 ·rename_i k i j;split at h
  ·rename_i g d;split at h
   ·rename_i y Y1 a;have l:∀id b,Y1 id=some b->Y id=some b:=fun id b c=>by
     split at a
     ·exact aD a c
     ·injection a with a;injection a with _ a;subst a;exact c
    split at h
    ·split at h
     ·split at h
      ·injection h with h;subst h;intro id b c;by_cases e:id=k
       ·subst e;exact f id g d
       ·rw[qL _ _ _ _ e]at c;exact f id b (l id b c)
      ·cases h
     ·cases h
    ·cases h
   ·cases h
  ·cases h
 ·cases h
theorem Ey{P:Program}{Y Y':Hp}{Z f:Nat}{t u:TypeId}{s x y:O}(h:yI P Y Z t u s x=some (y,Y',f))(e:bg Y Z):bg Y' f:=by
 unfold yI at h;split at h
 ·split at h
  ·split at h
   ·split at h
    ·split at h
     ·split at h
      ·injection h with h;injection h with _ h;injection h with a c;subst a;subst c;exact e
      ·injection h with h;injection h with _ h;injection h with a c;subst a;subst c;exact tf e _
     ·cases h
    ·split at h
     ·rename_i k _ _ b g;split at h
      ·injection h with h;injection h with _ h;injection h with a c;subst a;subst c;refine tf (fun id i d=>?_) _;unfold qt at d;split at d
       ·cases d
       ·exact e id i d
      ·cases h
     ·cases h
    ·cases h
   ·cases h
  ·cases h
 ·cases h
theorem Il{P:Program}{Y Y':Hp}{Z c:Nat}{t:TypeId}{len:Nat}{d:List (Nat×O)}{y:O}(h:zp P Y Z t len d=some (y,Y',c))(e:bg Y Z):bg Y' c:=by
 unfold zp at h;split at h
 ·split at h
  ·rename_i n j k Y1 _ _ a;split at h
   ·split at h
    ·injection h with h;injection h with _ h;injection h with f g;subst f;subst g;exact tf (fun id b i=>e id b (Vf a i)) _
    ·cases h
   ·cases h
  ·cases h
 ·cases h
theorem Im(f:∀g a,pf g=true->C.Γ g=some a->Wk a){op:Op}(c:topB pf op=true){U:Nat->O}{Y Y':Hp}{Z k:Nat}{y:O}(h:zX C (get U) Y Z op=some (y,Y',k))(e:bg Y Z):bg Y' k:=by
 simp only[topB,qF,qi]at c;rcases c with c|c
 ·obtain⟨rfl,rfl⟩:=M6 f c h;exact e
 ·split at c
  ·simp only[zX]at h;split at h
   ·obtain⟨m,i,d⟩:=zV h;injection d with _ d;injection d with d l;subst d;subst l;exact Ik i e
   ·cases h
  ·simp only[zX,xW]at h;split at h
   ·simp only[yv]at h;split at h
    ·exact Ey h e
    ·cases h
   ·cases h
  ·simp only[zX]at h;split at h
   ·exact Il h e
   ·cases h
  ·obtain⟨n,i,d⟩:=dS h;subst i;subst d;intro id b j;unfold qt at j;split at j
   ·omega
   ·have:=e id b j;omega
  ·cases c
theorem Io{P:Program}{Y Y':Hp}{t:TypeId}{p y:O}(hs:∀id b,Y id=some b->Y' id=some b)(h:xA P Y t p=some y):xA P Y' t p=some y:=by
 cases p with
 |ref id i j=>
  simp only[xA]at h⊢;cases a:Y id with
  |none=>rw[a]at h;cases h
  |some b=>rw[a]at h;rw[hs id b a];exact h
 |_=>exact h
theorem lE{P:Program}{Y Y':Hp}{t:TypeId}{p q y:O}(hs:∀id b,Y id=some b->Y' id=some b)(h:qJ P Y t p q=some y):qJ P Y' t p q=some y:=by
 by_cases a:∀id o n,p≠.own id o n
 ·rw[Jq (Y:=Y) a];exact h
 ·have:∃id o n,p=.own id o n:=by refine Classical.byContradiction fun g=>a fun id o n e=>g ⟨id,o,n,e⟩
  obtain⟨id,o,n,rfl⟩:=this;cases q with
  |v z=>
   cases z with
   |int k i=>
    simp only[qJ]at h⊢;cases d:ym P t with
    |none=>rw[d]at h;exact h
    |some e=>
     rw[d]at h;simp only at h⊢;cases f:qC P e with
     |none=>rw[f]at h;cases h
     |some m=>
      rw[f]at h;simp only at h⊢;cases c:Y id with
      |none=>rw[c]at h;cases h
      |some b=>rw[c]at h;rw[hs id b c];exact h
   |_=>cases h
  |_=>cases h
theorem Ip{op:Op}(d:cp op=true){U:Nat->O}{Y Y':Hp}{Z f:Nat}{y:O}{j:Hp}{n1:Nat}(hs:∀id b,Y id=some b->Y' id=some b)(h:zX C (get U) Y Z op=some (y,j,n1)):zX C (get U) Y' f op=some (y,Y',f):=by
 unfold cp at d;split at d
 ·rename_i t a;simp only[zX,get]at h⊢;obtain⟨z,e,c⟩:=zV h;injection c with c _
  subst c;rw[Io hs e];rfl
 ·rename_i t a i;simp only[zX,show get U (.tmp a)=some (U a)from rfl]at h⊢;cases g:get U i with
  |none=>rw[g]at h;cases h
  |some q=>
   rw[g]at h;obtain⟨z,e,c⟩:=zV h;injection c with c _
   subst c;simp only[lE hs e];rfl
 ·cases d
theorem Ez{op:Op}(h:cp op=true):(∃t a,op=.load t (.tmp a))\/∃t a i,op=.indexAddr t (.tmp a) i:=by
 unfold cp at h;split at h
 ·exact .inl ⟨_,_,rfl⟩
 ·exact .inr ⟨_,_,_,rfl⟩
 ·cases h
theorem Iq{L:List Tmp}{t:TypeId}{len:Nat}{a:Array (Nat×Operand)}{st:St}(i:xy L st)(c:XI L (.buildSlice t len a)=true){Y':Hp}{g:Nat}{z:O}(h:zX C (get st.U) st.Y st.Z (.buildSlice t len a)=some (z,Y',g)):∃b,Y'=qt st.Y st.Z b/\g=st.Z+1:=by
 simp only[XI]at c;simp only[zX]at h;split at h
 ·rename_i m e;have d:=lD i c e;unfold zp at h;split at h
  ·split at h
   ·rename_i n o p Y1 _ _ f;have j:=lA d f;subst j;split at h
    ·split at h
     ·injection h with h;injection h with _ h;injection h with k l;exact⟨_,k.symm,l.symm⟩
     ·cases h
    ·cases h
   ·cases h
  ·cases h
 ·cases h
theorem Nc(r:∀g m,pf g=true->C.Γ g=some m->Wk m){L:List Tmp}{n:Array Oper}{l c:Oper}(I:Sc pf L n l c=true){st s:St}(N:xy L st)(J:bg st.Y st.Z)(hs:(yJ C n l st).bind (yJ C n c)=some s):(yJ C n c st).bind (yJ C n l)=some s:=by
 simp only[Sc,zC,Option.isNone_iff_eq_none]at I;obtain⟨⟨⟨⟨⟨_,B⟩,x⟩,P⟩,d⟩,f⟩:=I;have D:xY pf l.op<=1:=by
  rcases Bool.or_eq_true_iff.1 d with d|d
  ·rcases Ez d with⟨t,a,e⟩|⟨t,a,i,e⟩<;>simp[e,xY]
  ·unfold dR at d;split at d
   ·rename_i g E ts j;simp[j,xY,d]
   ·cases d
 have F:st.Y st.Z=none:=by
  cases Q:st.Y st.Z with
  |none=>rfl
  |some b=>have:=J _ b Q;omega
 cases k:j9 C n l st.U st.Y st.Z with
 |none=>rw[yQ,k]at hs;cases hs
 |some q=>
  obtain⟨y,R,n1⟩:=q;rw[<-cq B (fun Y Z y Y' K h=>Yv r D h) (fun z Y' K h=>?_)]
  ·exact hs
  ·rw[jT P]at h;have u:∃b,Y'=qt st.Y st.Z b/\K=st.Z+1:=by
    rcases Bool.or_eq_true_iff.1 f with f|f
    ·have o:=f;unfold XI at f;split at f
     ·rename_i t len G j;rw[j]at h o;exact Iq N o h
     ·cases f
    ·unfold M8 at f;split at f
     ·rename_i t j;rw[j]at h;exact dS h
     ·cases f
   obtain⟨b,rfl,rfl⟩:=u;rcases Bool.or_eq_true_iff.1 d with d|d
   ·have v:∀id A,st.Y id=some A->qt st.Y st.Z b id=some A:=fun id A M=>by rw[qL _ _ _ _ (by have:=J id A M;omega)];exact M
    rw[jT x]at k⊢;rw[jT x,k,Ip d v k];rfl
   ·unfold dR at d;split at d
    ·rename_i g E ts j;rw[jT x,j]at k⊢;rw[jT x,j,k];have H:zX C (get st.U) (qt st.Y st.Z b) (st.Z+1) (.call ⟨.value (.func g),E,ts⟩)=some (y,qt st.Y st.Z b,st.Z+1):=by
      simp only[zX,xW]at k⊢;cases w:wU (E.toList.map (get st.U))with
      |none=>rw[w]at k;cases k
      |some xs=>
       rw[w]at k;simp only[get,jG]at k⊢;cases p:C.Γ g with
       |none=>rw[p]at k;cases k
       |some m=>rw[p]at k;exact(r g m d p _ _ _ _ _ _ k).2 b F
     rw[H];rfl
    ·cases d
def AskA(D:List (Tmp×Tmp))(L:List Tmp)(st:St):Prop:=(WH D st/\xy L st)/\(Ie L=true->bg st.Y st.Z)
theorem EA(X:∀g k,pf g=true->C.Γ g=some k->Wk k){bk:FuncId->Bool}(hbk:∀g k,bk g=true->C.Γ g=some k->Ql k){D:List (Tmp×Tmp)}{L:List Tmp}{I:Array Oper}(hpl:tc pf D L bk I=true){i:Nat}{o:Oper}{st J:St}(ho:I[i]?=some o)(G:WH D st/\zad L st)(hs:yJ C I o st=some J):WH D J/\zad L J:=by
  simp only[tc,qF,zC]at hpl;rcases hpl with⟨hD,hL⟩|hpl
  ·have hD:D=[]:=by simpa using hD
   have hL:L=[]:=by simpa using hL
   subst hD;subst hL;exact⟨(fun p Y=>(by cases Y)),(fun s hs=>(by cases hs))⟩
  have h0:=av.1 hpl o (gB ho);simp only[zC,qF,qi]at h0;obtain⟨⟨hd,hld⟩,hk⟩:=h0;rw[yQ]at hs;obtain⟨r,a,sS⟩:=zV hs;obtain⟨y,Y1,Q⟩:=r;subst sS;have A:(∀id blk,st.Y id=some blk->blk.arr=false->D.all (fun p=>L.contains p.2)=false\/id<st.Z->∃K,Y1 id=some K/\K.arr=false)/\st.Z<=Q:=by
   have h:∀{op:Op},o.op=op->lq bk op=true->D.all (fun p=>L.contains p.2)=true->(∀id blk,st.Y id=some blk->blk.arr=false->D.all (fun p=>L.contains p.2)=false\/id<st.Z->∃K,Y1 id=some K/\K.arr=false)/\st.Z<=Q:=by
    intro op c hf M;unfold j9 at a;split at a
    ·rw[c]at a;obtain⟨l,d⟩:=lu hbk hf a;refine⟨fun id blk w v h3=>?_,l⟩;rcases h3 with h3|h3
     ·rw[M]at h3;cases h3
     ·exact⟨blk,d id blk h3 w v,v⟩
    ·injection a with a;injection a with _ a;injection a with l d;subst l;subst d;exact⟨fun id blk w v _=>⟨blk,w,v⟩,ze _⟩
   rcases hk with hk|hk
   ·obtain⟨rfl,rfl⟩:=Yv X hk a;exact⟨fun id blk w v _=>⟨blk,w,v⟩,ze _⟩
   ·split at hk
    ·rename_i t q x c;unfold j9 at a;split at a
     ·rw[c]at a;simp only[zX]at a;split at a
      ·obtain⟨v,l,d⟩:=zV a;injection d with _ d;injection d with d B;subst d;subst B;exact⟨fun id blk w v _=>Ig l w v,ze _⟩
      ·cases a
     ·injection a with a;injection a with _ a;injection a with l d;subst l;subst d;exact⟨fun id blk w v _=>⟨blk,w,v⟩,ze _⟩
    ·rename_i g aZ ts c;simp only[zC]at hk;exact h c (by simpa[lq]using hk.2) hk.1
    ·rename_i aZ ts c;exact h c rfl hk
    ·rename_i t n ps c;exact h c rfl hk
    ·rename_i t c;exact h c rfl hk
    ·cases hk
  refine⟨fun p Y=>?_,fun s R=>?_⟩
  rotate_left
  ·have hl:=zL.1 hld s R;simp only[qF,zhz]at hl;have H:(∀id o' n,put st.U o.dst y s≠.own id o' n)/\∀id i' j',put st.U o.dst y s=.ref id i' j'->id<st.Z/\∃blk,st.Y id=some blk/\blk.arr=false:=by
    by_cases m:o.dst=some s
    ·have u:put st.U o.dst y s=y:=by rw[m];exact wP _ _ _
     rw[u];rcases hl with hl|hl
     ·exact absurd m hl
     ·split at hl
      ·rename_i t b f c;obtain⟨E,F⟩:=G.2 b (by simpa using hl);unfold j9 at a;split at a
       ·rw[c]at a;simp only[zX,get]at a;obtain⟨z,l,d⟩:=zV a;injection d with d _
        subst d;refine⟨fun id o' n e=>?_,fun id i' j' e=>?_⟩
        ·subst e;exact lv l
        ·subst e;obtain⟨i0,j0,B⟩:=VC l;exact F _ _ _ B
       ·injection a with a;injection a with a _;subst a;exact⟨(fun _ _ _ e=>by cases e),(fun _ _ _ e=>by cases e)⟩
      ·rename_i t b ix c;obtain⟨E,F⟩:=G.2 b (by simpa using hl);unfold j9 at a;split at a
       ·rw[c]at a;simp only[zX,get]at a;split at a
        ·rename_i p0 q0 S hq0;simp only[zN]at S;subst S;obtain⟨z,l,d⟩:=zV a;injection d with d _
         subst d;refine⟨fun id o' n e=>?_,fun id i' j' e=>?_⟩
         ·subst e;exact lx l
         ·subst e;obtain⟨i0,j0,B⟩:=VD l E;exact F _ _ _ B
        ·cases a
       ·injection a with a;injection a with a _;subst a;exact⟨(fun _ _ _ e=>by cases e),(fun _ _ _ e=>by cases e)⟩
      ·cases hl
    ·have u:put st.U o.dst y s=st.U s:=xt (fun e T=>by rintro rfl;exact m T);rw[u];exact G.2 s R
   refine⟨H.1,fun id i' j' e=>?_⟩;obtain⟨w,blk,v,h3⟩:=H.2 id i' j' e;exact⟨yb w A.2,A.1 id blk v h3 (.inr w)⟩
  ·have hd:=zL.1 hd p Y;simp only[zC,qF,zhz]at hd;obtain⟨hd2,hd1⟩:=hd;have hpb:put st.U o.dst y p.2=st.U p.2:=xt (fun e T=>by rintro rfl;exact hd2 T);have N:∀id i j,put st.U o.dst y p.1=.ref id i j->∃id' i' j' blk,st.U p.2=.ref id' i' j'/\id≠id'/\st.Y id'=some blk/\blk.arr=false:=by
    intro id i j e;by_cases m:o.dst=some p.1
    ·have u:put st.U o.dst y p.1=y:=by rw[m];exact wP _ _ _
     rw[u]at e;subst e;rcases hd1 with hd1|hd1
     ·exact absurd m hd1
     ·split at hd1
      ·rename_i t b f c;unfold j9 at a;split at a
       ·rw[c]at a;simp only[zX,get]at a;obtain⟨z,l,d⟩:=zV a;injection d with d _
        subst d;obtain⟨i0,j0,B⟩:=VC l;exact G.1 (b,p.2) (by simpa using hd1) _ _ _ B
       ·injection a with a;injection a with a _;cases a
      ·rename_i t b ix c;simp only[zC]at hd1;obtain⟨E,F⟩:=G.2 b (by simpa using hd1.2);unfold j9 at a;split at a
       ·rw[c]at a;simp only[zX,get]at a;split at a
        ·rename_i p0 q0 S hq0;simp only[zN]at S;subst S;obtain⟨z,l,d⟩:=zV a;injection d with d _
         subst d;obtain⟨i0,j0,B⟩:=VD l E;exact G.1 (b,p.2) (by simpa using hd1.1) _ _ _ B
        ·cases a
       ·injection a with a;injection a with a _;cases a
      ·cases hd1
    ·have u:put st.U o.dst y p.1=st.U p.1:=xt (fun e T=>by rintro rfl;exact m T);rw[u]at e;exact G.1 p Y id i j e
   intro id i j e;obtain⟨id',i',j',blk,eb,hne,hbl,W⟩:=N id i j e;have P:D.all (fun p=>L.contains p.2)=false\/id'<st.Z:=by
    cases M:D.all (fun p=>L.contains p.2)
    ·exact .inl rfl
    ·refine .inr ?_;have:=zL.1 M p Y;exact((G.2 p.2 (by simpa using this)).2 id' i' j' eb).1
   obtain⟨K,hb1,hb2⟩:=A.1 id' blk hbl W P;exact⟨id',i',j',K,by show put st.U o.dst y p.2=_;rw[hpb];exact eb,hne,hb1,hb2⟩
theorem zbd(v:∀g f,pf g=true->C.Γ g=some f->Wk f){L:List Tmp}{h:Array Oper}(F:Ew pf L h=true)(I:Ie L=true){i:Nat}{o:Oper}{st d:St}(J:h[i]?=some o)(w:xy L st)(G:bg st.Y st.Z)(hs:yJ C h o st=some d) :
  (∀s∈L,zB<=s->(d.U (s-zB)).YU=true)/\bg d.Y d.Z:=by
 simp only[Ew,I,Bool.not_true,kK]at F;have H:=av.1 F o (gB J);simp only[zC]at H;obtain⟨l,m⟩:=H;rw[yQ]at hs;obtain⟨r,a,x⟩:=zV hs;obtain⟨y,Y1,A⟩:=r;subst x;refine⟨fun s n p=>?_,?_⟩
 ·have c:=zL.1 m s n;simp only[qF,qi,zhz,zC,Option.isNone_iff_eq_none]at c;by_cases hd:o.dst=some (s-zB)
  ·have j:put st.U o.dst y (s-zB)=y:=by rw[hd];exact wP _ _ _
   show(put st.U o.dst y (s-zB)).YU=true;rw[j];rcases c with(c|c)|⟨K,c⟩
   ·exact absurd c (zhA.2 p)
   ·exact absurd hd c
   ·rw[jT K]at a;split at c
    ·rename_i b k;rw[k]at a;simp only[zX,get,zA]at a;injection a with a
     injection a with a _;rw[<-a];exact GQ w c
    ·rename_i t B k;rw[k]at a;simp only[zX]at a;split at a
     ·rename_i N q;obtain⟨z,D,u⟩:=zV a;injection u with u _
      subst u;exact zbc (A4 (lD w c q) D)
     ·cases a
    ·cases c
  ·have j:put st.U o.dst y (s-zB)=st.U (s-zB):=xt (fun e M E=>hd (by rw[M,E]));show(put st.U o.dst y (s-zB)).YU=true;rw[j];exact(w s n).2 p
 ·show bg Y1 A;unfold j9 at a;split at a
  ·exact Im v l a G
  ·injection a with a;injection a with _ a;injection a with D u;subst D;subst u;exact G
theorem Nd(k:∀g d,pf g=true->C.Γ g=some d->Wk d){r:FuncId->Bool}(m:∀g d,r g=true->C.Γ g=some d->Ql d){D:List (Tmp×Tmp)}{L:List Tmp}{n:Array Oper}(l:td pf D L r n=true):AH C n (GP pf D L r n) (AskA D L):=by
 simp only[td,zC]at l;obtain⟨B,l⟩:=l;refine⟨fun i o st t w f hs=>?_,fun i j a b st t H I c f hs=>?_⟩
 ·obtain⟨x,y⟩:=EA k m l w ⟨f.1.1,fun s hs=>(f.1.2 s hs).1⟩ hs;cases q:Ie L
  ·refine⟨⟨x,fun s h=>⟨y s h,fun E=>?_⟩⟩,fun e=>by rw[q]at e;cases e⟩;have:=List.any_eq_false.1 q s h;simp at this;omega
  ·obtain⟨F,G⟩:=zbd k B q w f.1.2 (f.2 q) hs;exact⟨⟨x,fun s h=>⟨y s h,F s h⟩⟩,fun _=>G⟩
 ·simp only[GP,qF]at c;rcases c with(c|c)|c
  ·rw[<-Ic k c st];exact hs
  ·simp only[zaf,zC,qF,Option.isNone_iff_eq_none]at c;obtain⟨⟨⟨⟨u,p⟩,z⟩,A⟩,hm⟩:=c;rcases hm with hm|hm
   ·rw[<-rl m hm z A u f.1.1 f.1.2];exact hs
   ·rw[rl m hm A z p f.1.1 f.1.2];exact hs
  ·have v:Ie L=true:=by simp only[Sc,zC]at c;exact c.1.1.1.1.1
   exact Nc k c f.1.2 (f.2 v) hs
end
def Zw(C:Ctx)(code:Code)(st:St)(K:Exit->St->Prop):Prop:=∃e a,qW C code st=some (e,a)/\K e a
def iy(C:Ctx)(b:Array Oper)(l:List Oper)(st:St)(K:St->Prop):Prop:=∃a,xj C b l st=some a/\K a
def Y9{α:Type}(o:Option α)(K:α->Prop):Prop:=∃x,o=some x/\K x
theorem A5{α:Type}{o o':Option α}(K:α->Prop)(h:o=o'):Y9 o K=Y9 o' K:=by rw[h]
theorem EB{α:Type}(x:α)(K:α->Prop):Y9 (some x) K=K x:=by simp[Y9]
def fy(C:Ctx)(o:Option O)(x y:Code)(st:St)(K:Exit->St->Prop):Prop:=(o=some (.v (.bool true))/\Zw C x st K)\/(o=some (.v (.bool false))/\Zw C y st K)
theorem A6{C:Ctx}{o o':Option O}{x y:Code}{st:St}{K:Exit->St->Prop}(h:o=o'):fy C o x y st K=fy C o' x y st K:=by rw[h]
theorem EC(C:Ctx)(x y:Code)(st:St)(K:Exit->St->Prop):fy C (some (.v (.bool true))) x y st K=Zw C x st K:=by simp[fy]
theorem A7(C:Ctx)(x y:Code)(st:St)(K:Exit->St->Prop):fy C (some (.v (.bool false))) x y st K=Zw C y st K:=by simp[fy]
def lF(C:Ctx)(b:Code)(K:Exit->St->Prop)(e:Exit)(st:St):Prop:=match e with
 | .normal=>Zw C b st K
 |e=>K e st
def WJ(id:Nat)(K:Exit->St->Prop)(e:Exit)(st:St):Prop:=match e with
 | .exit i=>if i=id then K .normal st else K (.exit i) st
 |e=>K e st
def Z1(K:Exit->St->Prop)(st:St):Prop:=K .normal st
theorem th(C:Ctx)(b:Code)(K:Exit->St->Prop)(st:St):lF C b K .normal st=Zw C b st K:=rfl
theorem Ir(C:Ctx)(b:Code)(K:Exit->St->Prop)(st:St):lF C b K .ret st=K .ret st:=rfl
theorem ED(C:Ctx)(b:Code)(K:Exit->St->Prop)(i:Nat)(st:St):lF C b K (.exit i) st=K (.exit i) st:=rfl
theorem aG(id:Nat)(K:Exit->St->Prop)(st:St):WJ id K .normal st=K .normal st:=rfl
theorem EE(id:Nat)(K:Exit->St->Prop)(st:St):WJ id K .ret st=K .ret st:=rfl
theorem dT(id:Nat)(K:Exit->St->Prop)(st:St):WJ id K (.exit id) st=K .normal st:=by simp[WJ]
theorem XJ{C:Ctx}{code:Code}{st:St}{b:Exit}{a:St}(K:Exit->St->Prop)(h:qW C code st=some (b,a)):Zw C code st K=K b a:=by
 unfold Zw;apply propext;constructor
 ·rintro⟨e,c,f,d⟩;rw[h]at f;obtain⟨rfl,rfl⟩:b=e/\a=c:=by simpa using f
  exact d
 ·exact fun d=>⟨_,_,h,d⟩
theorem ct(C:Ctx)(st:St)(K:Exit->St->Prop):Zw C .skip st K=K .normal st:=XJ K (by simp only[qW])
theorem A8(C:Ctx)(id:Nat)(st:St)(K:Exit->St->Prop):Zw C (.exit id) st K=K (.exit id) st:=XJ K (by simp only[qW])
theorem Sd(C:Ctx)(st:St)(K:Exit->St->Prop):Zw C .ret st K=K .ret st:=XJ K (by simp only[qW])
theorem Is(C:Ctx)(l:Nat)(st:St)(K:Exit->St->Prop):Zw C (.label l) st K=K .normal st:=XJ K (by simp only[qW])
theorem A9(C:Ctx)(i:Nat)(a:Array Oper)(d:Bool)(c st:St)(K:Exit->St->Prop)(g:AF (C.fz i) c=some st)(h:WH (C.dyn i) st)(j:xy (C.ML i) st):Zw C (.region i a d) c K=iy C a a.toList st (Z1 K):=by
 unfold Zw iy Z1;simp only[qW,g,h,j,and_self,qI];apply propext;constructor
 ·rintro⟨e,b,h,f⟩;split at h
  ·rename_i s hs;obtain⟨rfl,rfl⟩:Exit.normal=e/\s=b:=by simpa using h
   exact⟨_,hs,f⟩
  ·cases h
 ·rintro⟨b,h,f⟩;exact⟨.normal,b,by rw[h],f⟩
theorem Wl(C:Ctx)(i:Nat)(a:Array Oper)(d:Bool)(st:St)(K:Exit->St->Prop)(h:WH (C.dyn i) st)(b:xy (C.ML i) st)(c:C.fz i=[]:=by rfl):Zw C (.region i a d) st K=iy C a a.toList st (Z1 K):=
 A9 C i a d st st K (by rw[c];rfl) h b
theorem Yw(C:Ctx)(i:Nat)(a:Array Oper)(d:Bool)(st:St)(K:Exit->St->Prop)(h:C.dyn i=[])(b:C.ML i=[])(c:C.fz i=[]:=by rfl):Zw C (.region i a d) st K=iy C a a.toList st (Z1 K):=Wl C i a d st K (by rw[h];intro p Y;cases Y) (by rw[b];intro p Y;cases Y) c
theorem ti(C:Ctx)(a b:Code)(st:St)(K:Exit->St->Prop):Zw C (.seq a b) st K=Zw C a st (lF C b K):=by
 unfold Zw;simp only[qW];apply propext;constructor
 ·rintro⟨e,c,h,d⟩;split at h
  ·rename_i s hs;exact⟨.normal,s,hs,e,c,h,d⟩
  ·rename_i r k;refine⟨e,c,h,?_⟩;cases e<;>simp_all[lF]
 ·rintro⟨e,c,h,d⟩;cases e
  case normal=>obtain⟨i,f,j,g⟩:=d;exact⟨i,f,by rw[h];exact j,g⟩
  all_goals exact⟨_,c,by rw[h],d⟩
theorem Nf(C:Ctx)(c:Operand)(x y:Code)(st:St)(K:Exit->St->Prop):Zw C (.cond c x y) st K=fy C (get st.U c) x y st K:=by
 unfold Zw fy;simp only[qW];apply propext;constructor
 ·rintro⟨e,a,h,d⟩;split at h
  ·rename_i b;exact .inl ⟨b,e,a,h,d⟩
  ·rename_i b;exact .inr ⟨b,e,a,h,d⟩
  ·cases h
 ·rintro (⟨b,e,a,h,d⟩|⟨b,e,a,h,d⟩)
  ·exact⟨e,a,by rw[b];exact h,d⟩
  ·exact⟨e,a,by rw[b];exact h,d⟩
theorem It(C:Ctx)(id:Nat)(b:Code)(st:St)(K:Exit->St->Prop):Zw C (.block id b) st K=Zw C b st (WJ id K):=by
 unfold Zw;simp only[qW];apply propext;constructor
 ·rintro⟨e,a,h,c⟩;split at h
  ·rename_i i s hs;refine⟨.exit i,s,hs,?_⟩;unfold WJ;split at h
   ·rename_i hi;obtain⟨rfl,rfl⟩:Exit.normal=e/\s=a:=by simpa using h
    simp[hi,c]
   ·rename_i hi;obtain⟨rfl,rfl⟩:Exit.exit i=e/\s=a:=by simpa using h
    simp[hi,c]
  ·rename_i r d;refine⟨e,a,h,?_⟩;cases e<;>simp_all[WJ]
 ·rintro⟨e,a,h,c⟩;cases e
  case exit i=>
   unfold WJ at c;simp only[h];by_cases hi:i=id
   ·simp only[hi,qI]at c⊢;exact⟨_,_,rfl,c⟩
   ·simp only[hi,wx]at c⊢;exact⟨_,_,rfl,c⟩
  all_goals exact⟨_,a,by rw[h],c⟩
def asgK(C:Ctx)(b:Code)(K:Exit->St->Prop)(e:Exit)(st:St):Prop:=match e with
 | .normal=>Zw C b st K
 |_=>False
def rngK(I:Nat->Hp->Nat->Prop)(k:Nat)(U:Nat->O)(K:Exit->St->Prop)(e:Exit)(st:St):Prop:=match e with
 | .normal=>I (k+1) st.Y st.Z
 | .ret=>K .ret ⟨U,st.Y,st.Z⟩
 | .exit i=>K (.exit i) ⟨U,st.Y,st.Z⟩
 |_=>False
theorem Iu{C:Ctx}{f:Operand}{s:Array Tmp}{a b:Code}{st:St}{K:Exit->St->Prop}{p:Tmp}{g:FuncId}{cap:zb}{it:Qj}{xs:zb}{Y1:Hp}
  (o:s.toList=[p]) (v:get st.U f=some (.fn (.func g) [] cap)) (hit:C.it g=some it) (w:it cap st.Y=some (xs,Y1)) (I:Nat->Hp->Nat->Prop) (x:I 0 Y1 st.Z)
  (h:∀k Y Z (t:k<xs.length),I k Y Z->Zw C a ⟨qt st.U p xs[k],Y,Z⟩ (asgK C b (rngK I k st.U K))) (i:∀Y Z,I xs.length Y Z->K .normal ⟨st.U,Y,Z⟩):Zw C (.rangeFunc f s a b) st K:=by
 have q:∀d k Y Z,xs.length-k=d->k<=xs.length->I k Y Z->∃e Y2 c,Kh (qW C a) (qW C b) st.U p (xs.drop k) Y Z=some (e,Y2,c)/\K e ⟨st.U,Y2,c⟩:=by
  intro d
  induction d with
  |zero=>
   intro k Y Z hd t r;obtain rfl:k=xs.length:=by omega
   exact⟨.normal,Y,Z,by rw[zq];rfl,i Y Z r⟩
  |succ d y=>
   intro k Y Z hd t r;have j:k<xs.length:=by omega
   obtain⟨z,D,l,m⟩:=h k Y Z j r;rw[zh j];simp only[Kh,l];cases z<;>try exact m.elim
   obtain⟨A,u,B,n⟩:=m;simp only[B];cases A<;>try exact n.elim
   ·exact y (k+1) u.Y u.Z (by omega) (by omega) n
   ·exact⟨_,_,_,rfl,n⟩
   ·exact⟨_,_,_,rfl,n⟩
 obtain⟨e,Y2,c,l,m⟩:=q _ 0 Y1 st.Z rfl (xq _) x;rw[kc]at l;exact⟨e,⟨st.U,Y2,c⟩,by simp only[qW,o,v,hit,w,l],m⟩
theorem Se(C:Ctx)(a:Array Oper)(st:St)(K:St->Prop):iy C a [] st K=K st:=by simp[iy,xj]
def Ng(C:Ctx)(a:Array Oper)(l:List Oper)(K:St->Prop)(st:St):Prop:=iy C a l st K
theorem Nh(C:Ctx)(a:Array Oper)(l:List Oper)(K:St->Prop)(st:St):Ng C a l K st=iy C a l st K:=rfl
theorem Ni(C:Ctx)(a:Array Oper)(o:Oper)(l:List Oper)(st:St)(K:St->Prop):iy C a (o::l) st K=Y9 (yJ C a o st) (Ng C a l K):=by
 unfold iy Y9 Ng iy;simp only[xj];apply propext;constructor
 ·rintro⟨b,h,c⟩;split at h
  ·rename_i s hs;exact⟨s,hs,b,h,c⟩
  ·cases h
 ·rintro⟨s,hs,b,h,c⟩;exact⟨b,by rw[hs];exact h,c⟩
theorem zJ(C:Ctx)(b:Code)(st:St)(K:Exit->St->Prop):Zw C (.loop b) st K=Zw C b st (lF C (.loop b) K):=by
 unfold Zw;simp only[qW];rw[sW];apply propext;constructor
 ·rintro⟨e,a,h,c⟩;split at h
  ·rename_i s hs;exact⟨.normal,s,hs,e,a,by simpa only[qW]using h,c⟩
  ·rename_i r j;refine⟨e,a,h,?_⟩;cases e<;>simp_all[lF]
 ·rintro⟨e,a,h,c⟩;cases e
  case normal=>obtain⟨g,d,i,f⟩:=c;exact⟨g,d,by rw[h];simpa only[qW]using i,f⟩
  all_goals exact⟨_,a,by rw[h],c⟩
def tj(I:St->Prop)(a:St->Nat)(n:Nat)(K:Exit->St->Prop)(e:Exit)(st:St):Prop:=match e with
 | .normal=>I st/\a st<n
 |e=>K e st
theorem oP(I:St->Prop)(a:St->Nat)(n:Nat)(K:Exit->St->Prop)(st:St):tj I a n K .normal st=(I st/\a st<n):=rfl
theorem EF(I:St->Prop)(a:St->Nat)(n:Nat)(K:Exit->St->Prop)(st:St):tj I a n K .ret st=K .ret st:=rfl
theorem Ba(I:St->Prop)(a:St->Nat)(n i:Nat)(K:Exit->St->Prop)(st:St):tj I a n K (.exit i) st=K (.exit i) st:=rfl
theorem Zw.mono{C:Ctx}{code:Code}{st:St}{K b:Exit->St->Prop}(h:Zw C code st K)(c:∀e st,K e st->b e st):Zw C code st b:=
 let⟨e,a,d,f⟩:=h
 ⟨e,a,d,c _ _ f⟩
theorem Wm{C:Ctx}{b:Code}{st:St}{K:Exit->St->Prop}(I:St->Prop)(d:St->Nat)(h:I st)(a:∀st,I st->Zw C b st (tj I d (d st) K)):Zw C (.loop b) st K:=by
 have f:∀n st,d st=n->I st->Zw C (.loop b) st K:=by
  intro n
  induction n using Nat.strongRecOn with
  |_ n i=>
   intro st j k;rw[zJ];refine(a st k).mono fun e c g=>?_
   cases e
   case normal=>exact i (d c) (j ▸ g.2) c rfl g.1
   all_goals exact g
 exact f _ st rfl h
def Yx(P:Program)(fn:Func)(R:O->Hp->Nat->Prop)(e:Exit)(st:St):Prop:=match e with
 | .normal|.ret=>Y9 (xX P fn st) (fun x=>R x st.Y st.Z)
 |_=>False
theorem Bb(P:Program)(fn:Func)(R:O->Hp->Nat->Prop)(st:St):Yx P fn R .normal st=Y9 (xX P fn st) (fun x=>R x st.Y st.Z):=rfl
theorem Nj(P:Program)(fn:Func)(R:O->Hp->Nat->Prop)(st:St):Yx P fn R .ret st=Y9 (xX P fn st) (fun x=>R x st.Y st.Z):=rfl
theorem qz{C:Ctx}{fn:Func}{code:Code}{args:zb}{Y:Hp}{Z:Nat}{R:O->Hp->Nat->Prop}(f:fn.body=some code)
  (h:Zw C code ⟨jL args,Y,Z⟩ (Yx C.P fn R)):∃x Y' d,je C fn args Y Z=some (x,Y',d)/\R x Y' d:=by
 obtain⟨e,st,g,a⟩:=h;unfold je;simp only[f,g];unfold Yx at a;split at a
 ·obtain⟨x,b,c⟩:=a;exact⟨x,st.Y,st.Z,by simp[b],c⟩
 ·obtain⟨x,b,c⟩:=a;exact⟨x,st.Y,st.Z,by simp[b],c⟩
 ·exact a.elim
def wc(r:O)(x:O)(Y:Hp)(_:Nat):Prop:=(freeze Y x).map (·.1)=some r
theorem zn{C:Ctx}{fn:Func}{code:Code}{args:zb}{r:O}(a:fn.body=some code)
  (h:Zw C code ⟨jL args,fun _=>none,0⟩ (Yx C.P fn (wc r))):zt C fn args=some r:=by
 obtain⟨x,Y',d,b,c⟩:=qz a h;unfold zt;simp only[b];exact c
theorem vT(d:Option Tmp)(op:Op)(t:TypeId)(p:String)(a:Array Edge)(y:Nat->Option Bool):Region.wanted ⟨d,op,t,p,a,none⟩ y=true:=rfl
theorem jg(C:Ctx)(a:Array Oper)(d:Option Tmp)(op:Op)(t:TypeId)(p:String)(b:Array Edge)(st:St):yJ C a ⟨d,op,t,p,b,none⟩ st =
  (zX C (get st.U) st.Y st.Z op).map fun r=>⟨put st.U d r.1,r.2.1,r.2.2⟩:=by
 simp only[yJ,vT,qI];cases zX C (get st.U) st.Y st.Z op<;>rfl
variable{dr:Prop}
section
variable{C:Ctx}{pf:FuncId->Bool}
def Qm(a:Array Bool)(k:Nat):Prop:=a.getD k false=true
theorem fA{i n:Nat}(h:i<n):List.range n=List.range i++i::List.range' (i+1) (n-i-1):=by
 have a:List.range n=List.range' 0 i++List.range' i (n-i):=by rw[zfC,show List.range' 0 n=List.range' 0 (i+(n-i))from by rw[show i+(n-i)=n from by omega],<-List.range'_append_1];simp
 rw[a,zfC];congr 1;rw[show n-i=(n-i-1)+1 from by omega,List.range'_succ];simp
theorem Nk{a:Array Oper}{cm:Oper->Oper->Bool}{A:St->Prop}(D:AH C a cm A)(E:lp cm a=true):∀(fuel t:Nat) (listed:Array Bool) (st:St),A st->listed.size=a.size->bb a (Qm listed) ->
  ((List.range a.size).filter fun i=>!listed.getD i true).length<=fuel ->
  ∀r:St,ke C a ((List.range a.size).filter fun i=>!listed.getD i true) st=some r->ke C a (Region.linearise.go .any a fuel t listed []) st=some r:=by
 intro fuel
 induction fuel with
 |zero=>intro t listed st _ _ _ Q r c;rw[xp (Nat.le_zero.1 Q)]at c;exact c
 |succ fuel ih=>
  intro t listed st R S F Q r c;simp only[Region.linearise.go];change ke C a (match(Region.ready .any a listed)[t % (Region.ready .any a listed).length]? with
   |some i=>Region.linearise.go .any a fuel (t/(Region.ready .any a listed).length) (listed.setIfInBounds i true) [i]
   |none=>[].reverse) st=some r
  have q:∀k,k<a.size->listed.getD k true=listed.getD k false:=fun k hk=>by
   have:k<listed.size:=by omega
   simp[this]
  have d:∀i,i∈Region.ready .any a listed↔i<a.size/\listed.getD i true=false/\∃o,a[i]?=some o/\ri (Qm listed) o:=by
   intro i;unfold Region.ready;simp only[za4,yg,zC,yF];constructor
   ·rintro⟨G,T,h3⟩;refine⟨G,T,a[i],by simp[G],fun e s u=>?_⟩;simp only[G,vB,zA,il]at h3;have:=av.1 h3 e (by simpa using s);simpa[u,Qm]using this
   ·rintro⟨G,T,o,m,Y⟩;refine⟨G,T,?_⟩;simp only[m,zA,il];refine av.2 fun e s=>?_
    cases u:Region.binds .any e with
    |false=>rfl
    |true=>simpa[Qm]using Y e (by simpa using s) u
  cases hi:(Region.ready .any a listed)[t % (Region.ready .any a listed).length]? with
  |none=>
   have H:Region.ready .any a listed=[]:=by
    cases c:Region.ready .any a listed with
    |nil=>rfl
    |cons x xs=>rw[c]at hi;have w:t % (x::xs).length<(x::xs).length:=Nat.mod_lt _ (by simp);simp at hi;simp at w;omega
   have I:∀n k,k<n->k<a.size->listed.getD k true=true:=by
    intro n
    induction n with
    |zero=>intro k hk;omega
    |succ n J=>
     intro k hk g;by_cases W:k<n
     ·exact J k W g
     ·have X:k=n:=by omega
      subst X;cases u:listed.getD k true with
      |true=>rfl
      |false=>
       have m:a[k]?=some a[k]:=by simp[g]
       have v:k∈Region.ready .any a listed:=(d k).2 ⟨g,u,a[k],m,fun e s hbe=>by have w:=(fx E k _ m).1 e s hbe;have:=J e.on w (by omega);rw[q e.on (by omega)]at this;exact this⟩
       rw[H]at v;cases v
   have:((List.range a.size).filter fun i=>!listed.getD i true)=[]:=by rw[List.filter_eq_nil_iff];intro k hk;have g:=yg.1 hk;rw[I (k+1) k (by omega) g];simp
   rw[this]at c;exact c
  |some i=>
   simp only[];obtain⟨K,hul,o,m,Y⟩:=(d i).1 (zz hi);rw[linearise_go_acc,List.reverse_singleton,List.singleton_append];have y:∀k,(listed.setIfInBounds i true).getD k true=if k=i then true else listed.getD k true:=by
    intro k;by_cases hk:k=i
    ·subst hk;have:k<listed.size:=by omega
     simp[this]
    ·rw[zc hk];simp[yL (fun h=>hk h.symm)]
   have hlf:∀k,Qm (listed.setIfInBounds i true) k↔k=i\/Qm listed k:=by
    intro k;unfold Qm;by_cases hk:k=i
    ·subst hk;have:k<listed.size:=by omega
     simp[this]
    ·simp[yL (fun h=>hk h.symm),hk]
   have f:((List.range a.size).filter fun k=>!listed.getD k true)=((List.range i).filter fun k=>!listed.getD k true)++i::((List.range' (i+1) (a.size-i-1)).filter fun k=>!listed.getD k true):=by rw[fA K,List.filter_append,List.filter_cons_of_pos (by rw[hul];rfl)]
   have b:((List.range a.size).filter fun k=>!(listed.setIfInBounds i true).getD k true)=((List.range i).filter fun k=>!listed.getD k true)++((List.range' (i+1) (a.size-i-1)).filter fun k=>!listed.getD k true):=by
    rw[fA K,List.filter_append,List.filter_cons_of_neg (by rw[y];simp)];congr 1
    ·exact List.filter_congr fun k hk=>by have:=yg.1 hk;rw[y,zc (by omega)]
    ·exact List.filter_congr fun k hk=>by have:=(List.mem_range'_1.1 hk).1;rw[y,zc (by omega)]
   have L:bb a (Qm (listed.setIfInBounds i true)):=by
    intro k o' hk l e s u;rw[hlf]at hk⊢;rcases hk with rfl|hk
    ·rw[m]at l;injection l with l
     subst l;exact .inr (Y e s u)
    ·exact .inr (F k o' hk l e s u)
   have p:((List.range a.size).filter fun k=>!(listed.setIfInBounds i true).getD k true).length<=fuel:=by rw[b];rw[f]at Q;simp only[qD,z7]at Q⊢;omega
   have M:=fun st R=>ih (t/(Region.ready .any a listed).length) (listed.setIfInBounds i true) st R (by simpa using S) L p
   rw[f]at c;have c:=aB D m _ _ _ r R (fun j hj=>by
    obtain⟨z,N⟩:=za4.1 hj;have z:=yg.1 z;rcases(fx E i o m).2 j z with h|h
    ·have:=h (Qm listed) F Y;unfold Qm at this;rw[<-q j (by omega)]at this;rw[this]at N;cases N
    ·exact h) c
   simp only[ke,m]at c⊢;cases B:yJ C a o st with
   |none=>rw[B]at c;cases c
   |some P=>rw[B]at c;simp only[z8]at c⊢;exact M P (D.keep i o st P m R B) r (by rw[b];exact c)
theorem tk(a:Array Oper)(st:St):∀(l:List Oper) (i:Nat),(∀k,l[k]?=a[i+k]?)->i+l.length=a.size->ke C a (List.range' i l.length) st=xj C a l st:=by
 intro l
 induction l generalizing st with
 |nil=>intro i _ _;rfl
 |cons o l d=>
  intro i c e;have f:a[i]?=some o:=by have:=c 0;simpa using this.symm
  simp only[z7,List.range'_succ,ke,f,xj];cases hs:yJ C a o st with
  |none=>rfl
  |some b=>simp only[z8];exact d b (i+1) (fun k=>by have:=c (k+1);simpa[iR,AB 1 k]using this) (by simp at e;omega)
theorem aH(a:Array Oper)(st:St):ke C a (List.range a.size) st=xj C a a.toList st:=by have:=tk (C:=C) a st a.toList 0 (by simp) (by simp);rw[zfC];simpa using this
theorem Sf{a:Array Oper}{e:Oper->Oper->Bool}{A:St->Prop}(c:AH C a e A)(d:lp e a=true)(t:Nat)(st r:St)(f:A st)(g:xj C a a.toList st=some r):ke C a (Region.linearise .any a t) st=some r:=by
 unfold Region.linearise;refine Nk c d a.size t _ st f (by simp) (fun k o b=>by unfold Qm at b;rw[wV,QK]at b;split at b<;>simp at b) (zE (zcB _ _) (by simp)) r ?_
 have:((List.range a.size).filter fun i=>!(Array.replicate a.size false).getD i true)=List.range a.size:=by rw[List.filter_eq_self];intro i hi;have hi:=yg.1 hi;simp[hi]
 rw[this,aH];exact g
end
section
variable{C:Ctx}{pf:FuncId->Bool}{w0:World}{S0 L:Nat->Prop}{N Z0:Nat}{G0:Nat->GI}{n0:Nat}
theorem Qn{w:World}{S:Nat->Prop}{G:Nat->GI}{Z:Nat}{f:Array Oper}{U:Nat->O}{a:Act}(hs:∀t,qb w S G Z (U t) (a.tmps.getD t undef)):yielded f a.tmps=QS f U:=by
 funext j;unfold yielded QS;cases hd:(f[j]?).bind (·.dst)with
 |none=>rfl
 |some d=>
  simp only[z8];have k:=hs d;have m:∀b:Bool,a.tmps.getD d undef=.bool b->a.tmps[d]?=some (.bool b):=by
   intro b l;by_cases g:d<a.tmps.size
   ·simp[g]at l⊢;exact l
   ·simp[g]at l;simp[undef]at l
  cases i:U d with
  |v x=>
   rw[i]at k;obtain⟨e,o⟩:=k.wY;cases x with
   |bool b=>simp only[m b e]
   |_=>
    cases n:a.tmps[d]? with
    |none=>rfl
    |some y=>
     have:a.tmps.getD d undef=y:=by simp[n]
     rw[this]at e;subst e;rfl
  |_=>
   cases n:a.tmps[d]? with
   |none=>rfl
   |some y=>
    have:a.tmps.getD d undef=y:=by simp[n]
    rw[i,this]at k;cases y with
    |bool b=>cases k with
     |c h=>cases h
    |_=>rfl
def D0(F:Fence):Prop:=F=Fence.wide\/∃l,F=Fence.wide.inRound l
theorem D0.fn{F:Fence}(h:D0 F)(f:FuncId):F.fn f:=by rcases h with rfl|⟨l,rfl⟩<;>trivial
theorem D0.deep{F:Fence}(h:D0 F):F.depth=none:=by rcases h with rfl|⟨l,rfl⟩<;>rfl
theorem D0.calls{F:Fence}(h:D0 F){n:Nat}{P:Program}{f:FuncId}{args:Array Value}{w:World}{R:Ending->World->Prop}(a:Calls P f args w R):CallsIn F n P f args w R:=by
 rcases h with rfl|⟨l,rfl⟩
 ·exact aw.2 a
 ·exact(aw.2 a:CallsIn Fence.wide n P f args w R)
theorem Yl(k:∀g r,C.Γ g=some r->jr dr C.P g r){m:Array Oper}(s:∀(i:Nat) (o:Oper),m[i]?=some o->∀d,o.dst=some d->d<N){F:Fence}{n:Nat}(hF:D0 F){Q:Exit->Act->World->Prop} :
  ∀(l:List Nat) (st j:St) (a:Act) (w:World),ke C m l st=some j->iu dr C.P w0 S0 L N Z0 G0 n0 st a w->(∀T w',iu dr C.P w0 S0 L N Z0 G0 n0 j T w'->Q .normal T w')->wpOpsIn F n C.P m Q l a w
 |[],st,j,a,w,h,hs,A=>by
  simp only[ke]at h;injection h with h
  subst h;exact A a w hs
 |i::l,st,j,a,w,h,hs,A=>by
  simp only[wpOpsIn];cases B:m[i]? with
  |none=>simp only[ke,B]at h;exact Yl k s hF l st j a w h hs A
  |some o=>
   simp only[ke,B]at h;cases b:yJ C m o st with
   |none=>rw[b]at h;cases h
   |some st1=>
    rw[b]at h;simp only[z8]at h;obtain⟨S,G,t⟩:=hs;unfold yJ at b;simp only[];rw[Qn t.jx];split at b
    ·rename_i D;rw[zf D];split at b
     ·rename_i x Y Z u;injection b with b
      subst b;have E:∀c,o.op≠.defer c:=by intro c H;rw[H]at u;simp[zX]at u
      refine⟨fun f _=>hF.fn f,?_⟩;rw[Kg _ _ _ E];have I:=cn k t.inv (a:=a.eval) (fun y pv W=>vv t.jx W) (o:=o) u;rcases I with⟨v,w',J,K,z,M,R⟩|⟨g,vs,z,H⟩
      ·have p:iu dr C.P w0 S0 L N Z0 G0 n0 ⟨put st.U o.dst x,Y,Z⟩ (a.put o.dst v) w':=⟨J,K,t.step M R (s i o B)⟩;have q:=Yl (n:=n) k s hF l _ j _ w' h p A;rcases z with z|⟨z,rfl⟩
       ·rw[z];exact q
       ·rw[z];exact q
      ·rw[z];refine⟨fun h=>by simp[hF.deep]at h,hF.calls (H.mono fun e w' X=>?_)⟩;obtain⟨v,J,K,rfl,M,R⟩:=X;have p:iu dr C.P w0 S0 L N Z0 G0 n0 ⟨put st.U o.dst x,Y,Z⟩ (a.put o.dst v) w':=⟨J,K,t.step M R (s i o B)⟩;exact Yl k s hF l _ j _ w' h p A
     ·cases b
    ·rename_i D;rw[zc D];injection b with b
     subst b;exact⟨fun f _=>hF.fn f,Yl k s hF l _ j _ w h ⟨S,G,t.step (.refl t.inv) jM (s i o B)⟩ A⟩
def jH:Code->Bool
 | .seq a b=>jH a&&jH b
 | .cond _ a b=>jH a&&jH b
 | .block _ b=>jH b
 | .loop b=>jH b
 | .rangeFunc _ _ _ _=>false
 | .scope _=>false
 |_=>true
def vF(pf:FuncId->Bool)(c:Nat->List (Tmp×Tmp))(e:Nat->List Tmp)(f:FuncId->Bool)(N:Nat):Code->Bool
 | .region i g h=>g.all (fun o=>match o.dst with|some d=>decide (d<N)|none=>true)&&(!h||(lp (GP pf (c i) (e i) f g) g&&td pf (c i) (e i) f g))
 | .seq a b=>vF pf c e f N a&&vF pf c e f N b
 | .cond _ a b=>vF pf c e f N a&&vF pf c e f N b
 | .block _ b=>vF pf c e f N b
 | .loop b=>vF pf c e f N b
 | .rangeFunc _ j a b=>j.all (fun p=>decide (p<N))&&jH a&&jH b&&vF pf c e f N a&&vF pf c e f N b
 |_=>true
theorem iu.drew{st:St}{a:Act}{w:World}(h:iu dr C.P w0 S0 L N Z0 G0 n0 st a w):iu dr C.P w0 S0 L N Z0 G0 n0 st a {w with drawn:=w.drawn+1}:=by obtain⟨S,G,c⟩:=h;refine⟨S,G,c.inv.same rfl,fun t=>(c.jx t).mono (fun b d=>⟨d,rfl⟩) (ze _) (fun _ _=>rfl),c.size,c.defers,c.s0,c.s1,c.own,c.fr.trans (Fr.drew w L) fun _ _ h=>h,c.up,c.loc⟩
theorem iu.top{st:St}{a:Act}{w:World}(h:iu dr C.P w0 S0 L N Z0 G0 n0 st a w):bg st.Y st.Z:=by obtain⟨S,G,b⟩:=h;exact b.inv.top
theorem iu.zfI{st:St}{a:Act}{w:World}(h:iu dr C.P w0 S0 L N Z0 G0 n0 st a w){t:Nat}{y:O}{Y1:Hp}(g:qa st.Y (st.U t)=some (y,Y1)):iu dr C.P w0 S0 L N Z0 G0 n0 ⟨qt st.U t y,Y1,st.Z⟩ a w:=by
 obtain⟨S,G,h⟩:=h;obtain⟨f,k,c,_,_⟩:=kG (dr:=dr) h.inv g (h.jx t);have d:∀b,jD st.Y G b->L b\/w0.heap.size<=b:=by rintro b ⟨id,blk,hid,rfl⟩;exact h.own id blk hid
 refine⟨f,G,k.inv,fun s=>?_,h.size,h.defers.step k,fun b e=>k.keep (dr:=dr) b (h.s0 b e),fun b e=>?_,fun id b e=>?_,h.fr,h.up,h.loc⟩
 ·show qb w f G st.Z (qt st.U t y s) _;by_cases hs:s=t
  ·subst hs;rw[wP];exact .c c
  ·rw[qL _ _ _ _ hs];exact(h.jx s).mono (k.same h.inv) (ze _) (fun _ _=>rfl)
 ·rcases k.from_ b e with h1|h1|h1
  ·exact h.s1 b h1
  ·exact .inr (d b h1)
  ·exact .inr (.inr (zE h.fr.size h1))
 ·rcases k.own id b e with h1|h1
  ·exact d _ h1
  ·exact .inr (zE h.fr.size h1)
theorem iu.AF{a:Act}{w:World}:∀{l:List Tmp} {st st1:St},iu dr C.P w0 S0 L N Z0 G0 n0 st a w->AM.AF l st=some st1->iu dr C.P w0 S0 L N Z0 G0 n0 st1 a w
 |[],st,st1,h,e=>by
  simp only[AM.AF]at e;injection e with e
  rw[<-e];exact h
 |t::l,st,st1,h,e=>by
  simp only[AM.AF]at e;split at e
  ·rename_i y Y1 b;exact iu.AF (h.zfI b) e
  ·cases e
def Vv(S:Nat->Prop)(G:Nat->GI)(Y:Hp)(b:Nat):Prop:=¬S b/\∀id blk,Y id=some blk->(G id).g≠b
theorem Vv.step{P:Program}{Y Y':Hp}{Z f:Nat}{S d:Nat->Prop}{G e:Nat->GI}{w w':World}{b:Nat}(h:Vv S G Y b)(k:kd dr P Y Z S G w Y' f d e w')(i:b<w.heap.size):Vv d e Y' b:=by
 refine⟨fun hs=>?_,fun id blk hid g=>?_⟩
 ·rcases k.from_ b hs with h1|⟨id,blk,h1,c⟩|h1
  ·exact h.1 h1
  ·exact h.2 id blk h1 c
  ·omega
 ·rcases k.own id blk hid with⟨id',a,h1,c⟩|h1
  ·exact h.2 id' a h1 (c.trans g)
  ·omega
theorem Vv.same{P:Program}{Y Y':Hp}{Z a:Nat}{S c:Nat->Prop}{G d:Nat->GI}{w w':World}{b:Nat}(h:Vv S G Y b)(k:kd dr P Y Z S G w Y' a c d w')(e:b<w.heap.size):w'.heap[b]?=w.heap[b]?:=
 k.fr.block b e fun⟨id,blk,f,g⟩=>h.2 id blk f g
section
variable{P:Program}{S:Nat->Prop}{G:Nat->GI}
theorem Inv.frame{w w':World}{Y:Hp}{Z:Nat}{B:Nat->Prop}(h:Inv P w S G Y Z)(d:Fr dr w B w')(e:∀b,B b->Vv S G Y b):Inv P w' S G Y Z:=by
 have f:∀b,S b->S b/\w'.heap[b]?=w.heap[b]?:=fun b a=>⟨a,d.block b (h.st b a) fun c=>(e b c).1 a⟩
 exact⟨fun b a=>yb (h.st b a) d.size,h.top,fun id b a=>(h.live id b a).mono f (ze _) (fun _ _=>rfl) (d.block _ (h.live id b a).lt fun c=>(e _ c).2 id b a rfl),h.apart,h.inj,h.gD.mono f⟩
theorem Marks.frame{w w':World}{Y:Hp}{B:Nat->Prop}{ds:List Deferred}(h:Marks n0 w S Y G ds)(a:Fr dr w B w')(c:∀D,gG D∈ds->¬B D):Marks n0 w' S Y G ds:=by obtain⟨d,f,e,g,i⟩:=h;refine⟨zE d a.size,f,e,g,fun D hd=>?_⟩;obtain⟨j,b,k⟩:=i D hd;exact⟨j,(a.block D (zU.1 b).1 (c D (by rw[e];exact wo hd))).trans b,k⟩
theorem Bc{D a:Nat}(h:gG D=gG a):D=a:=by
 unfold gG at h;injection h with h
 injection h
theorem Marks.at{w:World}{Y:Hp}{ds:List Deferred}(h:Marks n0 w S Y G ds){D:Nat}(hd:gG D∈ds):n0<=D/\w.heap[D]?=some (.deferred (some []))/\¬S D/\∀id b,Y id=some b->(G id).g≠D:=by obtain⟨f,i,rfl,j,a⟩:=h;obtain⟨c,d,e⟩:=qp.1 hd;rw[<-Bc e];exact a c d
theorem kX.frame{st:St}{a:Act}{w w':World}{B:Nat->Prop}(h:kX dr P w0 S0 L N Z0 G0 n0 st S G a w)(c:Fr dr w B w')(f:∀b,B b->Vv S G st.Y b)(i:∀b,B b->L b\/w0.heap.size<=b)
  (j:∀D,gG D∈a.defers->¬B D):kX dr P w0 S0 L N Z0 G0 n0 st S G a w':=by
 have k:∀b,S b->S b/\w'.heap[b]?=w.heap[b]?:=fun b d=>⟨d,c.block b (h.inv.st b d) fun e=>(f b e).1 d⟩
 refine⟨h.inv.frame c f,fun t=>(h.jx t).mono k (ze _) (fun _ _=>rfl),h.size,h.defers.frame c j,h.s0,h.s1,h.own,h.fr.trans c fun b d l=>?_,h.up,h.loc⟩;rcases i b l with g|g
 ·exact g
 ·omega
theorem kX.UU{st:St}{a:Act}{w w':World}{B:Nat->Prop}(h:kX dr P w0 S0 L N Z0 G0 0 st S G a w)(d:Fr dr w B w')(f:∀b,B b->Vv S G st.Y b)(g:∀D,gG D∈a.defers->¬B D):kX dr P w' S (jD st.Y G) N st.Z G 0 st S G a w':=by
 have i:∀b,S b->S b/\w'.heap[b]?=w.heap[b]?:=fun b c=>⟨c,d.block b (h.inv.st b c) fun e=>(f b e).1 c⟩
 exact⟨h.inv.frame d f,fun t=>(h.jx t).mono i (ze _) (fun _ _=>rfl),h.size,h.defers.frame d g,fun _ h=>h,fun _ h=>.inl h,fun id b c=>.inl ⟨id,b,c,rfl⟩,Fr.refl _ _,ze _,fun _ _=>rfl⟩
theorem kX.inner{st:St}{a:Act}{w:World}(h:kX dr P w0 S0 L N Z0 G0 n0 st S G a w):kX dr P w S (jD st.Y G) N st.Z G 0 st S G {a with defers:=[]} w:=
 ⟨h.inv,h.jx,h.size,.nil (xq _),fun _ h=>h,fun _ h=>.inl h,fun id b c=>.inl ⟨id,b,c,rfl⟩,Fr.refl _ _,ze _,fun _ _=>rfl⟩
theorem kX.stp{Y:Hp}{Z:Nat}{b:Nat->Prop}{c:Nat->GI}{st:St}{a:Act}{w w':World}(h:kX dr P w S (jD Y G) N Z G n0 st b c a w'):kd dr P Y Z S G w st.Y st.Z b c w':=⟨h.inv,h.up,h.loc,h.s0,h.s1,h.own,h.fr⟩
end
def Be(dr:Prop)(P:Program)(g:FuncId)(it:Qj):Prop:=
 (∃fn,P.funcs[g]?=some fn/\(fn.name== "runtime.NumGoroutine")=false/\fn.body.isNone=false) /\
 ∀cap Y Z xs Y1,it cap Y=some (xs,Y1)->∃us:List Value,xs=us.map O.v/\(∀u∈us,lit u=true)/\(∀id b,Y1 id=some b->Y id=some b) /\
  ∀(w:World) (S:Nat->Prop) (G:Nat->GI) (vs:List Value),Inv P w S G Y Z->Zip (qb w S G Z) cap vs ->
   ∃B:Nat->Prop,(∀b,B b->jD Y G b/\Vv S G Y1 b) /\
    ∀(n l:Nat) (J c:List Value->World->Prop),
     (∀pre W a,J pre W->Fr dr W B a->J pre a)->(∀pre W a,c pre W->Fr dr W B a->c pre a)->(∀pre W,J pre W->HS P W fun b=>b<W.heap.size) ->
     (∀pre x W,J pre W->us[pre.length]?=some x->YieldAt Fence.wide n P l #[x] W fun e a=>(e=.returned (.bool true)/\J (pre++[x]) a/\(∀b,B b->a.heap[b]?=W.heap[b]?)/\W.heap.size<=a.heap.size)\/(e=.returned (.bool false)/\c (pre++[x]) a)) ->
     ∀W,J [] W->(∀b,B b->W.heap[b]?=w.heap[b]?)->w.heap.size<=W.heap.size ->
      CallsIn Fence.wide (n+1) P g (#[.func (.yield l) #[] #[]]++vs.toArray) W fun e a=>(∃v,e=.returned v)/\(J us a\/∃pre,c pre a)
abbrev Iv:=Be True
theorem Sg{w:World}{S:Nat->Prop}{G:Nat->GI}{Z:Nat}{u:Value}(h:lit u=true):qb w S G Z (.v u) u:=.c (.v h)
theorem EG{w:World}{l:Nat}(o:Obj)(B:Nat->Prop)(a:B l):Fr dr w B (w.putObj l o):=
 ⟨rfl,rfl,rfl,by simp,fun _=>ze _,fun k _ b=>zfD fun e=>b (e ▸ a)⟩
theorem lG(hΓ:∀g spec,C.Γ g=some spec->jr dr C.P g spec)(hpf:∀g spec,pf g=true->C.Γ g=some spec->Wk spec)(hbk:∀g spec,C.bk g=true->C.Γ g=some spec->Ql spec)(hit:∀g it,C.it g=some it->Be dr C.P g it)(hm:C.P.follows .mixedOrders=true) :
  ∀(c:Code),vF pf C.dyn C.ML C.bk N c=true->∀(F:Fence) (n:Nat),D0 F->(F=Fence.wide\/jH c=true)->∀(w0:World) (S0 L:Nat->Prop) (Z0:Nat) (G0:Nat->GI) (n0:Nat) (st st':St) (e:Exit) (a:Act) (w:World) (Q:Exit->Act->World->Prop),n0<=w0.heap.size->qW C c st=some (e,st')->iu dr C.P w0 S0 L N Z0 G0 n0 st a w ->
   (∀a' w',iu dr C.P w0 S0 L N Z0 G0 n0 st' a' w'->Q e a' w')->c.wpIn F n C.P Q a w:=by
 intro c
 induction c with
 |skip=>
  intro _ F n hF _ w0 S0 L Z0 G0 n0 st st' e a w Q _ h hs hQ;simp only[qW]at h;injection h with h
  injection h with e1 e2;subst e1;subst e2;exact wpIn_skip (hQ a w hs)
 |region id ops draw=>
  intro hok F n hF _ w0 S0 L Z0 G0 n0 st st' e a w Q _ h hs hQ;simp only[vF,zC,qF,yF]at hok;obtain⟨hN0,hdraw⟩:=hok;have hN:∀(i:Nat) (o:Oper),ops[i]?=some o->∀d,o.dst=some d->d<N:=by intro i o ho d hd;have:=av.1 hN0 o (gB ho);simpa[hd]using this
  simp only[qW]at h;split at h
  case h_2=>cases h
  rename_i st1 hth;have hs:=hs.AF hth;clear hth;generalize st1=st at h hs;split at h
  case isFalse=>cases h
  rename_i hA;split at h
  ·rename_i s hs1;injection h with h
   injection h with e1 e2;subst e1;subst e2;cases draw with
   |false=>exact wpIn_region (Yl hΓ hN hF _ st s a w (by rw[aH];exact hs1) hs hQ)
   |true=>
    have hd:lp (GP pf (C.dyn id) (C.ML id) C.bk ops) ops=true/\td pf (C.dyn id) (C.ML id) C.bk ops=true:=by simpa using hdraw
    refine wpIn_region_draw fun t=>?_
    simp only[Region.schedule,hm,UM,qI];exact Yl hΓ hN hF _ st s a _ (Sf (Nd hpf hbk hd.2) hd.1 _ _ _ ⟨hA,fun _=>hs.top⟩ hs1) hs.drew hQ
  ·cases h
 |seq x y ihx ihy=>
  intro hok F n hF hno w0 S0 L Z0 G0 n0 st st' e a w Q hn0 h hs hQ;simp only[vF,zC]at hok;have hnx:F=Fence.wide\/jH x=true:=hno.imp (fun h=>h) fun h=>by simp only[jH,zC]at h;exact h.1
  have hny:F=Fence.wide\/jH y=true:=hno.imp (fun h=>h) fun h=>by simp only[jH,zC]at h;exact h.2
  simp only[qW]at h;split at h
  ·rename_i s hx;exact wpIn_seq (ihx hok.1 F n hF hnx w0 S0 L Z0 G0 n0 st s .normal a w _ hn0 hx hs fun a' w' hs'=>ihy hok.2 F n hF hny w0 S0 L Z0 G0 n0 s st' e a' w' Q hn0 h hs' hQ)
  ·rename_i r hr;refine wpIn_seq (ihx hok.1 F n hF hnx w0 S0 L Z0 G0 n0 st st' e a w _ hn0 h hs fun a' w' hs'=>?_);have:=hQ a' w' hs';cases e<;>first
    |exact this
    |exact(hr _ h).elim
 |cond c x y ihx ihy=>
  intro hok F n hF hno w0 S0 L Z0 G0 n0 st st' e a w Q hn0 h hs hQ;simp only[vF,zC]at hok;have hnx:F=Fence.wide\/jH x=true:=hno.imp (fun h=>h) fun h=>by simp only[jH,zC]at h;exact h.1
  have hny:F=Fence.wide\/jH y=true:=hno.imp (fun h=>h) fun h=>by simp only[jH,zC]at h;exact h.2
  simp only[qW]at h;obtain⟨S,G,hS⟩:=hs;split at h
  ·rename_i hc;obtain⟨hv,_⟩:=(vv hS.jx hc).wY;exact wpIn_cond_true hv (ihx hok.1 F n hF hnx w0 S0 L Z0 G0 n0 st st' e a w Q hn0 h ⟨S,G,hS⟩ hQ)
  ·rename_i hc;obtain⟨hv,_⟩:=(vv hS.jx hc).wY;exact wpIn_cond_false hv (ihy hok.2 F n hF hny w0 S0 L Z0 G0 n0 st st' e a w Q hn0 h ⟨S,G,hS⟩ hQ)
  ·cases h
 |block id b ih=>
  intro hok F n hF hno w0 S0 L Z0 G0 n0 st st' e a w Q hn0 h hs hQ;simp only[vF]at hok;have hnb:F=Fence.wide\/jH b=true:=hno.imp (fun h=>h) fun h=>by simp only[jH]at h;exact h
  simp only[qW]at h;split at h
  ·rename_i i s hb;refine wpIn_block (ih hok F n hF hnb w0 S0 L Z0 G0 n0 st s (.exit i) a w _ hn0 hb hs fun a' w' hs'=>?_);unfold Exit.inBlock;split at h
   ·rename_i hi;injection h with h
    injection h with e1 e2;subst e1;subst e2;simp[hi,hQ a' w' hs']
   ·rename_i hi;injection h with h
    injection h with e1 e2;subst e1;subst e2;simp[hi,hQ a' w' hs']
  ·rename_i r hr;refine wpIn_block (ih hok F n hF hnb w0 S0 L Z0 G0 n0 st st' e a w _ hn0 h hs fun a' w' hs'=>?_);have:=hQ a' w' hs';cases e<;>first
    |exact this
    |exact(hr _ _ h).elim
 |loop b ih=>
  intro hok F n hF hno w0 S0 L Z0 G0 n0 st st' e a w Q hn0 h hs hQ;simp only[vF]at hok;have hnb:F=Fence.wide\/jH b=true:=hno.imp (fun h=>h) fun h=>by simp only[jH]at h;exact h
  simp only[qW]at h;obtain⟨m,hm'⟩:=Q6 h;refine wpIn_loop_rounds m ?_;clear h
  induction m generalizing st a w with
  |zero=>simp[iter]at hm'
  |succ m ihn=>
   rw[roundsIn_succ];simp only[iter]at hm';split at hm'
   ·rename_i s hb;exact ih hok F n hF hnb w0 S0 L Z0 G0 n0 st s .normal a w _ hn0 hb hs fun a' w' hs'=>ihn s a' w' hs' hm'
   ·rename_i r hr;refine ih hok F n hF hnb w0 S0 L Z0 G0 n0 st st' e a w _ hn0 hm' hs fun a' w' hs'=>?_
    have:=hQ a' w' hs';cases e<;>first
     |exact this
     |exact(hr _ hm').elim
 |rangeFunc f ps x y ihx ihy=>
  intro hok F n hF hno w0 S0 L Z0 G0 n0 st st' e a w Q hn0 h hs hQ;obtain rfl:F=Fence.wide:=hno.resolve_right (by simp[jH]);simp only[vF,zC]at hok;obtain⟨⟨⟨⟨hps,hnx⟩,hny⟩,hox⟩,hoy⟩:=hok;simp only[qW]at h;split at h
  case h_2=>cases h
  rename_i p g cap hpl hfg;split at h
  case h_2=>cases h
  rename_i it hIt;split at h
  case h_2=>cases h
  rename_i xs Y1 hx;split at h
  case h_2=>cases h
  rename_i e0 Y2 iS hro;injection h with h
  injection h with e1 e2;subst e1;subst e2;obtain⟨S,G,hS⟩:=hs;obtain⟨⟨gfn,gf1,gf2,gf3⟩,hitS⟩:=hit g it hIt;obtain⟨us,rfl,hlit,hsub,hrun⟩:=hitS cap st.Y st.Z _ Y1 hx;obtain⟨aZ,vs,ev,l1,l2,r1,r2⟩:=(vv hS.jx hfg).AG;obtain rfl:aZ=#[]:=by simpa using l1.symm
  obtain⟨B,hB,hcalls⟩:=hrun w S G vs.toList hS.inv ⟨by simpa using l2,fun j pv u hj hu=>r2 j pv u hj (by simpa using hu)⟩;have hBlt:∀b,B b->b<w.heap.size:=fun b hb=>by obtain⟨id,blk,h1,rfl⟩:=(hB b hb).1;exact(hS.inv.live id blk h1).lt
  have hpN:p<N:=by have:=av.1 hps p (by rw[<-Array.mem_toList_iff,hpl];simp);simpa using this
  have hps1:ps=#[p]:=by apply Array.toList_inj.1;rw[hpl]
  subst hps1;refine wpIn_rangeFunc fun fn hfn=>?_
  obtain⟨rec,hrec⟩:∃rec:LoopState->Option Code->Loop,rec=fun s pe=>{state:=s,pending:=pe,fn,tmps:=a.tmps,params:=#[p],assign:=x,body:=y,defers:=w.heap.size}:=⟨_,rfl⟩
  obtain⟨W1,hW1⟩:=jj ((w.alloc (.deferred (some []))).alloc (.loop (rec .ready none)));have hL1:W1.heap[w.heap.size+1]?=some (.loop (rec .ready none)):=by rw[<-hW1];have:=World.alloc_heap_new (w.alloc (.deferred (some []))) (.loop (rec .ready none));rwa [World.size_alloc]at this
  have hK1:W1.heap[w.heap.size]?=some (.deferred (some [])):=by rw[<-hW1];exact(Below.heap_alloc _ _ _ (by simp)).trans (World.alloc_heap_new w _)
  have hsz1:W1.heap.size=w.heap.size+2:=by rw[<-hW1];simp
  have hold1:∀b,b<w.heap.size->W1.heap[b]?=w.heap[b]?:=fun b hb=>by rw[<-hW1];exact(Below.heap_alloc _ _ _ (by simp;omega)).trans (Below.heap_alloc w _ b hb)
  have fr1:Fr dr w (fun _=>False) W1:=⟨by rw[<-hW1];rfl,by rw[<-hW1];rfl,by rw[<-hW1];rfl,by omega,fun _=>by rw[<-hW1];exact ze _,fun k hk _=>hold1 k hk⟩;obtain⟨l,hl⟩:∃l,l=w.heap.size+1:=⟨_,rfl⟩;obtain⟨a1,ha1⟩:∃a1:Act,a1={a with defers:=gG w.heap.size::a.defers}:=⟨_,rfl⟩;have hfreshAway:∀b,w.heap.size<=b->Vv S G Y1 b:=fun b hb=>⟨fun hs=>by have:=hS.inv.st b hs;omega,fun id blk hid he=>by have:=(hS.inv.live id blk (hsub id blk hid)).lt;omega⟩
  have hk0:Inv C.P W1 S G Y1 st.Z:=by have h1:Inv C.P w S G Y1 st.Z:=⟨hS.inv.st,fun id b hb=>hS.inv.top id b (hsub id b hb),fun id b hb=>hS.inv.live id b (hsub id b hb),fun id b hb=>hS.inv.apart id b (hsub id b hb),fun id id' b b' hb hb' he=>hS.inv.inj id id' b b' (hsub id b hb) (hsub id' b' hb') he,hS.inv.gD⟩;exact h1.frame fr1 (fun _ h=>h.elim)
  have hsim1:kX dr C.P w0 S0 L N Z0 G0 n0 ⟨st.U,Y1,st.Z⟩ S G a1 W1:=by
   subst ha1;obtain⟨hd0,Ds,hd1,hd2,hd3⟩:=hS.defers;refine⟨hk0,fun t=>(hS.jx t).mono (fun b hb=>⟨hb,hold1 b (hS.inv.st b hb)⟩) (ze _) (fun _ _=>rfl),hS.size,⟨by omega,w.heap.size::Ds,by simp[hd1],?_,?_⟩,hS.s0,hS.s1,fun id b hb=>hS.own id b (hsub id b hb),hS.fr.trans fr1 (fun _ _ h=>h.elim),hS.up,hS.loc⟩
   ·refine List.nodup_cons.2 ⟨fun hm=>?_,hd2⟩;have:=(zU.1 (hd3 _ hm).2.1).1;omega
   ·intro D hD;rcases zv.1 hD with rfl|hD
    ·exact⟨hd0,hK1,(hfreshAway _ (ze _))⟩
    ·obtain⟨g1,g2,g4,g3⟩:=hd3 D hD;exact⟨g1,(hold1 D (zU.1 g2).1).trans g2,g4,fun id b hb=>g3 id b (hsub id b hb)⟩
  have hsmall:w0.heap.size<=w.heap.size:=hS.fr.size;have hBL:∀b,B b->L b\/w0.heap.size<=b:=fun b hb=>by obtain⟨id,blk,h1,rfl⟩:=(hB b hb).1;exact hS.own id blk h1
  have hmk:∀D,gG D∈a1.defers->¬B D/\¬D=l:=by
   intro D hD;subst ha1;rcases zv.1 hD with h1|h1
   ·obtain rfl:=Bc h1;exact⟨fun hb=>by have:=hBlt _ hb;omega,by omega⟩
   ·obtain⟨g1,g2,_,g3⟩:=hS.defers.at h1;have:=(zU.1 g2).1;refine⟨fun hb=>?_,by omega⟩;obtain⟨id,blk,h2,h3⟩:=(hB D hb).1;exact g3 id blk h2 h3
  have hlB:¬B l:=fun hb=>by have:=hBlt l hb;omega
  obtain⟨Good,hGood⟩:∃Good:Hp->Nat->(Nat->Prop)->(Nat->GI)->LoopState->Option Code->World->Prop,Good=fun Y Z S G s pe W=>
    kX dr C.P w0 S0 L N Z0 G0 n0 ⟨st.U,Y,Z⟩ S G a1 W/\(∀b,B b->Vv S G Y b)/\Vv S G Y l/\W.heap[l]?=some (.loop (rec s pe))/\w.heap.size<=W.heap.size:=⟨_,rfl⟩
  have good_frame:∀{Y Z S G s pe W W'},Good Y Z S G s pe W->Fr dr W B W'->Good Y Z S G s pe W':=by intro Y Z S G s pe W W' hg fr;subst hGood;obtain⟨g1,g2,g3,g4,g5⟩:=hg;exact⟨g1.frame fr g2 hBL (fun D hD=>(hmk D hD).1),g2,g3,(fr.block l (zU.1 g4).1 hlB).trans g4,zE g5 fr.size⟩
  have good_put:∀{Y Z S G s pe W} (s':LoopState) (pe':Option Code),Good Y Z S G s pe W->Good Y Z S G s' pe' (W.putObj l (.loop (rec s' pe'))):=by intro Y Z S G s pe W s' pe' hg;subst hGood;obtain⟨g1,g2,g3,g4,g5⟩:=hg;refine⟨g1.frame (EG _ (fun b=>b=l) rfl) (fun b hb=>hb ▸ g3) (fun b hb=>.inr (by omega)) (fun D hD=>(hmk D hD).2),g2,g3,World.putObj_heap_same (zU.1 g4).1,by simpa using g5⟩
  have XH:∀{Y Z S G s pe W Y' Z' S' G' W'},Good Y Z S G s pe W->kd dr C.P Y Z S G W Y' Z' S' G' W'->Good Y' Z' S' G' s pe W'/\∀b,B b->W'.heap[b]?=W.heap[b]?:=by intro Y Z S G s pe W Y' Z' S' G' W' hg k;subst hGood;obtain⟨g1,g2,g3,g4,g5⟩:=hg;have hll:=(zU.1 g4).1;refine⟨⟨g1.step (dst:=none) k jM (fun _ h=>by cases h),fun b hb=>(g2 b hb).step k (yb (hBlt b hb) g5),g3.step k hll,(g3.same k hll).trans g4,zE g5 k.fr.size⟩,fun b hb=>(g2 b hb).same k (yb (hBlt b hb) g5)⟩
  obtain⟨J,hJ⟩:∃J:List Value->World->Prop,J=fun pre W=>∃Y Z S G,Good Y Z S G .ready none W/\Kh (qW C x) (qW C y) st.U p ((us.drop pre.length).map O.v) Y Z=some (e0,Y2,iS):=⟨_,rfl⟩
  obtain⟨Jx,hJx⟩:∃Jx:List Value->World->Prop,Jx=fun _ W=>∃c S G,Good Y2 iS S G .done (some c) W/\(c=.ret/\e0=.ret\/∃i,c=.exit i/\e0=.exit i):=⟨_,rfl⟩
  have hJ0:J [] W1:=by subst hJ;refine⟨Y1,st.Z,S,G,?_,hro⟩;subst hGood;exact⟨hsim1,fun b hb=>(hB b hb).2,hfreshAway l (by omega),by rw[hl];exact hL1,by omega⟩
  have gf2':¬gfn.name= "runtime.NumGoroutine":=by simpa using gf2
  have gf3':¬gfn.body=none:=by intro h;simp[h]at gf3
  refine⟨l,[gG w.heap.size],W1,{target:=.fn (.func g) vs,args:=#[.func (.yield l) #[] #[]]},W1,g,#[.func (.yield l) #[] #[]]++vs,W1,?_,?_,?_,?_,(fun h=>by simp[Fence.wide]at h),?_⟩
  ·rw[hl,<-hW1,hrec];exact run_enterLoop_outer _ _ _ _ _
  ·simp only[resolve,ev];simp[go_sem]
  ·intro f' _;trivial
  ·simp[invoke,callFunc,gf1,gf2',gf3']
  ·have hround:∀pre u W,J pre W->us[pre.length]?=some u->YieldAt Fence.wide 0 C.P l #[u] W fun e W'=>(e=.returned (.bool true)/\J (pre++[u]) W'/\(∀b,B b->W'.heap[b]?=W.heap[b]?)/\W.heap.size<=W'.heap.size)\/(e=.returned (.bool false)/\Jx (pre++[u]) W'):=by
    intro pre u W hj hu;subst hJ;obtain⟨Y,Z,S1,G1,hg,hr⟩:=hj;obtain⟨hlt,hue⟩:=zd.1 hu;rw[zh hlt,hue]at hr;simp only[wg,Kh]at hr;split at hr
    case h_2=>cases hr
    rename_i s1 hfx;have hg1:=hg;rw[hGood]at hg1;obtain⟨g1,g2,g3,g4,g5⟩:=hg1;have hy:=run_yield (P:=C.P) (args:=#[u]) g4 (by rw[hrec];rfl);rw[hrec]at hy;refine⟨fn,_,x,y,hy,roundIn_of_wpIn (F:=Fence.wide) trivial ?_⟩;have hin:=(g1.step (dst:=some p) (u:=u) (.refl g1.inv) (Sg (hlit u (zz hu))) (fun d hd=>by cases hd;exact hpN)).inner;have htm:(#[p].zip #[u]).foldl (fun tmps (t,a)=>tmps.setIfInBounds t a) a.tmps=a.tmps.setIfInBounds p u:=by simp
    rw[ha1]at hin;rw[htm];refine ihx hox (Fence.wide.inRound l) 0 (.inr ⟨l,rfl⟩) (.inr hnx) W S1 (jD Y G1) Z G1 0 _ s1 .normal _ W _ (xq _) hfx ⟨S1,G1,hin⟩ fun a2 w2 hs2=>?_
    obtain⟨S2,G2,h2⟩:=hs2;obtain⟨hg2,hb2⟩:=XH hg h2.stp;have hl2:w2.heap[l]?=some (.loop (rec .ready none)):=by rw[hGood]at hg2;exact hg2.2.2.2.1
    have hbr:=run_beginRound (P:=C.P) hl2 (by rw[hrec]);have hrb:({rec .ready none with state:=.busy}:Loop)=rec .busy none:=by rw[hrec]
    rw[hrb]at hbr;refine⟨_,hbr,?_⟩;have hg3:=good_put .busy none hg2;have hal2:Vv S2 G2 s1.Y l:=by rw[hGood]at hg2;exact hg2.2.2.1
    have h3:=h2.UU (EG (.loop (rec .busy none)) (fun b=>b=l) rfl) (fun b hb=>hb ▸ hal2) (fun D hD e=>by have:=(h2.defers.at hD).2.1;rw[e,hl2]at this;cases this)
    cases hfy:qW C y s1 with
    |none=>rw[hfy]at hr;cases hr
    |some r2=>
     obtain⟨e2,s2⟩:=r2;rw[hfy]at hr;refine ihy hoy (Fence.wide.inRound l) 0 (.inr ⟨l,rfl⟩) (.inr hny) _ S2 (jD s1.Y G2) s1.Z G2 0 s1 s2 e2 a2 _ _ (xq _) hfy ⟨S2,G2,h3⟩ fun a4 w4 hs4=>?_
     obtain⟨S4,G4,h4⟩:=hs4;obtain⟨hg4,hb4⟩:=XH hg3 h4.stp;have hl4:w4.heap[l]?=some (.loop (rec .busy none)):=by rw[hGood]at hg4;exact hg4.2.2.2.1
     have hbb:∀b,B b->w4.heap[b]?=W.heap[b]?:=fun b hb=>(hb4 b hb).trans ((zfD (k:=b) (r:=l) (fun e=>hlB (by rw[<-e];exact hb))).trans (hb2 b hb))
     have hsz:W.heap.size<=w4.heap.size:=by have q1:=h2.fr.size;have q2:=h4.fr.size;rw[World.putObj_size]at q2;exact zE q1 q2
     cases e2 with
     |normal=>
      have he:=run_endRound (P:=C.P) none hl4;have hrr:({rec .busy none with state:=if(none:Option Code).isNone then .ready else .done,pending:=none}:Loop)=rec .ready none:=by rw[hrec];rfl
      rw[hrr]at he;refine⟨_,_,he,.inl ⟨rfl,⟨s2.Y,s2.Z,S4,G4,good_put .ready none hg4,by simpa using hr⟩,fun b hb=>(zfD (k:=b) (r:=l) (fun e=>hlB (by rw[<-e];exact hb))).trans (hbb b hb),by simpa using hsz⟩⟩
     |ret=>
      have he:=run_endRound (P:=C.P) (some .ret) hl4;have hrr:({rec .busy none with state:=if(some Code.ret:Option Code).isNone then .ready else .done,pending:=some .ret}:Loop)=rec .done (some .ret):=by rw[hrec];rfl
      rw[hrr]at he;simp only at hr;injection hr with hr
      injection hr with r1 hr;injection hr with r2 r3;subst r1;subst r2;subst r3;refine⟨_,_,he,.inr ⟨rfl,?_⟩⟩;rw[hJx];exact⟨.ret,S4,G4,good_put .done (some .ret) hg4,.inl ⟨rfl,rfl⟩⟩
     |exit i=>
      have he:=run_endRound (P:=C.P) (some (.exit i)) hl4;have hrr:({rec .busy none with state:=if(some (Code.exit i):Option Code).isNone then .ready else .done,pending:=some (.exit i)}:Loop)=rec .done (some (.exit i)):=by rw[hrec];rfl
      rw[hrr]at he;simp only at hr;injection hr with hr
      injection hr with r1 hr;injection hr with r2 r3;subst r1;subst r2;subst r3;refine⟨_,_,he,.inr ⟨rfl,?_⟩⟩;rw[hJx];exact⟨.exit i,S4,G4,good_put .done (some (.exit i)) hg4,.inr ⟨i,rfl,rfl⟩⟩
     |_=>cases hr
   have hcl:=hcalls 0 l J Jx (fun pre W W' hj fr=>by
     subst hJ;obtain⟨Y,Z,S1,G1,hg,hr⟩:=hj;exact⟨Y,Z,S1,G1,good_frame hg fr,hr⟩) (fun pre W W' hj fr=>by
     subst hJx;obtain⟨c,S1,G1,hg,hr⟩:=hj;exact⟨c,S1,G1,good_frame hg fr,hr⟩) (fun pre W hj=>by
     subst hJ;obtain⟨Y,Z,S1,G1,hg,hr⟩:=hj;rw[hGood]at hg;exact hg.1.inv.gD.mono fun b hb=>⟨hg.1.inv.st b hb,rfl⟩) hround W1 hJ0 (fun b hb=>hold1 b (hBlt b hb)) (by omega)
   refine aw.2 ((aw.1 hcl).mono ?_);rintro e W2 ⟨⟨v,rfl⟩,hj|⟨pre,hj⟩⟩
   ·rw[hJ]at hj;obtain⟨Y,Z,S1,G1,hg,hr⟩:=hj;rw[zq]at hr;simp only[K2,Kh]at hr;injection hr with hr
    injection hr with r1 hr;injection hr with r2 r3;subst r1;subst r2;subst r3;have hl2:W2.heap[l]?=some (.loop (rec .ready none)):=by rw[hGood]at hg;exact hg.2.2.2.1
    have he:=run_endLoop (P:=C.P) hl2 (by rw[hrec];simp);have hrr:({rec .ready none with state:=.exhausted}:Loop)=rec .exhausted none:=by rw[hrec]
    have hrp:(rec .ready none).pending=none:=by rw[hrec]
    rw[hrr,hrp]at he;have hg':=good_put .exhausted none hg;rw[hGood]at hg';have hq:=hQ a1 _ ⟨S1,G1,hg'.1⟩;rw[ha1]at hq;exact⟨none,_,he,hq⟩
   ·rw[hJx]at hj;obtain⟨c,S1,G1,hg,hc⟩:=hj;have hl2:W2.heap[l]?=some (.loop (rec .done (some c))):=by rw[hGood]at hg;exact hg.2.2.2.1
    have he:=run_endLoop (P:=C.P) hl2 (by rw[hrec];simp);have hrr:({rec .done (some c)with state:=.exhausted}:Loop)=rec .exhausted (some c):=by rw[hrec]
    have hrp:(rec .done (some c)).pending=some c:=by rw[hrec]
    rw[hrr,hrp]at he;have hg':=good_put .exhausted (some c) hg;rw[hGood]at hg';have hq:=hQ a1 _ ⟨S1,G1,hg'.1⟩;rw[ha1]at hq;refine⟨some c,_,he,?_⟩;rcases hc with⟨rfl,rfl⟩|⟨i,rfl,rfl⟩
    ·exact wpIn_ret hq
    ·exact wpIn_exit hq
 |exit id=>
  intro _ F n hF _ w0 S0 L Z0 G0 n0 st st' e a w Q _ h hs hQ;simp only[qW]at h;injection h with h
  injection h with e1 e2;subst e1;subst e2;exact wpIn_exit (hQ a w hs)
 |scope b _=>intro _ F n hF _ w0 S0 L Z0 G0 n0 st st' e a w Q _ h;simp[qW]at h
 |label l=>
  intro _ F n hF _ w0 S0 L Z0 G0 n0 st st' e a w Q _ h hs hQ;simp only[qW]at h;injection h with h
  injection h with e1 e2;subst e1;subst e2;exact wpIn_label (hQ a w hs)
 |goto l=>intro _ F n hF _ w0 S0 L Z0 G0 n0 st st' e a w Q _ h;simp[qW]at h
 |ret=>
  intro _ F n hF _ w0 S0 L Z0 G0 n0 st st' e a w Q _ h hs hQ;simp only[qW]at h;injection h with h
  injection h with e1 e2;subst e1;subst e2;exact wpIn_ret (hQ a w hs)
 |refuse why=>intro _ F n hF _ w0 S0 L Z0 G0 n0 st st' e a w Q _ h;simp[qW]at h
end
end Go.AM
