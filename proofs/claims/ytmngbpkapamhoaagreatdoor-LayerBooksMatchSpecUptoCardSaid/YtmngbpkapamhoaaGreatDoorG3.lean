/- Lemmas. -/
import Derived.Test.YtmngbpkapamhoaaGreatDoorG2
set_option maxRecDepth 8000
open Go Proofs Proofs.YtmngbpkapamhoaaGreatDoor Proofs.Tryz RowKit AM SpanLaw Q Zz
namespace Go.AM
def Zr(pf:FuncId->Bool):Op->Nat
 | .move _|.assign _|.pick ..|.build ..|.binOp ..|.unOp ..|.convert ..|.makeFunc ..|.fieldAddr ..|.field ..|.index ..|.extract ..|.nilCheck _=>0
 | .load ..|.indexAddr ..|.slice ..=>1
 | .call c=>match c.callee with
  | .builtin .len|.builtin .min|.builtin .max=>0
  | .value (.func g)=>if pf g then 1 else 2
  |_=>2
 |_=>2
def WZ(a:AM.Spec):Prop:=∀args Y Z r Y' Z',a args Y Z=some (r,Y',Z')->(Y'=Y/\Z'=Z)/\True
section
variable{C:Ctx}{pf:FuncId->Bool}
theorem Vo{α:Type}{o:Option O}{Y Y':α}{Z Z':Nat}{x:O}(h:(o.map fun y=>(y,Y,Z))=some (x,Y',Z')):o=some x/\Y'=Y/\Z'=Z:=by obtain⟨y,b,a⟩:=z7 h;injection a with c a;injection a with d e;subst c;subst d;subst e;exact⟨b,rfl,rfl⟩
theorem Ra(i:∀g a,pf g=true->C.Γ g=some a->WZ a){op:Op}(e:Zr pf op<=1){σ:Nat->O}{Y Y':Hp}{Z Z':Nat}{x:O}(h:qb C (get σ) Y Z op=some (x,Y',Z')):Y'=Y/\Z'=Z:=by
 have d:∀{y:O},some (y,Y,Z)=some (x,Y',Z')->Y'=Y/\Z'=Z:=by
  intro y h;injection h with h
  injection h with _ h;injection h with n o;exact⟨n.symm,o.symm⟩
 cases op<;>simp only[Zr]at e<;>(try omega)<;>simp only[qb]at h
 case move=>exact(Vo h).2
 case assign=>exact(Vo h).2
 case pick=>split at h<;>first|exact(Vo h).2|cases h
 case build=>split at h<;>first|exact(Vo h).2|cases h
 case load=>split at h<;>first|exact(Vo h).2|cases h
 case nilCheck=>split at h<;>first|exact d h|cases h
 case binOp=>split at h<;>first|exact(Vo h).2|cases h
 case unOp=>split at h<;>first|exact(Vo h).2|cases h
 case convert=>split at h<;>first|exact(Vo h).2|cases h
 case makeFunc=>split at h<;>first|exact d h|cases h
 case slice t x lo hi p=>cases p<;>simp only at h<;>first|(split at h<;>first|exact(Vo h).2|cases h)|cases h
 case fieldAddr=>split at h<;>first|exact(Vo h).2|cases h
 case field=>split at h<;>first|exact(Vo h).2|cases h
 case indexAddr=>split at h<;>first|exact(Vo h).2|cases h
 case index=>split at h<;>first|exact(Vo h).2|cases h
 case extract=>split at h<;>first|exact(Vo h).2|cases h
 case call c=>
  unfold Zp at h;split at h
  ·rename_i xs _;cases j:c.callee with
   |invoke r m=>rw[j]at h;cases h
   |builtin b=>
    rw[j]at e h;cases b<;>simp at e<;>simp only[yQ]at h
    ·split at h<;>first|exact(Vo h).2|cases h
    ·exact(Vo h).2
    ·exact(Vo h).2
   |value f=>
    rw[j]at e h;cases f<;>simp at e;rename_i k;simp only[kg,get]at h;split at h
    ·rename_i a q;exact(i k a (by by_cases l:pf k=true;exact l;simp[l]at e) q _ _ _ _ _ _ h).1
    ·cases h
  ·cases h
theorem MZ{op:Op}(d:Zr pf op=0){e:Operand->Option O}(Y Y2:Hp)(Z g:Nat):qb C e Y2 g op=(qb C e Y Z op).map fun r=>(r.1,Y2,g):=by
 cases op<;>simp only[Zr]at d<;>(try (exact absurd d (by omega)))<;>simp only[qb]
 case move x=>cases e x<;>rfl
 case assign x=>cases e x<;>rfl
 case pick c a b=>split<;>simp[vT,ka]
 case build t i=>split<;>simp[vT,ka]
 case nilCheck x=>split<;>rfl
 case binOp=>split<;>simp[vT,ka]
 case unOp=>split<;>simp[vT,ka]
 case convert=>split<;>simp[vT,ka]
 case makeFunc=>split<;>rfl
 case fieldAddr=>split<;>simp[vT,ka]
 case field=>split<;>simp[vT,ka]
 case index=>split<;>simp[vT,ka]
 case extract=>split<;>simp[vT,ka]
 case call c=>
  unfold Zp;cases yH (c.args.toList.map e)with
  |none=>rfl
  |some xs=>
   simp only;cases h:c.callee with
   |value f=>rw[h]at d;cases f<;>simp at d;split at d<;>omega
   |invoke r m=>rfl
   |builtin b=>
    rw[h]at d;cases b<;>simp at d<;>simp only[yQ]
    ·split<;>simp[vT,ka]
    ·simp[vT,ka]
    ·simp[vT,ka]
theorem zd4{op:Op}(c:Zr pf op=0){b:Operand->Option O}{Y Y':Hp}{Z Z':Nat}{x:O}(h:qb C b Y Z op=some (x,Y',Z'))(Y2:Hp)(a:Nat):qb C b Y2 a op=some (x,Y2,a):=by rw[MZ c Y Y2 Z a,h];rfl
theorem Vp{b a:Operand->Option O}:∀{l:List (Nat×Operand)},(∀p∈l,b p.2=a p.2)->vY b l=vY a l
 |[],_=>rfl
 |(i,x)::l,h=>by simp only[vY];rw[h (i,x) (by simp),Vp (l:=l) fun p Y=>h p (by simp[Y])]
theorem Ax{o e:Operand->Option O}{op:Op}{Y:Hp}{Z:Nat}(h:∀x∈op.operands.toList,o x=e x):qb C o Y Z op=qb C e Y Z op:=by
 cases op<;>simp only[Op.operands]at h<;>simp only[qb]
 case move x=>rw[h x (by simp)]
 case assign x=>rw[h x (by simp)]
 case pick c a b=>rw[h c (by simp),h a (by simp),h b (by simp)]
 case box t x=>rw[h x (by simp)]
 case build t q=>rw[Vp (l:=q.toList) fun p Y=>h p.2 (by simp only[q9];exact⟨p,Y,rfl⟩)]
 case buildSlice t n q=>rw[Vp (l:=q.toList) fun p Y=>h p.2 (by simp only[q9];exact⟨p,Y,rfl⟩)]
 case load t x=>rw[h x (by simp)]
 case store t a x=>rw[h a (by simp),h x (by simp)]
 case nilCheck x=>rw[h x (by simp)]
 case binOp op t x y B=>rw[h x (by simp),h y (by simp)]
 case unOp op t x=>rw[h x (by simp)]
 case convert s d x=>rw[h x (by simp)]
 case makeFunc f a b=>rw[zke (g:=e) fun x j=>h x (by simp at j⊢;exact .inl j),zke (l:=b.toList) (g:=e) fun x j=>h x (by simp at j⊢;exact .inr j)]
 case makeSlice t l c=>rw[h l (by simp),h c (by simp)]
 case slice t x lo hi w=>
  cases w with
  |some m=>rfl
  |none=>
   simp only;rw[h x (by simp)];have u:lo.map o=lo.map e:=by cases lo with
    |none=>rfl
    |some y=>simp only[zH];rw[h y (by simp)]
   have v:hi.map o=hi.map e:=by cases hi with
    |none=>rfl
    |some y=>simp only[zH];rw[h y (by simp)]
   rw[u,v]
 case fieldAddr t x f=>rw[h x (by simp)]
 case field t x f=>rw[h x (by simp)]
 case indexAddr t x i=>rw[h x (by simp),h i (by simp)]
 case index t x i=>rw[h x (by simp),h i (by simp)]
 case extract x i=>rw[h x (by simp)]
 case makeMap t r=>cases r<;>rfl
 case lookup t x i D=>rw[h x (by simp),h i (by simp)]
 case mapUpdate t m k x=>rw[h m (by simp),h k (by simp),h x (by simp)]
 case insert t m k x=>rw[h m (by simp),h k (by simp),h x (by simp)]
 case call c=>
  unfold Zp;have z:c.args.toList.map o=c.args.toList.map e:=zke fun x j=>h x (by simp only[Call.operands,Array.toList_append,qi];exact .inr j)
  rw[z];cases yH (c.args.toList.map e)with
  |none=>rfl
  |some xs=>
   simp only;cases A:c.callee with
   |value f=>simp only;rw[h f (by simp[Call.operands,A])]
   |invoke r m=>rfl
   |builtin b=>rfl
def kH(C:Ctx)(a:Array Oper)(o:Oper)(σ:Nat->O)(Y:Hp)(Z:Nat):Option (O×Hp×Nat):=
 if Region.wanted o (Wq a σ)=true then qb C (get σ) Y Z o.op else some (.w5 [],Y,Z)
theorem jl(a:Array Oper)(o:Oper)(st:St):jd C a o st=(kH C a o st.σ st.Y st.Z).map fun r=>⟨put st.σ o.dst r.1,r.2.1,r.2.2⟩:=by
 unfold jd kH;split
 ·cases qb C (get st.σ) st.Y st.Z o.op<;>rfl
 ·rfl
theorem Wr{a:Array Oper}{o:Oper}{σ σ':Nat->O}{Y:Hp}{Z:Nat}(h:∀t,t∈o.looksAt a->σ t=σ' t):kH C a o σ Y Z=kH C a o σ' Y Z:=by
 have c:Region.wanted o (Wq a σ)=Region.wanted o (Wq a σ'):=by
  unfold Region.wanted;split
  ·rfl
  ·rename_i j b e;have:Wq a σ j=Wq a σ' j:=by
    unfold Wq;split
    ·rename_i d hd;rw[h d (by simp[Oper.looksAt,e,hd])]
    ·rfl
   rw[this]
 unfold kH;rw[c];split
 ·refine Ax fun x i=>?_
  cases x with
  |tmp t=>simp only[get];rw[h t];simp only[Oper.looksAt,qi,List.mem_filterMap];exact .inl ⟨.tmp t,i,rfl⟩
  |const x=>rfl
  |global g=>rfl
  |func f=>rfl
 ·rfl
theorem x4{σ:Nat->O}{d:Option Tmp}{x:O}{t:Nat}(h:∀e,d=some e->e≠t):put σ d x t=σ t:=by
 cases d with
 |none=>rfl
 |some e=>exact zD _ _ _ _ fun a=>h e rfl a.symm
theorem nw{σ:Nat->O}{d e:Option Tmp}{x y:O}(h:∀k,d=some k->e≠some k):put (put σ d x) e y=put (put σ e y) d x:=by
 cases d with
 |none=>rfl
 |some k=>
  cases e with
  |none=>rfl
  |some m=>
   have a:m≠k:=fun b=>h k rfl (by rw[b])
   funext i;simp only[put,qq];by_cases c:i=m<;>by_cases f:i=k<;>simp_all
def Rb(pf:FuncId->Bool)(c:Array Oper)(a b:Oper):Bool:=
 a.apart c b&&(Zr pf a.op==0||Zr pf b.op==0||(decide (Zr pf a.op<=1)&&decide (Zr pf b.op<=1)))
theorem cy{b:Array Oper}{o:Oper}{σ:Nat->O}{Y Y':Hp}{Z Z':Nat}{x:O}(d:Zr pf o.op=0)(h:kH C b o σ Y Z=some (x,Y',Z'))(Y2:Hp)(a:Nat):kH C b o σ Y2 a=some (x,Y2,a):=by
 unfold kH at h⊢;split at h
 ·rename_i c;rw[zd c];exact zd4 d h Y2 a
 ·rename_i c;rw[ze c];injection h with h
  injection h with e _;subst e;rfl
theorem Jj(b:∀g a,pf g=true->C.Γ g=some a->WZ a){c:Array Oper}{o:Oper}{σ:Nat->O}{Y Y':Hp}{Z Z':Nat}{x:O}(d:Zr pf o.op<=1)(h:kH C c o σ Y Z=some (x,Y',Z')):Y'=Y/\Z'=Z:=by
 unfold kH at h;split at h
 ·exact Ra b d h
 ·injection h with h;injection h with _ h;injection h with e f;exact⟨e.symm,f.symm⟩
theorem Dl{c:Array Oper}{a b:Oper}(j:Zr pf a.op=0)(p:∀d,a.dst=some d->d ∉ b.looksAt c)(q:∀d,a.dst=some d->b.dst≠some d)(s:∀d,b.dst=some d->d ∉ a.looksAt c)(st:St) :
  (jd C c a st).bind (jd C c b)=(jd C c b st).bind (jd C c a):=by
 have u:∀x Y Z,kH C c b (put st.σ a.dst x) Y Z=kH C c b st.σ Y Z:=fun x Y Z=>Wr fun t k=>x4 fun e l g=>p e l (g ▸ k)
 have o:∀x Y Z,kH C c a (put st.σ b.dst x) Y Z=kH C c a st.σ Y Z:=fun x Y Z=>Wr fun t k=>x4 fun e l g=>s e l (g ▸ k)
 have i:∀x y,put (put st.σ a.dst x) b.dst y=put (put st.σ b.dst y) a.dst x:=fun x y=>nw q
 rw[jl c a st,jl c b st];cases f:kH C c a st.σ st.Y st.Z with
 |none=>
  cases m:kH C c b st.σ st.Y st.Z with
  |none=>rfl
  |some r=>
   obtain⟨y,Y2,n⟩:=r;simp only[xg,mC,zH,qc];rw[jl];simp only[o];cases v:kH C c a st.σ Y2 n with
   |none=>rfl
   |some w=>obtain⟨x,hp3,B⟩:=w;rw[cy j v st.Y st.Z]at f;cases f
 |some r=>
  obtain⟨x,Y1,n1⟩:=r;have h:=cy j f st.Y st.Z;rw[f]at h;injection h with h;injection h with _ h;injection h with z A;subst z;subst A;simp only[zH,qc];rw[jl];simp only[u];cases m:kH C c b st.σ st.Y st.Z with
  |none=>rfl
  |some r=>obtain⟨y,Y2,n⟩:=r;simp only[zH,qc];rw[jl];simp only[o,cy j f Y2 n,zH,i]
theorem M0(i:∀g f,pf g=true->C.Γ g=some f->WZ f){c:Array Oper}{a b:Oper}(h:Rb pf c a b=true)(st:St) :
  (jd C c a st).bind (jd C c b)=(jd C c b st).bind (jd C c a):=by
 simp only[Rb,zE]at h;obtain⟨o,m⟩:=h;obtain⟨p,q,s⟩:=Oper.apart_spec o;simp only[qx,jY,zE,zS]at m;rcases m with(h|h)|⟨A,w⟩
 ·exact Dl h p q s st
 ·exact(Dl h s (fun d hd B=>q d B hd) p st).symm
 ·have D:∀x Y Z,kH C c b (put st.σ a.dst x) Y Z=kH C c b st.σ Y Z:=fun x Y Z=>Wr fun t u=>x4 fun e v j=>p e v (j ▸ u)
  have z:∀x Y Z,kH C c a (put st.σ b.dst x) Y Z=kH C c a st.σ Y Z:=fun x Y Z=>Wr fun t u=>x4 fun e v j=>s e v (j ▸ u)
  have n:∀x y,put (put st.σ a.dst x) b.dst y=put (put st.σ b.dst y) a.dst x:=fun x y=>nw q
  rw[jl c a st,jl c b st];cases k:kH C c a st.σ st.Y st.Z with
  |none=>
   cases l:kH C c b st.σ st.Y st.Z with
   |none=>rfl
   |some r=>obtain⟨y,Y2,E⟩:=r;obtain⟨rfl,rfl⟩:=Jj i w l;simp only[xg,mC,zH,qc];rw[jl];simp only[z,k,xg]
  |some r=>
   obtain⟨x,Y1,n1⟩:=r;obtain⟨rfl,rfl⟩:=Jj i A k;simp only[zH,qc];rw[jl];simp only[D];cases l:kH C c b st.σ st.Y st.Z with
   |none=>rfl
   |some r=>obtain⟨y,Y2,E⟩:=r;obtain⟨rfl,rfl⟩:=Jj i w l;simp only[zH,qc];rw[jl];simp only[z,k,zH,n]
def kX(C:Ctx)(a:Array Oper):List Nat->St->Option St
 |[],st=>some st
 |i::l,st=>match a[i]? with
  |none=>kX C a l st
  |some o=>(jd C a o st).bind (kX C a l)
def ny(acc:List Nat)(o:Oper):Nat:=o.after.toList.foldl (fun s e=>if Region.binds .any e then s||| 2 ^ e.on||| acc.getD e.on 0 else s) 0
def Ay(c:Oper->Oper->Bool)(b:Array Oper):List Oper->Nat->List Nat->Bool
 |[],_,_=>true
 |o::l,i,a=>
  o.after.toList.all (fun e=>!Region.binds .any e||decide (e.on<i)) &&
  (List.range i).all (fun j=>(ny a o).testBit j||(match b[j]? with|some p=>c p o|none=>false)) &&
  Ay c b l (i+1) (a++[ny a o])
def cz(a:Array Oper)(L:Nat->Prop):Prop:=∀k o,L k->a[k]?=some o->∀e∈o.after.toList,Region.binds .any e=true->L e.on
def tI(L:Nat->Prop)(o:Oper):Prop:=∀e∈o.after.toList,Region.binds .any e=true->L e.on
theorem tJ(acc:List Nat)(j:Nat):∀(l:List Edge) (s:Nat),(l.foldl (fun s e=>if Region.binds .any e then s||| 2 ^ e.on||| acc.getD e.on 0 else s) s).testBit j=true ->
  s.testBit j=true\/∃e∈l,Region.binds .any e=true/\(j=e.on\/(acc.getD e.on 0).testBit j=true)
 |[],s,h=>.inl h
 |e::l,s,h=>by
  simp only[QF]at h;rcases tJ acc j l _ h with h1|⟨c,h1,d,f⟩
  ·split at h1
   ·rename_i a;simp only[Nat.testBit_or,qx]at h1;rcases h1 with(h1|h1)|h1
    ·exact .inl h1
    ·refine .inr ⟨e,by simp,a,.inl ?_⟩;by_cases b:j=e.on
     ·exact b
     ·rw[Nat.testBit_two_pow_of_ne (fun h=>b h.symm)]at h1;cases h1
    ·exact .inr ⟨e,by simp,a,.inr h1⟩
   ·exact .inl h1
  ·exact .inr ⟨c,by simp[h1],d,f⟩
def fZ(a:Array Oper)(b:List Nat):Prop:=∀(k m:Nat),b[k]?=some m->∀o,a[k]?=some o->∀L,cz a L->tI L o->∀j,m.testBit j=true->L j
theorem aK{a:Array Oper}{b:List Nat}(n:fZ a b){o:Oper}(L:Nat->Prop)(k:cz a L)(Y:tI L o)(p:∀e∈o.after.toList,Region.binds .any e=true->e.on<a.size)(j:Nat)(h:(ny b o).testBit j=true):L j:=by
 rcases tJ b j _ 0 h with g|⟨e,g,l,c⟩
 ·simp at g
 ·have d:=Y e g l;rcases c with rfl|c
  ·exact d
  ·cases i:b[e.on]? with
   |none=>rw[Vb,i]at c;simp at c
   |some m=>rw[Vb,i]at c;have f:=p e g l;exact n e.on m i a[e.on] (by simp[f]) L k (k e.on _ d (by simp[f])) j c
theorem iN{y:Oper->Oper->Bool}{a:Array Oper}:∀{l:List Oper} {i:Nat} {b:List Nat},Ay y a l i b=true->b.length=i->(∀k,l[k]?=a[i+k]?)->fZ a b ->
  ∀k o,l[k]?=some o->(∀e∈o.after.toList,Region.binds .any e=true->e.on<i+k)/\∀j,j<i+k->(∀L,cz a L->tI L o->L j)\/∃p,a[j]?=some p/\y p o=true
 |[],i,b,_,_,_,_,k,o,r=>by simp at r
 |o'::l,i,b,h,z,s,A,k,o,r=>by
  simp only[Ay,zE,ql,qx,Q6,zS,jK]at h;obtain⟨⟨C,D⟩,E⟩:=h;have t:a[i]?=some o':=by have:=s 0;simpa using this.symm
  have hi:i<a.size:=(zM.1 t).1;have B:∀e∈o'.after.toList,Region.binds .any e=true->e.on<i:=fun e v d=>by
   rcases C e v with h|h
   ·rw[d]at h;cases h
   ·exact h
  have u:∀L,cz a L->tI L o'->∀j,(ny b o').testBit j=true->L j:=fun L g Y j n=>aK A L g Y (fun e v d=>by have:=B e v d;omega) j n
  cases k with
  |zero=>
   simp at r;subst r;refine⟨by simpa using B,fun j n=>?_⟩;rcases D j (by simpa using n)with h|h
   ·exact .inl fun L g Y=>u L g Y j h
   ·split at h
    ·rename_i p Y;exact .inr ⟨p,Y,h⟩
    ·cases h
  |succ k=>
   have w:fZ a (b++[ny b o']):=by
    intro q m f F c L g Y j n;by_cases x:q<b.length
    ·rw[qh x]at f;exact A q m f F c L g Y j n
    ·rw[zY (by omega)]at f;have:q=i:=by have:=(zk.1 f).1;simp at this;omega
     subst this;rw[z]at f;simp at f;subst f;rw[t]at c;injection c with c
     subst c;exact u L g Y j n
   have:=iN E (by simp[z]) (fun q=>by have:=s (q+1);simpa[na,Q5 1 q]using this) w k o (by simpa using r);rwa [show i+1+k=i+(k+1)from by omega]at this
def nz(b:Oper->Oper->Bool)(a:Array Oper):Bool:=Ay b a a.toList 0 []
theorem iO{b:Oper->Oper->Bool}{a:Array Oper}(h:nz b a=true):∀i o,a[i]?=some o->(∀e∈o.after.toList,Region.binds .any e=true->e.on<i)/\∀j,j<i->(∀L,cz a L->tI L o->L j)\/∃p,a[j]?=some p/\b p o=true:=by intro i o c;have:=iN h rfl (by simp) (fun k m d=>by simp at d) i o (by simpa using c);simpa using this
structure CV (C:Ctx) (ops:Array Oper) (cm:Oper->Oper->Bool) (A:St->Prop):Prop where
 keep:∀(i:Nat) (o:Oper) (st st':St),ops[i]?=some o->A st->jd C ops o st=some st'->A st'
 comm:∀(i j:Nat) (a b:Oper) (st st':St),ops[i]?=some a->ops[j]?=some b->cm a b=true->A st->(jd C ops a st).bind (jd C ops b)=some st'->(jd C ops b st).bind (jd C ops a)=some st'
theorem bS{a:Array Oper}{q:Oper->Oper->Bool}{A:St->Prop}(g:CV C a q A){i:Nat}{o:Oper}(e:a[i]?=some o)(b:List Nat):∀(pre:List Nat) (st r:St),A st->(∀j∈pre,∃p,a[j]?=some p/\q p o=true) ->
  kX C a (pre++i::b) st=some r->kX C a (i::(pre++b)) st=some r
 |[],st,r,_,_,h=>h
 |j::pre,st,r,s,h,c=>by
  obtain⟨p,Y,l⟩:=h j (by simp);simp only[wB,kX,Y]at c;cases hs:jd C a p st with
  |none=>rw[hs]at c;cases c
  |some st1=>
   rw[hs,qc]at c;have d:=bS g e b pre st1 r (g.keep j p st st1 Y s hs) (fun k u=>h k (by simp[u])) c;simp only[kX,e]at d;cases m:jd C a o st1 with
   |none=>rw[m]at d;cases d
   |some n=>
    rw[m,qc]at d;have f:=g.comm j i p o st n Y e l s (by rw[hs,qc];exact m);simp only[kX,e,wB,Y];cases t:jd C a o st with
    |none=>rw[t]at f;cases f
    |some v=>rw[t,qc]at f;rw[qc,f,qc];exact d
def WM(a:AM.Spec):Prop:=∀args Y Z r Y' Z',a args Y Z=some (r,Y',Z')->Z<=Z'/\∀id blk,id<Z->Y id=some blk->blk.arr=false->Y' id=some blk
def Dm(L:List Tmp):Op->Bool
 | .load _ (.tmp a)=>L.contains a
 | .indexAddr _ (.tmp a) _=>L.contains a
 |_=>false
def ixB(L:List Tmp):Op->Bool
 | .indexAddr _ (.tmp a) _=>L.contains a
 |_=>false
def nA(a:FuncId->Bool):Op->Bool
 | .call ⟨.value (.func g),_,_⟩=>a g
 | .call ⟨.builtin .append,_,_⟩=>true
 | .buildSlice _ _ _=>true
 | .alloc _=>true
 |_=>false
def zd5:Op->Bool
 | .store _ _ _=>true
 |_=>false
def nB(D:List (Tmp×Tmp)):Op->Op->Bool
 | .load _ (.tmp a),.store _ (.tmp b) _=>D.contains (a,b)
 |_,_=>false
def Hk(D:List (Tmp×Tmp))(L:List Tmp)(a:FuncId->Bool)(p o:Op):Bool:=nB D p o||(Dm L p&&nA a o)||(ixB L p&&zd5 o)
def zc7(D:List (Tmp×Tmp))(L:List Tmp)(b:FuncId->Bool)(a:Array Oper)(p o:Oper):Bool:=
 p.apart a o&&o.apart a p&&p.guard.isNone&&o.guard.isNone&&(Hk D L b p.op o.op||Hk D L b o.op p.op)
def M1(L:List Tmp):Bool:=L.any fun s=>decide (zB<=s)
def LD(pf:FuncId->Bool)(D:List (Tmp×Tmp))(L:List Tmp)(b:FuncId->Bool)(a:Array Oper)(p o:Oper):Bool:=Rb pf a p o||zc7 D L b a p o
def Az(pf:FuncId->Bool)(D:List (Tmp×Tmp))(L:List Tmp)(a:FuncId->Bool)(ops:Array Oper):Bool:=(D.isEmpty&&L.isEmpty)||ops.all fun o=>D.all (fun p=>o.dst != some p.2&&(o.dst != some p.1||match o.op with
    | .fieldAddr _ (.tmp s) _=>D.contains (s,p.2)
    | .indexAddr _ (.tmp s) _=>D.contains (s,p.2)&&L.contains s
    | .move (.tmp s)=>D.contains (s,p.2)
    | .nilCheck (.tmp s)=>D.contains (s,p.2)
    |_=>false)) &&
 L.all (fun s=>o.dst != some s||match o.op with
  | .fieldAddr _ (.tmp b) _=>L.contains b
  | .indexAddr _ (.tmp b) _=>L.contains b
  |_=>false) &&
 (decide (Zr pf o.op<=1)||match o.op with
  | .store _ _ _=>true
  | .call ⟨.value (.func g),_,_⟩=>D.all (fun p=>L.contains p.2)&&a g
  | .call ⟨.builtin .append,_,_⟩=>D.all (fun p=>L.contains p.2)
  | .buildSlice _ _ _=>D.all (fun p=>L.contains p.2)
  | .alloc _=>D.all (fun p=>L.contains p.2)
  |_=>false)
def AA(pf:FuncId->Bool)(D:List (Tmp×Tmp))(L:List Tmp)(b:FuncId->Bool)(a:Array Oper):Bool:=!M1 L&&Az pf D L b a
end
section
variable{C:Ctx}{pf:FuncId->Bool}
theorem XB{Y Y1:Hp}{x y:O}(h:wI Y x=some (y,Y1)){id:Nat}{b:Blk}(c:Y id=some b)(e:b.arr=false):Y1 id=some b:=by
 unfold wI at h;split at h
 ·split at h
  ·rename_i f a;split at h
   ·rename_i d;injection h with h
    injection h with _ h;subst h;rw[zD]
    ·exact c
    ·rintro rfl;rw[c]at a;injection a with a;subst a;rw[e]at d;cases d.1
   ·cases h
  ·cases h
 all_goals first
  |(injection h with h;injection h with _ h;subst h;exact c)
  |(split at h<;>first|(injection h with h;injection h with _ h;subst h;exact c)|cases h)
  |cases h
theorem V9:∀{xs ys:zb} {Y Y1:Hp},wJ Y xs=some (ys,Y1)->∀{id:Nat} {b:Blk},Y id=some b->b.arr=false->Y1 id=some b
 |[],ys,Y,Y1,h,id,b,a,c=>by simp only[wJ]at h;injection h with h;injection h with _ h;subst h;exact a
 |x::l,ys,Y,Y1,h,id,b,a,c=>by
  simp only[wJ]at h;split at h
  ·rename_i y Y2 d;split at h
   ·rename_i r hp3 e;injection h with h;injection h with _ h;subst h
    exact V9 e (XB d a c) c
   ·cases h
  ·cases h
theorem Kh{Y Y1:Hp}{x y:O}(h:qt Y x=some (y,Y1)){id:Nat}{b:Blk}(a:Y id=some b)(c:b.arr=false):Y1 id=some b:=by
 unfold qt at h;split at h
 ·split at h
  ·rename_i l e d;injection h with h;injection h with _ h;subst h
   exact V9 d a c
  ·cases h
 ·exact XB h a c
theorem M3{P:Program}{Y Y':Hp}{t:TypeId}{p x:O}(h:Qj P Y t p x=some Y'){id:Nat}{b:Blk}(e:Y id=some b)(d:b.arr=false):∃f,Y' id=some f/\f.arr=false:=by
 unfold Qj at h;split at h
 ·rename_i id' i j;split at h
  ·rename_i m l;split at h
   ·rename_i y Y1 c;have g:Y1 id=some b:=by
     split at c
     ·exact Kh c e d
     ·injection c with c;injection c with _ c;subst c;exact e
    split at h
    ·rename_i o n a _;split at h
     ·split at h
      ·injection h with h;subst h;by_cases k:id=id'
       ·subst k;rw[g]at a;injection a with a
        subst a;exact⟨_,wU _ _ _,d⟩
       ·exact⟨b,by rw[zD _ _ _ _ k];exact g,d⟩
      ·cases h
     ·cases h
    ·cases h
   ·cases h
  ·cases h
 ·cases h
theorem Hj{P:Program}{Y Y':Hp}{t:TypeId}{id i j:Nat}{x:O}{b:Blk}(h:Qj P Y t (.ref id i j) x=some Y')(a:Y id=some b)(c:b.arr=false){k:Nat}(d:k≠id):Y' k=Y k:=by
 simp only[Qj,a,c]at h;simp only[zP,wF]at h;split at h
 ·split at h
  ·split at h
   ·injection h with h;subst h;exact zD _ _ _ _ d
   ·cases h
  ·cases h
 ·cases h
theorem dQ{a:Array Oper}{l c:Oper}(m:l.apart a c=true){st:St}(n:∀Y Z y Y' Z',kH C a l st.σ Y Z=some (y,Y',Z')->Y'=Y/\Z'=Z)
  (d:∀z Y' Z',kH C a c st.σ st.Y st.Z=some (z,Y',Z')->(kH C a l st.σ Y' Z').map (·.1)=(kH C a l st.σ st.Y st.Z).map (·.1)) :
  (jd C a l st).bind (jd C a c)=(jd C a c st).bind (jd C a l):=by
 obtain⟨x,A,B⟩:=Oper.apart_spec m;have cs:∀y Y Z,kH C a c (put st.σ l.dst y) Y Z=kH C a c st.σ Y Z:=fun y Y Z=>Wr fun u o=>x4 fun e p f=>x e p (f ▸ o)
 have v:∀y Y Z,kH C a l (put st.σ c.dst y) Y Z=kH C a l st.σ Y Z:=fun y Y Z=>Wr fun u o=>x4 fun e p f=>B e p (f ▸ o)
 have g:∀y z,put (put st.σ l.dst y) c.dst z=put (put st.σ c.dst z) l.dst y:=fun y z=>nw A
 rw[jl a l st,jl a c st];cases s:kH C a c st.σ st.Y st.Z with
 |none=>
  cases h:kH C a l st.σ st.Y st.Z with
  |none=>rfl
  |some q=>obtain⟨y,Y1,t⟩:=q;obtain⟨rfl,rfl⟩:=n _ _ _ _ _ h;simp only[zH,xg,qc,mC];rw[jl];simp only[cs,s,xg]
 |some q=>
  obtain⟨z,Y',Z'⟩:=q;have b:=d z Y' Z' s;cases h:kH C a l st.σ st.Y st.Z with
  |none=>
   rw[h]at b;have D:kH C a l st.σ Y' Z'=none:=by
    cases j:kH C a l st.σ Y' Z' with
    |none=>rfl
    |some r=>rw[j]at b;cases b
   simp only[zH,xg,qc,mC];rw[jl];simp only[v,D,xg]
  |some q=>
   obtain⟨y,Y1,t⟩:=q;obtain⟨rfl,rfl⟩:=n _ _ _ _ _ h;rw[h]at b;obtain⟨k,i,w⟩:∃k,kH C a l st.σ Y' Z'=some k/\k.1=y:=by
    cases j:kH C a l st.σ Y' Z' with
    |none=>rw[j]at b;cases b
    |some r=>rw[j]at b;injection b with b;exact⟨r,rfl,b⟩
   obtain⟨F,Y2,E⟩:=k;simp only at w;subst w;obtain⟨rfl,rfl⟩:=n _ _ _ _ _ i;simp only[zH,qc];rw[jl,jl];simp only[cs,s,v,i,zH,g]
theorem kE{a:Array Oper}{o:Oper}(g:o.guard=none)(σ:Nat->O)(Y:Hp)(Z:Nat):kH C a o σ Y Z=qb C (get σ) Y Z o.op:=by
 have w:Region.wanted o (Wq a σ)=true:=by unfold Region.wanted;rw[g]
 simp only[kH,w,qV]
theorem Ki{P:Program}{Y Y':Hp}{t:TypeId}{p:O}(a:∀id o n,p≠.own id o n)(q:O):qW P Y' t p q=qW P Y t p q:=by
 cases q with
 |v y=>
  cases y with
  |int w i=>
   cases p with
   |own id o n=>exact absurd rfl (a id o n)
   |_=>
    simp only[qW];cases yp P t with
    |none=>rfl
    |some e=>simp only;cases qE P e<;>rfl
  |_=>simp only[qW]
 |_=>simp only[qW]
theorem M4{L:List Tmp}{op:Op}(b:Dm L op=true){st:St}(f:QH L st){Y':Hp}{Z Z':Nat}(h:∀id blk,id<st.Z->st.Y id=some blk->blk.arr=false->Y' id=some blk) :
  (qb C (get st.σ) Y' Z' op).map (·.1)=(qb C (get st.σ) st.Y Z op).map (·.1):=by
 unfold Dm at b;split at b
 ·rename_i t a;obtain⟨⟨c,d⟩,_⟩:=f a (by simpa using b);have:Ze C.P Y' t (st.σ a)=Ze C.P st.Y t (st.σ a):=by
   cases e:st.σ a with
   |ref id i j=>obtain⟨k,blk,g,l⟩:=d id i j e;simp only[Ze,h id blk k g l,g]
   |_=>rfl
  simp only[qb,get,this];cases Ze C.P st.Y t (st.σ a)<;>rfl
 ·rename_i t a i;obtain⟨⟨c,d⟩,_⟩:=f a (by simpa using b);have:∀q,qW C.P Y' t (st.σ a) q=qW C.P st.Y t (st.σ a) q:=by exact fun q=>Ki c q
  simp only[qb,show get st.σ (.tmp a)=some (st.σ a)from rfl];cases get st.σ i with
  |none=>rfl
  |some q=>simp only[this];cases qW C.P st.Y t (st.σ a) q<;>rfl
 ·cases b
theorem cA{op:Op}{σ:Nat->O}{Y Y':Hp}{Z Z':Nat}{y:O}(b:(∃t a,op=.load t (.tmp a))\/∃t a i,op=.indexAddr t (.tmp a) i)(h:qb C (get σ) Y Z op=some (y,Y',Z')):Y'=Y/\Z'=Z:=by
 rcases b with⟨t,a,rfl⟩|⟨t,a,i,rfl⟩
 ·simp only[qb,get]at h;exact(Vo h).2
 ·simp only[qb,get]at h;split at h
  ·exact(Vo h).2
  ·cases h
theorem Re{L:List Tmp}{op:Op}(h:Dm L op=true):(∃t a,op=.load t (.tmp a))\/∃t a i,op=.indexAddr t (.tmp a) i:=by
 unfold Dm at h;split at h
 ·exact .inl ⟨_,_,rfl⟩
 ·exact .inr ⟨_,_,_,rfl⟩
 ·cases h
theorem Xa:∀{e a:List (Nat×O)} {Y Y1:Hp},zr Y e=some (a,Y1)->∀{id:Nat} {b:Blk},Y id=some b->b.arr=false->Y1 id=some b
 |[],a,Y,Y1,h,id,b,c,d=>by simp only[zr]at h;injection h with h;injection h with _ h;subst h;exact c
 |(i,x)::l,a,Y,Y1,h,id,b,c,d=>by
  simp only[zr]at h;split at h
  ·rename_i y Y2 f;split at h
   ·rename_i r hp3 g;injection h with h;injection h with _ h;subst h
    exact Xa g (Kh f c d) d
   ·cases h
  ·cases h
theorem Dn{P:Program}{Y Y':Hp}{Z Z':Nat}{t u:TypeId}{s x y:O}(h:jb P Y Z t u s x=some (y,Y',Z')):Z<=Z'/\∀id blk,id<Z->Y id=some blk->blk.arr=false->Y' id=some blk:=by
 unfold jb at h;split at h
 ·split at h
  ·split at h
   ·split at h
    ·split at h
     ·split at h
      ·injection h with h;injection h with _ h;injection h with d f;subst d;subst f;exact⟨zl _,fun _ _ _ c _=>c⟩
      ·injection h with h;injection h with _ h;injection h with d f;subst d;subst f;exact⟨by omega,fun id blk hid c _=>by rw[zD _ _ _ _ (by omega)];exact c⟩
     ·cases h
    ·split at h
     ·rename_i b a;split at h
      ·rename_i g;injection h with h;injection h with _ h;injection h with d f
       subst d;subst f;refine⟨by omega,fun id blk hid c i=>?_⟩;rw[zD _ _ _ _ (by omega),zD _ _ _ _ (fun e=>by
        subst e;rw[c]at a;injection a with a
        subst a;rw[i]at g;cases g.1)]
       exact c
      ·cases h
     ·cases h
    ·cases h
   ·cases h
  ·cases h
 ·cases h
theorem gb{t:TypeId}{σ:Nat->O}{Y Y':Hp}{Z Z':Nat}{z:O}(h:qb C (get σ) Y Z (.alloc t)=some (z,Y',Z')):∃b,Y'=qq Y Z b/\Z'=Z+1:=by
 simp only[qb]at h;split at h
 ·split at h
  ·injection h with h;injection h with _ h;injection h with a c;exact⟨_,a.symm,c.symm⟩
  ·cases h
 ·cases h
theorem nC{k:FuncId->Bool}(c:∀g a,k g=true->C.Γ g=some a->WM a){op:Op}(b:nA k op=true){σ:Nat->O}{Y Y':Hp}{Z Z':Nat}{z:O}(h:qb C (get σ) Y Z op=some (z,Y',Z')) :
  Z<=Z'/\∀id blk,id<Z->Y id=some blk->blk.arr=false->Y' id=some blk:=by
 unfold nA at b;split at b
 ·rename_i g l ts;simp only[qb,Zp]at h;split at h
  ·simp only[get,kg]at h;split at h
   ·rename_i a hs;exact c g a b hs _ _ _ _ _ _ h
   ·cases h
  ·cases h
 ·rename_i l ts;simp only[qb,Zp]at h;split at h
  ·simp only[yQ]at h;split at h
   ·exact Dn h
   ·cases h
  ·cases h
 ·rename_i t len d;simp only[qb]at h;split at h
  ·rename_i p m;unfold zt at h;split at h
   ·split at h
    ·rename_i n q r Y1 _ _ e;split at h
     ·split at h
      ·injection h with h;injection h with _ h;injection h with f i;subst f;subst i;refine⟨by omega,fun id blk hid j o=>?_⟩;rw[zD _ _ _ _ (by omega)];exact Xa e j o
      ·cases h
     ·cases h
    ·cases h
   ·cases h
  ·cases h
 ·rename_i t;obtain⟨s,f,i⟩:=gb h;subst f;subst i;refine⟨by omega,fun id blk hid j _=>?_⟩;rw[zD _ _ _ _ (by omega)];exact j
 ·cases b
theorem tK{G:FuncId->Bool}(w:∀g m,G g=true->C.Γ g=some m->WM m){D:List (Tmp×Tmp)}{L:List Tmp}{d:Array Oper}{l c:Oper}(H:Hk D L G l.op c.op=true)(e:l.guard=none)(I:c.guard=none)(n:l.apart d c=true){st:St}(M:Yr D st)(J:QH L st) :
  (jd C d l st).bind (jd C d c)=(jd C d c st).bind (jd C d l):=by
 simp only[Hk,qx,zE]at H;rcases H with(f|⟨r,A⟩)|⟨k,N⟩
 ·unfold nB at f;split at f
  ·rename_i t a t' b x s Q;refine dQ n (fun Y Z y Y' Z' h=>?_) (fun z Y' Z' h=>?_)
   ·rw[kE e,s]at h;exact cA (.inl ⟨_,_,rfl⟩) h
   ·rw[kE I,Q]at h;rw[kE e,kE e,s];simp only[qb,get]at h;have o:Ze C.P Y' t (st.σ a)=Ze C.P st.Y t (st.σ a):=by
     cases B:st.σ a with
     |ref id i j=>
      obtain⟨id',i',j',blk,R,E,S,u⟩:=M (a,b) (by simpa using f) id i j B;rw[R]at h;split at h
      ·rename_i p q K T;simp only[qa]at K;subst K;obtain⟨W,U,v⟩:=z7 h;injection v with _ v
       injection v with v _;subst v;simp only[Ze,Hj U S u E]
      ·cases h
     |_=>rfl
    simp only[qb,get,o];cases Ze C.P st.Y t (st.σ a)<;>rfl
  ·cases f
 ·refine dQ n (fun Y Z y Y' Z' h=>?_) (fun z Y' Z' h=>?_)
  ·rw[kE e]at h;exact cA (Re r) h
  ·rw[kE I]at h;rw[kE e,kE e];exact M4 r J (nC w A h).2
 ·unfold ixB at k;split at k
  ·rename_i t a i s;refine dQ n (fun Y Z y Y' Z' h=>?_) (fun z Y' Z' h=>?_)
   ·rw[kE e,s]at h;exact cA (.inr ⟨_,_,_,rfl⟩) h
   ·rw[kE e,kE e,s];obtain⟨⟨F,_⟩,_⟩:=J a (by simpa using k);have:∀q,qW C.P Y' t (st.σ a) q=qW C.P st.Y t (st.σ a) q:=by exact fun q=>Ki F q
    simp only[qb,show get st.σ (.tmp a)=some (st.σ a)from rfl];cases get st.σ i with
    |none=>rfl
    |some q=>simp only[this];cases qW C.P st.Y t (st.σ a) q<;>rfl
  ·cases k
theorem XC{P:Program}{t:TypeId}{f:Nat}{p:O}{id i j:Nat}(h:jv P t f p=some (.ref id i j)):∃a b,p=.ref id a b:=by
 unfold jv at h;split at h
 ·split at h
  ·split at h
   ·cases h
   ·injection h with h;cases h
  ·cases h
 ·split at h
  ·split at h
   ·cases h
   ·injection h with h;injection h with c _ _;subst c;exact⟨_,_,rfl⟩
  ·cases h
 ·cases h
theorem nD{P:Program}{t:TypeId}{f:Nat}{p:O}{id o n:Nat}(h:jv P t f p=some (.own id o n)):False:=by
 unfold jv at h;split at h
 ·split at h
  ·split at h
   ·cases h
   ·injection h with h;cases h
  ·cases h
 ·split at h
  ·split at h
   ·cases h
   ·injection h with h;cases h
  ·cases h
 ·cases h
theorem XD{P:Program}{Y:Hp}{t:TypeId}{p q:O}{id i j:Nat}(h:qW P Y t p q=some (.ref id i j))(a:∀id o n,p≠.own id o n):∃b c,p=.ref id b c:=by
 unfold qW at h;split at h
 ·split at h
  ·split at h
   ·split at h
    ·obtain⟨z,_,e⟩:=z7 h;cases e
    ·cases h
   ·exact absurd rfl (a _ _ _)
   ·cases h
  ·unfold ZH at h;split at h
   ·split at h
    ·split at h
     ·split at h
      ·injection h with h;cases h
      ·injection h with h;injection h with d _ _;subst d;exact⟨_,_,rfl⟩
      ·cases h
     ·cases h
    ·cases h
   ·cases h
 ·cases h
theorem nE{P:Program}{Y:Hp}{t:TypeId}{p q:O}{id o n:Nat}(h:qW P Y t p q=some (.own id o n)):False:=by
 unfold qW at h;split at h
 ·split at h
  ·split at h
   ·split at h
    ·obtain⟨z,_,e⟩:=z7 h;cases e
    ·cases h
   ·split at h
    ·split at h
     ·injection h with h;cases h
     ·cases h
    ·cases h
   ·cases h
  ·unfold ZH at h;split at h
   ·split at h
    ·split at h
     ·split at h
      ·injection h with h;cases h
      ·injection h with h;cases h
      ·cases h
     ·cases h
    ·cases h
   ·cases h
 ·cases h
def cC(Y:Hp)(Z:Nat):Prop:=∀id b,Y id=some b->id<Z
def AskA(D:List (Tmp×Tmp))(L:List Tmp)(st:St):Prop:=(Yr D st/\QH L st)/\(M1 L=true->cC st.Y st.Z)
theorem Hm(W:∀g l,pf g=true->C.Γ g=some l->WZ l){X:FuncId->Bool}(hbk:∀g l,X g=true->C.Γ g=some l->WM l){D:List (Tmp×Tmp)}{L:List Tmp}{I:Array Oper}(hpl:Az pf D L X I=true){i:Nat}{o:Oper}{st J:St}(ho:I[i]?=some o)(B:Yr D st/\zc5 L st)(hs:jd C I o st=some J):Yr D J/\zc5 L J:=by
  simp only[Az,qx,zE]at hpl;rcases hpl with⟨hD,hL⟩|hpl
  ·have hD:D=[]:=by simpa using hD
   have hL:L=[]:=by simpa using hL
   subst hD;subst hL;exact⟨(fun p Y=>(by cases Y)),(fun s hs=>(by cases hs))⟩
  have h0:=bM.1 hpl o (Array.mem_of_getElem? ho);simp only[zE,qx,zS]at h0;obtain⟨⟨hd,hld⟩,hk⟩:=h0;rw[jl]at hs;obtain⟨r,a,Db⟩:=z7 hs;obtain⟨y,Y1,Q⟩:=r;subst Db;have A:(∀id blk,st.Y id=some blk->blk.arr=false->D.all (fun p=>L.contains p.2)=false\/id<st.Z->∃K,Y1 id=some K/\K.arr=false)/\st.Z<=Q:=by
   have k:∀{op:Op},o.op=op->nA X op=true->D.all (fun p=>L.contains p.2)=true->(∀id blk,st.Y id=some blk->blk.arr=false->D.all (fun p=>L.contains p.2)=false\/id<st.Z->∃K,Y1 id=some K/\K.arr=false)/\st.Z<=Q:=by
    intro op c hf M;unfold kH at a;split at a
    ·rw[c]at a;obtain⟨h,d⟩:=nC hbk hf a;refine⟨fun id blk v w h3=>?_,h⟩;rcases h3 with h3|h3
     ·rw[M]at h3;cases h3
     ·exact⟨blk,d id blk h3 v w,w⟩
    ·injection a with a;injection a with _ a;injection a with h d;subst h;subst d;exact⟨fun id blk v w _=>⟨blk,v,w⟩,zl _⟩
   rcases hk with hk|hk
   ·obtain⟨rfl,rfl⟩:=Jj W hk a;exact⟨fun id blk v w _=>⟨blk,v,w⟩,zl _⟩
   ·split at hk
    ·rename_i t q x c;unfold kH at a;split at a
     ·rw[c]at a;simp only[qb]at a;split at a
      ·obtain⟨w,h,d⟩:=z7 a;injection d with _ d;injection d with d E;subst d;subst E;exact⟨fun id blk v w _=>M3 h v w,zl _⟩
      ·cases a
     ·injection a with a;injection a with _ a;injection a with h d;subst h;subst d;exact⟨fun id blk v w _=>⟨blk,v,w⟩,zl _⟩
    ·rename_i g aZ ts c;simp only[zE]at hk;exact k c (by simpa[nA]using hk.2) hk.1
    ·rename_i aZ ts c;exact k c rfl hk
    ·rename_i t n ps c;exact k c rfl hk
    ·rename_i t c;exact k c rfl hk
    ·cases hk
  refine⟨fun p Y=>?_,fun s R=>?_⟩
  rotate_left
  ·have hl:=ql.1 hld s R;simp only[qx,bne_iff_ne]at hl;have H:(∀id o' n,put st.σ o.dst y s≠.own id o' n)/\∀id i' j',put st.σ o.dst y s=.ref id i' j'->id<st.Z/\∃blk,st.Y id=some blk/\blk.arr=false:=by
    by_cases m:o.dst=some s
    ·have u:put st.σ o.dst y s=y:=by rw[m];exact wU _ _ _
     rw[u];rcases hl with hl|hl
     ·exact absurd m hl
     ·split at hl
      ·rename_i t b f c;obtain⟨F,G⟩:=B.2 b (by simpa using hl);unfold kH at a;split at a
       ·rw[c]at a;simp only[qb,get]at a;obtain⟨z,h,d⟩:=z7 a;injection d with d _
        subst d;refine⟨fun id o' n e=>?_,fun id i' j' e=>?_⟩
        ·subst e;exact nD h
        ·subst e;obtain⟨i0,j0,E⟩:=XC h;exact G _ _ _ E
       ·injection a with a;injection a with a _;subst a;exact⟨(fun _ _ _ e=>by cases e),(fun _ _ _ e=>by cases e)⟩
      ·rename_i t b ix c;obtain⟨F,G⟩:=B.2 b (by simpa using hl);unfold kH at a;split at a
       ·rw[c]at a;simp only[qb,get]at a;split at a
        ·rename_i p0 q0 S hq0;simp only[qa]at S;subst S;obtain⟨z,h,d⟩:=z7 a;injection d with d _
         subst d;refine⟨fun id o' n e=>?_,fun id i' j' e=>?_⟩
         ·subst e;exact nE h
         ·subst e;obtain⟨i0,j0,E⟩:=XD h F;exact G _ _ _ E
        ·cases a
       ·injection a with a;injection a with a _;subst a;exact⟨(fun _ _ _ e=>by cases e),(fun _ _ _ e=>by cases e)⟩
      ·cases hl
    ·have u:put st.σ o.dst y s=st.σ s:=x4 (fun e T=>by rintro rfl;exact m T);rw[u];exact B.2 s R
   refine⟨H.1,fun id i' j' e=>?_⟩;obtain⟨v,blk,w,h3⟩:=H.2 id i' j' e;exact⟨ja v A.2,A.1 id blk w h3 (.inr v)⟩
  ·have hd:=ql.1 hd p Y;simp only[zE,qx,bne_iff_ne]at hd;obtain⟨hd2,hd1⟩:=hd;have hpb:put st.σ o.dst y p.2=st.σ p.2:=x4 (fun e T=>by rintro rfl;exact hd2 T);have N:∀id i j,put st.σ o.dst y p.1=.ref id i j->∃id' i' j' blk,st.σ p.2=.ref id' i' j'/\id≠id'/\st.Y id'=some blk/\blk.arr=false:=by
    intro id i j e;by_cases m:o.dst=some p.1
    ·have u:put st.σ o.dst y p.1=y:=by rw[m];exact wU _ _ _
     rw[u]at e;subst e;rcases hd1 with hd1|hd1
     ·exact absurd m hd1
     ·split at hd1
      ·rename_i t b f c;unfold kH at a;split at a
       ·rw[c]at a;simp only[qb,get]at a;obtain⟨z,h,d⟩:=z7 a;injection d with d _
        subst d;obtain⟨i0,j0,E⟩:=XC h;exact B.1 (b,p.2) (by simpa using hd1) _ _ _ E
       ·injection a with a;injection a with a _;cases a
      ·rename_i t b ix c;simp only[zE]at hd1;obtain⟨F,G⟩:=B.2 b (by simpa using hd1.2);unfold kH at a;split at a
       ·rw[c]at a;simp only[qb,get]at a;split at a
        ·rename_i p0 q0 S hq0;simp only[qa]at S;subst S;obtain⟨z,h,d⟩:=z7 a;injection d with d _
         subst d;obtain⟨i0,j0,E⟩:=XD h F;exact B.1 (b,p.2) (by simpa using hd1.1) _ _ _ E
        ·cases a
       ·injection a with a;injection a with a _;cases a
      ·rename_i b c;unfold kH at a;split at a
       ·rw[c]at a;simp only[qb,get]at a;obtain⟨z,h,d⟩:=z7 a;injection d with d _
        subst d;injection h with h
        exact B.1 (b,p.2) (by simpa using hd1) _ _ _ h
       ·injection a with a;injection a with a _;cases a
      ·rename_i b c;unfold kH at a;split at a
       ·rw[c]at a;simp only[qb,get]at a;split at a
        ·rename_i h;injection a with a
         injection a with a _;injection a with v w h3;subst v;injection h with h;exact B.1 (b,p.2) (by simpa using hd1) _ _ _ h
        all_goals first
         |cases a
         |(injection a with a;injection a with a _;cases a)
       ·injection a with a;injection a with a _;cases a
      ·cases hd1
    ·have u:put st.σ o.dst y p.1=st.σ p.1:=x4 (fun e T=>by rintro rfl;exact m T);rw[u]at e;exact B.1 p Y id i j e
   intro id i j e;obtain⟨id',i',j',blk,eb,hne,hbl,U⟩:=N id i j e;have P:D.all (fun p=>L.contains p.2)=false\/id'<st.Z:=by
    cases M:D.all (fun p=>L.contains p.2)
    ·exact .inl rfl
    ·refine .inr ?_;have:=ql.1 M p Y;exact((B.2 p.2 (by simpa using this)).2 id' i' j' eb).1
   obtain⟨K,hb1,hb2⟩:=A.1 id' blk hbl U P;exact⟨id',i',j',K,by show put st.σ o.dst y p.2=_;rw[hpb];exact eb,hne,hb1,hb2⟩
theorem Rj(l:∀g c,pf g=true->C.Γ g=some c->WZ c){p:FuncId->Bool}(f:∀g c,p g=true->C.Γ g=some c->WM c){D:List (Tmp×Tmp)}{L:List Tmp}{h:Array Oper}(d:AA pf D L p h=true):CV C h (LD pf D L p h) (AskA D L):=by
 simp only[AA,zE]at d;obtain⟨w,d⟩:=d;refine⟨fun i o st q x k hs=>?_,fun i j a b st q B E hcm k hs=>?_⟩
 ·obtain⟨y,z⟩:=Hm l f d x ⟨k.1.1,fun s hs=>(k.1.2 s hs).1⟩ hs;have t:M1 L=false:=by simpa using w
  refine⟨⟨y,fun s m=>⟨z s m,fun A=>?_⟩⟩,fun e=>by rw[t]at e;cases e⟩;have:=List.any_eq_false.1 t s m;simp at this;omega
 ·simp only[LD,qx]at hcm;rcases hcm with hcm|hcm
  ·rw[<-M0 l hcm st];exact hs
  ·simp only[zc7,zE,qx,Option.isNone_iff_eq_none]at hcm;obtain⟨⟨⟨⟨r,n⟩,u⟩,v⟩,hm⟩:=hcm;rcases hm with hm|hm
   ·rw[<-tK f hm u v r k.1.1 k.1.2];exact hs
   ·rw[tK f hm v u n k.1.1 k.1.2];exact hs
end
def ZX(C:Ctx)(code:Code)(st:St)(K:Exit->St->Prop):Prop:=∃e a,wA C code st=some (e,a)/\K e a
def tL(C:Ctx)(b:Array Oper)(l:List Oper)(st:St)(K:St->Prop):Prop:=∃a,xS C b l st=some a/\K a
def JS{α:Type}(o:Option α)(K:α->Prop):Prop:=∃x,o=some x/\K x
theorem Dr{α:Type}{o o':Option α}(K:α->Prop)(h:o=o'):JS o K=JS o' K:=by rw[h]
theorem Hn{α:Type}(x:α)(K:α->Prop):JS (some x) K=K x:=by simp[JS]
def iP(C:Ctx)(o:Option O)(x y:Code)(st:St)(K:Exit->St->Prop):Prop:=(o=some (.v (.bool true))/\ZX C x st K)\/(o=some (.v (.bool false))/\ZX C y st K)
theorem Dt{C:Ctx}{o o':Option O}{x y:Code}{st:St}{K:Exit->St->Prop}(h:o=o'):iP C o x y st K=iP C o' x y st K:=by rw[h]
theorem Ho(C:Ctx)(x y:Code)(st:St)(K:Exit->St->Prop):iP C (some (.v (.bool true))) x y st K=ZX C x st K:=by simp[iP]
theorem Du(C:Ctx)(x y:Code)(st:St)(K:Exit->St->Prop):iP C (some (.v (.bool false))) x y st K=ZX C y st K:=by simp[iP]
def nM(C:Ctx)(b:Code)(K:Exit->St->Prop)(e:Exit)(st:St):Prop:=match e with
 | .normal=>ZX C b st K
 |e=>K e st
def Yt(id:Nat)(K:Exit->St->Prop)(e:Exit)(st:St):Prop:=match e with
 | .exit i=>if i=id then K .normal st else K (.exit i) st
 |e=>K e st
def Wf(K:Exit->St->Prop)(st:St):Prop:=K .normal st
theorem AE(C:Ctx)(b:Code)(K:Exit->St->Prop)(st:St):nM C b K .normal st=ZX C b st K:=rfl
theorem Nd(C:Ctx)(b:Code)(K:Exit->St->Prop)(st:St):nM C b K .ret st=K .ret st:=rfl
theorem Hq(C:Ctx)(b:Code)(K:Exit->St->Prop)(i:Nat)(st:St):nM C b K (.exit i) st=K (.exit i) st:=rfl
theorem vj(id:Nat)(K:Exit->St->Prop)(st:St):Yt id K .normal st=K .normal st:=rfl
theorem Hr(id:Nat)(K:Exit->St->Prop)(st:St):Yt id K .ret st=K .ret st:=rfl
theorem gd(id:Nat)(K:Exit->St->Prop)(st:St):Yt id K (.exit id) st=K .normal st:=by simp[Yt]
theorem aM{C:Ctx}{code:Code}{st:St}{b:Exit}{a:St}(K:Exit->St->Prop)(h:wA C code st=some (b,a)):ZX C code st K=K b a:=by
 unfold ZX;apply propext;constructor
 ·rintro⟨e,c,f,d⟩;rw[h]at f;obtain⟨rfl,rfl⟩:b=e/\a=c:=by simpa using f
  exact d
 ·exact fun d=>⟨_,_,h,d⟩
theorem Rk(C:Ctx)(st:St)(K:Exit->St->Prop):ZX C .skip st K=K .normal st:=aM K (by simp only[wA])
theorem Rl(C:Ctx)(id:Nat)(st:St)(K:Exit->St->Prop):ZX C (.exit id) st K=K (.exit id) st:=aM K (by simp only[wA])
theorem zav(C:Ctx)(st:St)(K:Exit->St->Prop):ZX C .ret st K=K .ret st:=aM K (by simp only[wA])
theorem Nf(C:Ctx)(l:Nat)(st:St)(K:Exit->St->Prop):ZX C (.label l) st K=K .normal st:=aM K (by simp only[wA])
theorem Dv(C:Ctx)(i:Nat)(a:Array Oper)(d:Bool)(c st:St)(K:Exit->St->Prop)(g:CT (C.fz i) c=some st)(h:Yr (C.dyn i) st)(j:QH (C.PJ i) st):ZX C (.region i a d) c K=tL C a a.toList st (Wf K):=by
 unfold ZX tL Wf;simp only[wA,g,h,j,and_self,qV];apply propext;constructor
 ·rintro⟨e,b,h,f⟩;split at h
  ·rename_i s hs;obtain⟨rfl,rfl⟩:Exit.normal=e/\s=b:=by simpa using h
   exact⟨_,hs,f⟩
  ·cases h
 ·rintro⟨b,h,f⟩;exact⟨.normal,b,by rw[h],f⟩
theorem W0(C:Ctx)(i:Nat)(a:Array Oper)(d:Bool)(st:St)(K:Exit->St->Prop)(h:Yr (C.dyn i) st)(b:QH (C.PJ i) st)(c:C.fz i=[]:=by rfl):ZX C (.region i a d) st K=tL C a a.toList st (Wf K):=
 Dv C i a d st st K (by rw[c];rfl) h b
theorem Jk(C:Ctx)(i:Nat)(a:Array Oper)(d:Bool)(st:St)(K:Exit->St->Prop)(h:C.dyn i=[])(b:C.PJ i=[])(c:C.fz i=[]:=by rfl):ZX C (.region i a d) st K=tL C a a.toList st (Wf K):=W0 C i a d st K (by rw[h];intro p Y;cases Y) (by rw[b];intro p Y;cases Y) c
theorem LG(C:Ctx)(a b:Code)(st:St)(K:Exit->St->Prop):ZX C (.seq a b) st K=ZX C a st (nM C b K):=by
 unfold ZX;simp only[wA];apply propext;constructor
 ·rintro⟨e,c,h,d⟩;split at h
  ·rename_i s hs;exact⟨.normal,s,hs,e,c,h,d⟩
  ·rename_i r k;refine⟨e,c,h,?_⟩;cases e<;>simp_all[nM]
 ·rintro⟨e,c,h,d⟩;cases e
  case normal=>obtain⟨i,f,j,g⟩:=d;exact⟨i,f,by rw[h];exact j,g⟩
  all_goals exact⟨_,c,by rw[h],d⟩
theorem Rm(C:Ctx)(c:Operand)(x y:Code)(st:St)(K:Exit->St->Prop):ZX C (.cond c x y) st K=iP C (get st.σ c) x y st K:=by
 unfold ZX iP;simp only[wA];apply propext;constructor
 ·rintro⟨e,a,h,d⟩;split at h
  ·rename_i b;exact .inl ⟨b,e,a,h,d⟩
  ·rename_i b;exact .inr ⟨b,e,a,h,d⟩
  ·cases h
 ·rintro (⟨b,e,a,h,d⟩|⟨b,e,a,h,d⟩)
  ·exact⟨e,a,by rw[b];exact h,d⟩
  ·exact⟨e,a,by rw[b];exact h,d⟩
theorem Ng(C:Ctx)(id:Nat)(b:Code)(st:St)(K:Exit->St->Prop):ZX C (.block id b) st K=ZX C b st (Yt id K):=by
 unfold ZX;simp only[wA];apply propext;constructor
 ·rintro⟨e,a,h,c⟩;split at h
  ·rename_i i s hs;refine⟨.exit i,s,hs,?_⟩;unfold Yt;split at h
   ·rename_i hi;obtain⟨rfl,rfl⟩:Exit.normal=e/\s=a:=by simpa using h
    simp[hi,c]
   ·rename_i hi;obtain⟨rfl,rfl⟩:Exit.exit i=e/\s=a:=by simpa using h
    simp[hi,c]
  ·rename_i r d;refine⟨e,a,h,?_⟩;cases e<;>simp_all[Yt]
 ·rintro⟨e,a,h,c⟩;cases e
  case exit i=>
   unfold Yt at c;simp only[h];by_cases hi:i=id
   ·simp only[hi,qV]at c⊢;exact⟨_,_,rfl,c⟩
   ·simp only[hi,wF]at c⊢;exact⟨_,_,rfl,c⟩
  all_goals exact⟨_,a,by rw[h],c⟩
def asgK(C:Ctx)(b:Code)(K:Exit->St->Prop)(e:Exit)(st:St):Prop:=match e with
 | .normal=>ZX C b st K
 |_=>False
def rngK(I:Nat->Hp->Nat->Prop)(k:Nat)(σ:Nat->O)(K:Exit->St->Prop)(e:Exit)(st:St):Prop:=match e with
 | .normal=>I (k+1) st.Y st.Z
 | .ret=>K .ret ⟨σ,st.Y,st.Z⟩
 | .exit i=>K (.exit i) ⟨σ,st.Y,st.Z⟩
 |_=>False
theorem Nh{C:Ctx}{f:Operand}{s:Array Tmp}{a b:Code}{st:St}{K:Exit->St->Prop}{p:Tmp}{g:FuncId}{cap:zb}{it:QG}{xs:zb}{Y1:Hp}
  (o:s.toList=[p]) (v:get st.σ f=some (.fn (.func g) [] cap)) (hit:C.it g=some it) (w:it cap st.Y=some (xs,Y1)) (I:Nat->Hp->Nat->Prop) (x:I 0 Y1 st.Z)
  (h:∀k Y Z (t:k<xs.length),I k Y Z->ZX C a ⟨qq st.σ p xs[k],Y,Z⟩ (asgK C b (rngK I k st.σ K))) (i:∀Y Z,I xs.length Y Z->K .normal ⟨st.σ,Y,Z⟩):ZX C (.rangeFunc f s a b) st K:=by
 have q:∀d k Y Z,xs.length-k=d->k<=xs.length->I k Y Z->∃e Y2 c,Vj (wA C a) (wA C b) st.σ p (xs.drop k) Y Z=some (e,Y2,c)/\K e ⟨st.σ,Y2,c⟩:=by
  intro d
  induction d with
  |zero=>
   intro k Y Z hd t r;obtain rfl:k=xs.length:=by omega
   exact⟨.normal,Y,Z,by rw[zp];rfl,i Y Z r⟩
  |succ d y=>
   intro k Y Z hd t r;have j:k<xs.length:=by omega
   obtain⟨z,D,l,m⟩:=h k Y Z j r;rw[zc j];simp only[Vj,l];cases z<;>try exact m.elim
   obtain⟨A,u,B,n⟩:=m;simp only[B];cases A<;>try exact n.elim
   ·exact y (k+1) u.Y u.Z (by omega) (by omega) n
   ·exact⟨_,_,_,rfl,n⟩
   ·exact⟨_,_,_,rfl,n⟩
 obtain⟨e,Y2,c,l,m⟩:=q _ 0 Y1 st.Z rfl (ZS _) x;rw[wY]at l;exact⟨e,⟨st.σ,Y2,c⟩,by simp only[wA,o,v,hit,w,l],m⟩
theorem zaw(C:Ctx)(a:Array Oper)(st:St)(K:St->Prop):tL C a [] st K=K st:=by simp[tL,xS]
def Rn(C:Ctx)(a:Array Oper)(l:List Oper)(K:St->Prop)(st:St):Prop:=tL C a l st K
theorem Ro(C:Ctx)(a:Array Oper)(l:List Oper)(K:St->Prop)(st:St):Rn C a l K st=tL C a l st K:=rfl
theorem Rp(C:Ctx)(a:Array Oper)(o:Oper)(l:List Oper)(st:St)(K:St->Prop):tL C a (o::l) st K=JS (jd C a o st) (Rn C a l K):=by
 unfold tL JS Rn tL;simp only[xS];apply propext;constructor
 ·rintro⟨b,h,c⟩;split at h
  ·rename_i s hs;exact⟨s,hs,b,h,c⟩
  ·cases h
 ·rintro⟨s,hs,b,h,c⟩;exact⟨b,by rw[hs];exact h,c⟩
theorem zR(C:Ctx)(b:Code)(st:St)(K:Exit->St->Prop):ZX C (.loop b) st K=ZX C b st (nM C (.loop b) K):=by
 unfold ZX;simp only[wA];rw[Ar];apply propext;constructor
 ·rintro⟨e,a,h,c⟩;split at h
  ·rename_i s hs;exact⟨.normal,s,hs,e,a,by simpa only[wA]using h,c⟩
  ·rename_i r j;refine⟨e,a,h,?_⟩;cases e<;>simp_all[nM]
 ·rintro⟨e,a,h,c⟩;cases e
  case normal=>obtain⟨g,d,i,f⟩:=c;exact⟨g,d,by rw[h];simpa only[wA]using i,f⟩
  all_goals exact⟨_,a,by rw[h],c⟩
def AF(I:St->Prop)(a:St->Nat)(n:Nat)(K:Exit->St->Prop)(e:Exit)(st:St):Prop:=match e with
 | .normal=>I st/\a st<n
 |e=>K e st
theorem sf(I:St->Prop)(a:St->Nat)(n:Nat)(K:Exit->St->Prop)(st:St):AF I a n K .normal st=(I st/\a st<n):=rfl
theorem Hs(I:St->Prop)(a:St->Nat)(n:Nat)(K:Exit->St->Prop)(st:St):AF I a n K .ret st=K .ret st:=rfl
theorem Dw(I:St->Prop)(a:St->Nat)(n i:Nat)(K:Exit->St->Prop)(st:St):AF I a n K (.exit i) st=K (.exit i) st:=rfl
theorem ZX.mono{C:Ctx}{code:Code}{st:St}{K b:Exit->St->Prop}(h:ZX C code st K)(c:∀e st,K e st->b e st):ZX C code st b:=
 let⟨e,a,d,f⟩:=h
 ⟨e,a,d,c _ _ f⟩
theorem Jl{C:Ctx}{b:Code}{st:St}{K:Exit->St->Prop}(I:St->Prop)(d:St->Nat)(h:I st)(a:∀st,I st->ZX C b st (AF I d (d st) K)):ZX C (.loop b) st K:=by
 have f:∀n st,d st=n->I st->ZX C (.loop b) st K:=by
  intro n
  induction n using Nat.strongRecOn with
  |_ n i=>
   intro st j k;rw[zR];refine(a st k).mono fun e c g=>?_
   cases e
   case normal=>exact i (d c) (j ▸ g.2) c rfl g.1
   all_goals exact g
 exact f _ st rfl h
def Vq(P:Program)(fn:Func)(R:O->Hp->Nat->Prop)(e:Exit)(st:St):Prop:=match e with
 | .normal|.ret=>JS (Zq P fn st) (fun x=>R x st.Y st.Z)
 |_=>False
theorem Dx(P:Program)(fn:Func)(R:O->Hp->Nat->Prop)(st:St):Vq P fn R .normal st=JS (Zq P fn st) (fun x=>R x st.Y st.Z):=rfl
theorem Rq(P:Program)(fn:Func)(R:O->Hp->Nat->Prop)(st:St):Vq P fn R .ret st=JS (Zq P fn st) (fun x=>R x st.Y st.Z):=rfl
theorem qF{C:Ctx}{fn:Func}{code:Code}{args:zb}{Y:Hp}{Z:Nat}{R:O->Hp->Nat->Prop}(d:fn.body=some code)
  (h:ZX C code ⟨vn args,Y,Z⟩ (Vq C.P fn R)):∃x Y' Z',yR C fn args Y Z=some (x,Y',Z')/\R x Y' Z':=by
 obtain⟨e,st,f,a⟩:=h;unfold yR;simp only[d,f];unfold Vq at a;split at a
 ·obtain⟨x,b,c⟩:=a;exact⟨x,st.Y,st.Z,by simp[b],c⟩
 ·obtain⟨x,b,c⟩:=a;exact⟨x,st.Y,st.Z,by simp[b],c⟩
 ·exact a.elim
def wK(r:O)(x:O)(Y:Hp)(_:Nat):Prop:=(freeze Y x).map (·.1)=some r
theorem zn{C:Ctx}{fn:Func}{code:Code}{args:zb}{r:O}(a:fn.body=some code)
  (h:ZX C code ⟨vn args,fun _=>none,0⟩ (Vq C.P fn (wK r))):zv C fn args=some r:=by
 obtain⟨x,Y',Z',b,c⟩:=qF a h;unfold zv;simp only[b];exact c
theorem JT(d:Option Tmp)(op:Op)(t:TypeId)(p:String)(a:Array Edge)(y:Nat->Option Bool):Region.wanted ⟨d,op,t,p,a,none⟩ y=true:=rfl
theorem qT(C:Ctx)(a:Array Oper)(d:Option Tmp)(op:Op)(t:TypeId)(p:String)(b:Array Edge)(st:St):jd C a ⟨d,op,t,p,b,none⟩ st =
  (qb C (get st.σ) st.Y st.Z op).map fun r=>⟨put st.σ d r.1,r.2.1,r.2.2⟩:=by
 simp only[jd,JT,qV];cases qb C (get st.σ) st.Y st.Z op<;>rfl
variable{dr:Prop}
section
variable{C:Ctx}{pf:FuncId->Bool}
def QJ(a:Array Bool)(k:Nat):Prop:=a.getD k false=true
theorem iQ{i n:Nat}(h:i<n):List.range n=List.range i++i::List.range' (i+1) (n-i-1):=by
 have a:List.range n=List.range' 0 i++List.range' i (n-i):=by rw[List.range_eq_range',show List.range' 0 n=List.range' 0 (i+(n-i))from by rw[show i+(n-i)=n from by omega],<-List.range'_append_1];simp
 rw[a,List.range_eq_range'];congr 1;rw[show n-i=(n-i-1)+1 from by omega,List.range'_succ];simp
theorem Rr{a:Array Oper}{cm:Oper->Oper->Bool}{A:St->Prop}(D:CV C a cm A)(E:nz cm a=true):∀(fuel t:Nat) (listed:Array Bool) (st:St),A st->listed.size=a.size->cz a (QJ listed) ->
  ((List.range a.size).filter fun i=>!listed.getD i true).length<=fuel ->
  ∀r:St,kX C a ((List.range a.size).filter fun i=>!listed.getD i true) st=some r->kX C a (Region.linearise.go .any a fuel t listed []) st=some r:=by
 intro fuel
 induction fuel with
 |zero=>intro t listed st _ _ _ Q r c;rw[wx (Nat.le_zero.1 Q)]at c;exact c
 |succ fuel ih=>
  intro t listed st R S F Q r c;simp only[Region.linearise.go];change kX C a (match(Region.ready .any a listed)[t % (Region.ready .any a listed).length]? with
   |some i=>Region.linearise.go .any a fuel (t/(Region.ready .any a listed).length) (listed.setIfInBounds i true) [i]
   |none=>[].reverse) st=some r
  have q:∀k,k<a.size->listed.getD k true=listed.getD k false:=fun k hk=>by
   have:k<listed.size:=by omega
   simp[this]
  have d:∀i,i∈Region.ready .any a listed↔i<a.size/\listed.getD i true=false/\∃o,a[i]?=some o/\tI (QJ listed) o:=by
   intro i;unfold Region.ready;simp only[zdZ,jK,zE,Q6];constructor
   ·rintro⟨G,T,h3⟩;refine⟨G,T,a[i],by simp[G],fun e s u=>?_⟩;simp only[G,jC,zH,Yn]at h3;have:=bM.1 h3 e (by simpa using s);simpa[u,QJ]using this
   ·rintro⟨G,T,o,m,Y⟩;refine⟨G,T,?_⟩;simp only[m,zH,Yn];refine bM.2 fun e s=>?_
    cases u:Region.binds .any e with
    |false=>rfl
    |true=>simpa[QJ]using Y e (by simpa using s) u
  cases hi:(Region.ready .any a listed)[t % (Region.ready .any a listed).length]? with
  |none=>
   have H:Region.ready .any a listed=[]:=by
    cases c:Region.ready .any a listed with
    |nil=>rfl
    |cons x xs=>rw[c]at hi;have w:t % (x::xs).length<(x::xs).length:=zkD _ (by simp);simp at hi;simp at w;omega
   have I:∀n k,k<n->k<a.size->listed.getD k true=true:=by
    intro n
    induction n with
    |zero=>intro k hk;omega
    |succ n J=>
     intro k hk g;by_cases U:k<n
     ·exact J k U g
     ·have W:k=n:=by omega
      subst W;cases u:listed.getD k true with
      |true=>rfl
      |false=>
       have m:a[k]?=some a[k]:=by simp[g]
       have v:k∈Region.ready .any a listed:=(d k).2 ⟨g,u,a[k],m,fun e s X=>by have w:=(iO E k _ m).1 e s X;have:=J e.on w (by omega);rw[q e.on (by omega)]at this;exact this⟩
       rw[H]at v;cases v
   have:((List.range a.size).filter fun i=>!listed.getD i true)=[]:=by rw[List.filter_eq_nil_iff];intro k hk;have g:=jK.1 hk;rw[I (k+1) k (by omega) g];simp
   rw[this]at c;exact c
  |some i=>
   simp only[];obtain⟨K,hul,o,m,Y⟩:=(d i).1 (zN hi);rw[linearise_go_acc,List.reverse_singleton,List.singleton_append];have y:∀k,(listed.setIfInBounds i true).getD k true=if k=i then true else listed.getD k true:=by
    intro k;by_cases hk:k=i
    ·subst hk;have:k<listed.size:=by omega
     simp[this]
    ·rw[ze hk];simp[qL (fun h=>hk h.symm)]
   have hlf:∀k,QJ (listed.setIfInBounds i true) k↔k=i\/QJ listed k:=by
    intro k;unfold QJ;by_cases hk:k=i
    ·subst hk;have:k<listed.size:=by omega
     simp[this]
    ·simp[qL (fun h=>hk h.symm),hk]
   have f:((List.range a.size).filter fun k=>!listed.getD k true)=((List.range i).filter fun k=>!listed.getD k true)++i::((List.range' (i+1) (a.size-i-1)).filter fun k=>!listed.getD k true):=by rw[iQ K,List.filter_append,List.filter_cons_of_pos (by rw[hul];rfl)]
   have b:((List.range a.size).filter fun k=>!(listed.setIfInBounds i true).getD k true)=((List.range i).filter fun k=>!listed.getD k true)++((List.range' (i+1) (a.size-i-1)).filter fun k=>!listed.getD k true):=by
    rw[iQ K,List.filter_append,List.filter_cons_of_neg (by rw[y];simp)];congr 1
    ·exact List.filter_congr fun k hk=>by have:=jK.1 hk;rw[y,ze (by omega)]
    ·exact List.filter_congr fun k hk=>by have:=(List.mem_range'_1.1 hk).1;rw[y,ze (by omega)]
   have L:cz a (QJ (listed.setIfInBounds i true)):=by
    intro k o' hk l e s u;rw[hlf]at hk⊢;rcases hk with rfl|hk
    ·rw[m]at l;injection l with l
     subst l;exact .inr (Y e s u)
    ·exact .inr (F k o' hk l e s u)
   have p:((List.range a.size).filter fun k=>!(listed.setIfInBounds i true).getD k true).length<=fuel:=by rw[b];rw[f]at Q;simp only[zm,zx]at Q⊢;omega
   have M:=fun st R=>ih (t/(Region.ready .any a listed).length) (listed.setIfInBounds i true) st R (by simpa using S) L p
   rw[f]at c;have c:=bS D m _ _ _ r R (fun j hj=>by
    obtain⟨z,N⟩:=zdZ.1 hj;have z:=jK.1 z;rcases(iO E i o m).2 j z with h|h
    ·have:=h (QJ listed) F Y;unfold QJ at this;rw[<-q j (by omega)]at this;rw[this]at N;cases N
    ·exact h) c
   simp only[kX,m]at c⊢;cases B:jd C a o st with
   |none=>rw[B]at c;cases c
   |some P=>rw[B]at c;simp only[qc]at c⊢;exact M P (D.keep i o st P m R B) r (by rw[b];exact c)
theorem AG(a:Array Oper)(st:St):∀(l:List Oper) (i:Nat),(∀k,l[k]?=a[i+k]?)->i+l.length=a.size->kX C a (List.range' i l.length) st=xS C a l st:=by
 intro l
 induction l generalizing st with
 |nil=>intro i _ _;rfl
 |cons o l d=>
  intro i c e;have f:a[i]?=some o:=by have:=c 0;simpa using this.symm
  simp only[zx,List.range'_succ,kX,f,xS];cases hs:jd C a o st with
  |none=>rfl
  |some b=>simp only[qc];exact d b (i+1) (fun k=>by have:=c (k+1);simpa[na,Q5 1 k]using this) (by simp at e;omega)
theorem bV(a:Array Oper)(st:St):kX C a (List.range a.size) st=xS C a a.toList st:=by have:=AG (C:=C) a st a.toList 0 (by simp) (by simp);rw[List.range_eq_range'];simpa using this
theorem zax{a:Array Oper}{e:Oper->Oper->Bool}{A:St->Prop}(c:CV C a e A)(d:nz e a=true)(t:Nat)(st r:St)(f:A st)(g:xS C a a.toList st=some r):kX C a (Region.linearise .any a t) st=some r:=by
 unfold Region.linearise;refine Rr c d a.size t _ st f (by simp) (fun k o b=>by unfold QJ at b;rw[yJ,aF]at b;split at b<;>simp at b) (zI (zfI _ _) (by simp)) r ?_
 have:((List.range a.size).filter fun i=>!(Array.replicate a.size false).getD i true)=List.range a.size:=by rw[List.filter_eq_self];intro i hi;have hi:=jK.1 hi;simp[hi]
 rw[this,bV];exact g
end
section
variable{C:Ctx}{pf:FuncId->Bool}{w0:World}{S0 L:Nat->Prop}{N Z0:Nat}{G0:Nat->GI}{n0:Nat}
theorem XF{w:World}{S:Nat->Prop}{G:Nat->GI}{Z:Nat}{f:Array Oper}{σ:Nat->O}{a:Act}(hs:∀t,qw w S G Z (σ t) (a.tmps.getD t undef)):yielded f a.tmps=Wq f σ:=by
 funext j;unfold yielded Wq;cases hd:(f[j]?).bind (·.dst)with
 |none=>rfl
 |some d=>
  simp only[qc];have k:=hs d;have m:∀b:Bool,a.tmps.getD d undef=.bool b->a.tmps[d]?=some (.bool b):=by
   intro b l;by_cases g:d<a.tmps.size
   ·simp[g]at l⊢;exact l
   ·simp[g]at l;simp[undef]at l
  cases i:σ d with
  |v x=>
   rw[i]at k;obtain⟨e,o⟩:=k.yi;cases x with
   |bool b=>simp only[m b e]
   |_=>
    cases n:a.tmps[d]? with
    |none=>rfl
    |some y=>
     have:a.tmps.getD d undef=y:=by simp[n]
     rw[this]at e;subst e;rfl
  |_=>
   cases n:a.tmps[d]? with
   |none=>rfl
   |some y=>
    have:a.tmps.getD d undef=y:=by simp[n]
    rw[i,this]at k;cases y with
    |bool b=>cases k with
     |c h=>cases h
    |_=>rfl
def Gv(F:Fence):Prop:=F=Fence.wide\/∃l,F=Fence.wide.inRound l
theorem Gv.fn{F:Fence}(h:Gv F)(f:FuncId):F.fn f:=by rcases h with rfl|⟨l,rfl⟩<;>trivial
theorem Gv.deep{F:Fence}(h:Gv F):F.depth=none:=by rcases h with rfl|⟨l,rfl⟩<;>rfl
theorem Gv.calls{F:Fence}(h:Gv F){n:Nat}{P:Program}{f:FuncId}{args:Array Value}{w:World}{R:Ending->World->Prop}(a:Calls P f args w R):CallsIn F n P f args w R:=by
 rcases h with rfl|⟨l,rfl⟩
 ·exact rW.2 a
 ·exact(rW.2 a:CallsIn Fence.wide n P f args w R)
theorem Y6(k:∀g r,C.Γ g=some r->yY dr C.P g r){m:Array Oper}(t:∀(i:Nat) (o:Oper),m[i]?=some o->∀d,o.dst=some d->d<N){F:Fence}{n:Nat}(s:Gv F){Q:Exit->Act->World->Prop} :
  ∀(l:List Nat) (st j:St) (a:Act) (w:World),kX C m l st=some j->mF dr C.P w0 S0 L N Z0 G0 n0 st a w->(∀R w',mF dr C.P w0 S0 L N Z0 G0 n0 j R w'->Q .normal R w')->wpOpsIn F n C.P m Q l a w
 |[],st,j,a,w,h,hs,B=>by
  simp only[kX]at h;injection h with h
  subst h;exact B a w hs
 |i::l,st,j,a,w,h,hs,B=>by
  simp only[wpOpsIn];cases D:m[i]? with
  |none=>simp only[kX,D]at h;exact Y6 k t s l st j a w h hs B
  |some o=>
   simp only[kX,D]at h;cases b:jd C m o st with
   |none=>rw[b]at h;cases h
   |some st1=>
    rw[b]at h;simp only[qc]at h;obtain⟨S,G,u⟩:=hs;unfold jd at b;simp only[];rw[XF u.xZ];split at b
    ·rename_i E;rw[zd E];split at b
     ·rename_i x Y Z z;injection b with b
      subst b;have H:∀c,o.op≠.defer c:=by intro c I;rw[I]at z;simp[qb]at z
      refine⟨fun f _=>s.fn f,?_⟩;rw[Oper.semAt_eq _ _ _ H];have J:=dO k u.inv (a:=a.eval) (fun y W T=>WJ u.xZ T) (o:=o) z;rcases J with⟨v,w',S',G',A,K,M⟩|⟨g,vs,A,I⟩
      ·have p:mF dr C.P w0 S0 L N Z0 G0 n0 ⟨put st.σ o.dst x,Y,Z⟩ (a.put o.dst v) w':=⟨S',G',u.step K M (t i o D)⟩;have q:=Y6 (n:=n) k t s l _ j _ w' h p B;rcases A with A|⟨A,rfl⟩
       ·rw[A];exact q
       ·rw[A];exact q
      ·rw[A];refine⟨fun h=>by simp[s.deep]at h,s.calls (I.mono fun e w' U=>?_)⟩;obtain⟨v,S',G',rfl,K,M⟩:=U;have p:mF dr C.P w0 S0 L N Z0 G0 n0 ⟨put st.σ o.dst x,Y,Z⟩ (a.put o.dst v) w':=⟨S',G',u.step K M (t i o D)⟩;exact Y6 k t s l _ j _ w' h p B
     ·cases b
    ·rename_i E;rw[ze E];injection b with b
     subst b;exact⟨fun f _=>s.fn f,Y6 k t s l _ j _ w h ⟨S,G,u.step (.refl u.inv) kx (t i o D)⟩ B⟩
def kh:Code->Bool
 | .seq a b=>kh a&&kh b
 | .cond _ a b=>kh a&&kh b
 | .block _ b=>kh b
 | .loop b=>kh b
 | .rangeFunc _ _ _ _=>false
 | .scope _=>false
 |_=>true
def xt(pf:FuncId->Bool)(c:Nat->List (Tmp×Tmp))(e:Nat->List Tmp)(f:FuncId->Bool)(N:Nat):Code->Bool
 | .region i g h=>g.all (fun o=>match o.dst with|some d=>decide (d<N)|none=>true)&&(!h||(nz (LD pf (c i) (e i) f g) g&&AA pf (c i) (e i) f g))
 | .seq a b=>xt pf c e f N a&&xt pf c e f N b
 | .cond _ a b=>xt pf c e f N a&&xt pf c e f N b
 | .block _ b=>xt pf c e f N b
 | .loop b=>xt pf c e f N b
 | .rangeFunc _ j a b=>j.all (fun p=>decide (p<N))&&kh a&&kh b&&xt pf c e f N a&&xt pf c e f N b
 |_=>true
theorem mF.drew{st:St}{a:Act}{w:World}(h:mF dr C.P w0 S0 L N Z0 G0 n0 st a w):mF dr C.P w0 S0 L N Z0 G0 n0 st a {w with drawn:=w.drawn+1}:=by obtain⟨S,G,c⟩:=h;refine⟨S,G,c.inv.same rfl,fun t=>(c.xZ t).mono (fun b d=>⟨d,rfl⟩) (zl _) (fun _ _=>rfl),c.size,c.defers,c.s0,c.s1,c.own,c.fr.trans (Fr.drew w L) fun _ _ h=>h,c.up,c.loc⟩
theorem mF.top{st:St}{a:Act}{w:World}(h:mF dr C.P w0 S0 L N Z0 G0 n0 st a w):cC st.Y st.Z:=by obtain⟨S,G,b⟩:=h;exact b.inv.top
theorem mF.ziO{st:St}{a:Act}{w:World}(h:mF dr C.P w0 S0 L N Z0 G0 n0 st a w){t:Nat}{y:O}{Y1:Hp}(f:qt st.Y (st.σ t)=some (y,Y1)):mF dr C.P w0 S0 L N Z0 G0 n0 ⟨qq st.σ t y,Y1,st.Z⟩ a w:=by
 obtain⟨S,G,h⟩:=h;obtain⟨S',k,c,_,_⟩:=vH (dr:=dr) h.inv f (h.xZ t);have d:∀b,ke st.Y G b->L b\/w0.heap.size<=b:=by rintro b ⟨id,blk,hid,rfl⟩;exact h.own id blk hid
 refine⟨S',G,k.inv,fun s=>?_,h.size,h.defers.step k,fun b e=>k.keep (dr:=dr) b (h.s0 b e),fun b e=>?_,fun id b e=>?_,h.fr,h.up,h.loc⟩
 ·show qw w S' G st.Z (qq st.σ t y s) _;by_cases hs:s=t
  ·subst hs;rw[wU];exact .c c
  ·rw[zD _ _ _ _ hs];exact(h.xZ s).mono (k.same h.inv) (zl _) (fun _ _=>rfl)
 ·rcases k.from_ b e with h1|h1|h1
  ·exact h.s1 b h1
  ·exact .inr (d b h1)
  ·exact .inr (.inr (zI h.fr.size h1))
 ·rcases k.own id b e with h1|h1
  ·exact d _ h1
  ·exact .inr (zI h.fr.size h1)
theorem mF.CT{a:Act}{w:World}:∀{l:List Tmp} {st st1:St},mF dr C.P w0 S0 L N Z0 G0 n0 st a w->AM.CT l st=some st1->mF dr C.P w0 S0 L N Z0 G0 n0 st1 a w
 |[],st,st1,h,e=>by
  simp only[AM.CT]at e;injection e with e
  rw[<-e];exact h
 |t::l,st,st1,h,e=>by
  simp only[AM.CT]at e;split at e
  ·rename_i y Y1 b;exact mF.CT (h.ziO b) e
  ·cases e
def Xx(S:Nat->Prop)(G:Nat->GI)(Y:Hp)(b:Nat):Prop:=¬S b/\∀id blk,Y id=some blk->(G id).g≠b
theorem Xx.step{P:Program}{Y Y':Hp}{Z Z':Nat}{S S':Nat->Prop}{G G':Nat->GI}{w w':World}{b:Nat}(h:Xx S G Y b)(k:kW dr P Y Z S G w Y' Z' S' G' w')(e:b<w.heap.size):Xx S' G' Y' b:=by
 refine⟨fun hs=>?_,fun id blk hid d=>?_⟩
 ·rcases k.from_ b hs with h1|⟨id,blk,h1,c⟩|h1
  ·exact h.1 h1
  ·exact h.2 id blk h1 c
  ·omega
 ·rcases k.own id blk hid with⟨id',a,h1,c⟩|h1
  ·exact h.2 id' a h1 (c.trans d)
  ·omega
theorem Xx.same{P:Program}{Y Y':Hp}{Z Z':Nat}{S S':Nat->Prop}{G G':Nat->GI}{w w':World}{b:Nat}(h:Xx S G Y b)(k:kW dr P Y Z S G w Y' Z' S' G' w')(a:b<w.heap.size):w'.heap[b]?=w.heap[b]?:=
 k.fr.block b a fun⟨id,blk,c,d⟩=>h.2 id blk c d
section
variable{P:Program}{S:Nat->Prop}{G:Nat->GI}
theorem Inv.frame{w w':World}{Y:Hp}{Z:Nat}{B:Nat->Prop}(h:Inv P w S G Y Z)(d:Fr dr w B w')(e:∀b,B b->Xx S G Y b):Inv P w' S G Y Z:=by
 have f:∀b,S b->S b/\w'.heap[b]?=w.heap[b]?:=fun b a=>⟨a,d.block b (h.st b a) fun c=>(e b c).1 a⟩
 exact⟨fun b a=>ja (h.st b a) d.size,h.top,fun id b a=>(h.live id b a).mono f (zl _) (fun _ _=>rfl) (d.block _ (h.live id b a).lt fun c=>(e _ c).2 id b a rfl),h.apart,h.inj,h.fS.mono f⟩
theorem Marks.frame{w w':World}{Y:Hp}{B:Nat->Prop}{ds:List Deferred}(h:Marks n0 w S Y G ds)(a:Fr dr w B w')(c:∀D,lX D∈ds->¬B D):Marks n0 w' S Y G ds:=by obtain⟨d,f,e,g,i⟩:=h;refine⟨zI d a.size,f,e,g,fun D hd=>?_⟩;obtain⟨j,b,k⟩:=i D hd;exact⟨j,(a.block D (zM.1 b).1 (c D (by rw[e];exact List.mem_map_of_mem hd))).trans b,k⟩
theorem Dy{D a:Nat}(h:lX D=lX a):D=a:=by
 unfold lX at h;injection h with h
 injection h
theorem Marks.at{w:World}{Y:Hp}{ds:List Deferred}(h:Marks n0 w S Y G ds){D:Nat}(hd:lX D∈ds):n0<=D/\w.heap[D]?=some (.deferred (some []))/\¬S D/\∀id b,Y id=some b->(G id).g≠D:=by obtain⟨f,i,rfl,j,a⟩:=h;obtain⟨c,d,e⟩:=q9.1 hd;rw[<-Dy e];exact a c d
theorem Q8.frame{st:St}{a:Act}{w w':World}{B:Nat->Prop}(h:Q8 dr P w0 S0 L N Z0 G0 n0 st S G a w)(c:Fr dr w B w')(f:∀b,B b->Xx S G st.Y b)(i:∀b,B b->L b\/w0.heap.size<=b)
  (j:∀D,lX D∈a.defers->¬B D):Q8 dr P w0 S0 L N Z0 G0 n0 st S G a w':=by
 have k:∀b,S b->S b/\w'.heap[b]?=w.heap[b]?:=fun b d=>⟨d,c.block b (h.inv.st b d) fun e=>(f b e).1 d⟩
 refine⟨h.inv.frame c f,fun t=>(h.xZ t).mono k (zl _) (fun _ _=>rfl),h.size,h.defers.frame c j,h.s0,h.s1,h.own,h.fr.trans c fun b d l=>?_,h.up,h.loc⟩;rcases i b l with g|g
 ·exact g
 ·omega
theorem Q8.zcQ{st:St}{a:Act}{w w':World}{B:Nat->Prop}(h:Q8 dr P w0 S0 L N Z0 G0 0 st S G a w)(d:Fr dr w B w')(f:∀b,B b->Xx S G st.Y b)(g:∀D,lX D∈a.defers->¬B D):Q8 dr P w' S (ke st.Y G) N st.Z G 0 st S G a w':=by
 have i:∀b,S b->S b/\w'.heap[b]?=w.heap[b]?:=fun b c=>⟨c,d.block b (h.inv.st b c) fun e=>(f b e).1 c⟩
 exact⟨h.inv.frame d f,fun t=>(h.xZ t).mono i (zl _) (fun _ _=>rfl),h.size,h.defers.frame d g,fun _ h=>h,fun _ h=>.inl h,fun id b c=>.inl ⟨id,b,c,rfl⟩,Fr.refl _ _,zl _,fun _ _=>rfl⟩
theorem Q8.inner{st:St}{a:Act}{w:World}(h:Q8 dr P w0 S0 L N Z0 G0 n0 st S G a w):Q8 dr P w S (ke st.Y G) N st.Z G 0 st S G {a with defers:=[]} w:=
 ⟨h.inv,h.xZ,h.size,.nil (ZS _),fun _ h=>h,fun _ h=>.inl h,fun id b c=>.inl ⟨id,b,c,rfl⟩,Fr.refl _ _,zl _,fun _ _=>rfl⟩
theorem Q8.stp{Y:Hp}{Z:Nat}{S':Nat->Prop}{G':Nat->GI}{st:St}{a:Act}{w w':World}(h:Q8 dr P w S (ke Y G) N Z G n0 st S' G' a w'):kW dr P Y Z S G w st.Y st.Z S' G' w':=⟨h.inv,h.up,h.loc,h.s0,h.s1,h.own,h.fr⟩
end
def Dz(dr:Prop)(P:Program)(g:FuncId)(it:QG):Prop:=
 (∃fn,P.funcs[g]?=some fn/\(fn.name== "runtime.NumGoroutine")=false/\fn.body.isNone=false) /\
 ∀cap Y Z xs Y1,it cap Y=some (xs,Y1)->∃us:List Value,xs=us.map O.v/\(∀u∈us,lit u=true)/\(∀id b,Y1 id=some b->Y id=some b) /\
  ∀(w:World) (S:Nat->Prop) (G:Nat->GI) (vs:List Value),Inv P w S G Y Z->Zip (qw w S G Z) cap vs ->
   ∃B:Nat->Prop,(∀b,B b->ke Y G b/\Xx S G Y1 b) /\
    ∀(n l:Nat) (J c:List Value->World->Prop),
     (∀pre W a,J pre W->Fr dr W B a->J pre a)->(∀pre W a,c pre W->Fr dr W B a->c pre a)->(∀pre W,J pre W->MH P W fun b=>b<W.heap.size) ->
     (∀pre x W,J pre W->us[pre.length]?=some x->YieldAt Fence.wide n P l #[x] W fun e a=>(e=.returned (.bool true)/\J (pre++[x]) a/\(∀b,B b->a.heap[b]?=W.heap[b]?)/\W.heap.size<=a.heap.size)\/(e=.returned (.bool false)/\c (pre++[x]) a)) ->
     ∀W,J [] W->(∀b,B b->W.heap[b]?=w.heap[b]?)->w.heap.size<=W.heap.size ->
      CallsIn Fence.wide (n+1) P g (#[.func (.yield l) #[] #[]]++vs.toArray) W fun e a=>(∃v,e=.returned v)/\(J us a\/∃pre,c pre a)
abbrev Ni:=Dz True
theorem zay{w:World}{S:Nat->Prop}{G:Nat->GI}{Z:Nat}{u:Value}(h:lit u=true):qw w S G Z (.v u) u:=.c (.v h)
theorem Ht{w:World}{l:Nat}(o:Obj)(B:Nat->Prop)(a:B l):Fr dr w B (w.putObj l o):=
 ⟨rfl,rfl,rfl,by simp,fun _=>zl _,fun k _ b=>ziL fun e=>b (e ▸ a)⟩
theorem nN(hΓ:∀g spec,C.Γ g=some spec->yY dr C.P g spec)(hpf:∀g spec,pf g=true->C.Γ g=some spec->WZ spec)(hbk:∀g spec,C.bk g=true->C.Γ g=some spec->WM spec)(hit:∀g it,C.it g=some it->Dz dr C.P g it)(hm:C.P.follows .mixedOrders=true) :
  ∀(c:Code),xt pf C.dyn C.PJ C.bk N c=true->∀(F:Fence) (n:Nat),Gv F->(F=Fence.wide\/kh c=true)->∀(w0:World) (S0 L:Nat->Prop) (Z0:Nat) (G0:Nat->GI) (n0:Nat) (st st':St) (e:Exit) (a:Act) (w:World) (Q:Exit->Act->World->Prop),n0<=w0.heap.size->wA C c st=some (e,st')->mF dr C.P w0 S0 L N Z0 G0 n0 st a w ->
   (∀a' w',mF dr C.P w0 S0 L N Z0 G0 n0 st' a' w'->Q e a' w')->c.wpIn F n C.P Q a w:=by
 intro c
 induction c with
 |skip=>
  intro _ F n hF _ w0 S0 L Z0 G0 n0 st st' e a w Q _ h hs hQ;simp only[wA]at h;injection h with h
  injection h with e1 e2;subst e1;subst e2;exact wpIn_skip (hQ a w hs)
 |region id ops draw=>
  intro hok F n hF _ w0 S0 L Z0 G0 n0 st st' e a w Q _ h hs hQ;simp only[xt,zE,qx,Q6]at hok;obtain⟨hN0,hdraw⟩:=hok;have hN:∀(i:Nat) (o:Oper),ops[i]?=some o->∀d,o.dst=some d->d<N:=by intro i o ho d hd;have:=bM.1 hN0 o (Array.mem_of_getElem? ho);simpa[hd]using this
  simp only[wA]at h;split at h
  case h_2=>cases h
  rename_i st1 hth;have hs:=hs.CT hth;clear hth;generalize st1=st at h hs;split at h
  case isFalse=>cases h
  rename_i hA;split at h
  ·rename_i s hs1;injection h with h
   injection h with e1 e2;subst e1;subst e2;cases draw with
   |false=>exact wpIn_region (Y6 hΓ hN hF _ st s a w (by rw[bV];exact hs1) hs hQ)
   |true=>
    have hd:nz (LD pf (C.dyn id) (C.PJ id) C.bk ops) ops=true/\AA pf (C.dyn id) (C.PJ id) C.bk ops=true:=by simpa using hdraw
    refine wpIn_region_draw fun t=>?_
    simp only[Region.schedule,hm,V3,qV];exact Y6 hΓ hN hF _ st s a _ (zax (Rj hpf hbk hd.2) hd.1 _ _ _ ⟨hA,fun _=>hs.top⟩ hs1) hs.drew hQ
  ·cases h
 |seq x y ihx ihy=>
  intro hok F n hF hno w0 S0 L Z0 G0 n0 st st' e a w Q hn0 h hs hQ;simp only[xt,zE]at hok;have hnx:F=Fence.wide\/kh x=true:=hno.imp (fun h=>h) fun h=>by simp only[kh,zE]at h;exact h.1
  have hny:F=Fence.wide\/kh y=true:=hno.imp (fun h=>h) fun h=>by simp only[kh,zE]at h;exact h.2
  simp only[wA]at h;split at h
  ·rename_i s hx;exact wpIn_seq (ihx hok.1 F n hF hnx w0 S0 L Z0 G0 n0 st s .normal a w _ hn0 hx hs fun a' w' hs'=>ihy hok.2 F n hF hny w0 S0 L Z0 G0 n0 s st' e a' w' Q hn0 h hs' hQ)
  ·rename_i r hr;refine wpIn_seq (ihx hok.1 F n hF hnx w0 S0 L Z0 G0 n0 st st' e a w _ hn0 h hs fun a' w' hs'=>?_);have:=hQ a' w' hs';cases e<;>first
    |exact this
    |exact(hr _ h).elim
 |cond c x y ihx ihy=>
  intro hok F n hF hno w0 S0 L Z0 G0 n0 st st' e a w Q hn0 h hs hQ;simp only[xt,zE]at hok;have hnx:F=Fence.wide\/kh x=true:=hno.imp (fun h=>h) fun h=>by simp only[kh,zE]at h;exact h.1
  have hny:F=Fence.wide\/kh y=true:=hno.imp (fun h=>h) fun h=>by simp only[kh,zE]at h;exact h.2
  simp only[wA]at h;obtain⟨S,G,hS⟩:=hs;split at h
  ·rename_i hc;obtain⟨hv,_⟩:=(WJ hS.xZ hc).yi;exact wpIn_cond_true hv (ihx hok.1 F n hF hnx w0 S0 L Z0 G0 n0 st st' e a w Q hn0 h ⟨S,G,hS⟩ hQ)
  ·rename_i hc;obtain⟨hv,_⟩:=(WJ hS.xZ hc).yi;exact wpIn_cond_false hv (ihy hok.2 F n hF hny w0 S0 L Z0 G0 n0 st st' e a w Q hn0 h ⟨S,G,hS⟩ hQ)
  ·cases h
 |block id b ih=>
  intro hok F n hF hno w0 S0 L Z0 G0 n0 st st' e a w Q hn0 h hs hQ;simp only[xt]at hok;have hnb:F=Fence.wide\/kh b=true:=hno.imp (fun h=>h) fun h=>by simp only[kh]at h;exact h
  simp only[wA]at h;split at h
  ·rename_i i s hb;refine wpIn_block (ih hok F n hF hnb w0 S0 L Z0 G0 n0 st s (.exit i) a w _ hn0 hb hs fun a' w' hs'=>?_);unfold Exit.inBlock;split at h
   ·rename_i hi;injection h with h
    injection h with e1 e2;subst e1;subst e2;simp[hi,hQ a' w' hs']
   ·rename_i hi;injection h with h
    injection h with e1 e2;subst e1;subst e2;simp[hi,hQ a' w' hs']
  ·rename_i r hr;refine wpIn_block (ih hok F n hF hnb w0 S0 L Z0 G0 n0 st st' e a w _ hn0 h hs fun a' w' hs'=>?_);have:=hQ a' w' hs';cases e<;>first
    |exact this
    |exact(hr _ _ h).elim
 |loop b ih=>
  intro hok F n hF hno w0 S0 L Z0 G0 n0 st st' e a w Q hn0 h hs hQ;simp only[xt]at hok;have hnb:F=Fence.wide\/kh b=true:=hno.imp (fun h=>h) fun h=>by simp only[kh]at h;exact h
  simp only[wA]at h;obtain⟨m,hm'⟩:=WI h;refine wpIn_loop_rounds m ?_;clear h
  induction m generalizing st a w with
  |zero=>simp[iter]at hm'
  |succ m ihn=>
   rw[roundsIn_succ];simp only[iter]at hm';split at hm'
   ·rename_i s hb;exact ih hok F n hF hnb w0 S0 L Z0 G0 n0 st s .normal a w _ hn0 hb hs fun a' w' hs'=>ihn s a' w' hs' hm'
   ·rename_i r hr;refine ih hok F n hF hnb w0 S0 L Z0 G0 n0 st st' e a w _ hn0 hm' hs fun a' w' hs'=>?_
    have:=hQ a' w' hs';cases e<;>first
     |exact this
     |exact(hr _ hm').elim
 |rangeFunc f ps x y ihx ihy=>
  intro hok F n hF hno w0 S0 L Z0 G0 n0 st st' e a w Q hn0 h hs hQ;obtain rfl:F=Fence.wide:=hno.resolve_right (by simp[kh]);simp only[xt,zE]at hok;obtain⟨⟨⟨⟨hps,hnx⟩,hny⟩,hox⟩,hoy⟩:=hok;simp only[wA]at h;split at h
  case h_2=>cases h
  rename_i p g cap hpl hfg;split at h
  case h_2=>cases h
  rename_i it hIt;split at h
  case h_2=>cases h
  rename_i xs Y1 hx;split at h
  case h_2=>cases h
  rename_i e0 Y2 PL hro;injection h with h
  injection h with e1 e2;subst e1;subst e2;obtain⟨S,G,hS⟩:=hs;obtain⟨⟨gfn,gf1,gf2,gf3⟩,hitS⟩:=hit g it hIt;obtain⟨us,rfl,hlit,hsub,hrun⟩:=hitS cap st.Y st.Z _ Y1 hx;obtain⟨aZ,vs,ev,l1,l2,r1,r2⟩:=(WJ hS.xZ hfg).CU;obtain rfl:aZ=#[]:=by simpa using l1.symm
  obtain⟨B,hB,hcalls⟩:=hrun w S G vs.toList hS.inv ⟨by simpa using l2,fun j pv u hj hu=>r2 j pv u hj (by simpa using hu)⟩;have hBlt:∀b,B b->b<w.heap.size:=fun b hb=>by obtain⟨id,blk,h1,rfl⟩:=(hB b hb).1;exact(hS.inv.live id blk h1).lt
  have hpN:p<N:=by have:=bM.1 hps p (by rw[<-Array.mem_toList_iff,hpl];simp);simpa using this
  have hps1:ps=#[p]:=by apply U2.1;rw[hpl]
  subst hps1;refine wpIn_rangeFunc fun fn hfn=>?_
  obtain⟨rec,hrec⟩:∃rec:LoopState->Option Code->Loop,rec=fun s pe=>{state:=s,pending:=pe,fn,tmps:=a.tmps,params:=#[p],assign:=x,body:=y,defers:=w.heap.size}:=⟨_,rfl⟩
  obtain⟨W1,hW1⟩:=wZ ((w.alloc (.deferred (some []))).alloc (.loop (rec .ready none)));have hL1:W1.heap[w.heap.size+1]?=some (.loop (rec .ready none)):=by rw[<-hW1];have:=World.alloc_heap_new (w.alloc (.deferred (some []))) (.loop (rec .ready none));rwa [World.size_alloc]at this
  have hK1:W1.heap[w.heap.size]?=some (.deferred (some [])):=by rw[<-hW1];exact(Below.heap_alloc _ _ _ (by simp)).trans (World.alloc_heap_new w _)
  have hsz1:W1.heap.size=w.heap.size+2:=by rw[<-hW1];simp
  have hold1:∀b,b<w.heap.size->W1.heap[b]?=w.heap[b]?:=fun b hb=>by rw[<-hW1];exact(Below.heap_alloc _ _ _ (by simp;omega)).trans (Below.heap_alloc w _ b hb)
  have fr1:Fr dr w (fun _=>False) W1:=⟨by rw[<-hW1];rfl,by rw[<-hW1];rfl,by rw[<-hW1];rfl,by omega,fun _=>by rw[<-hW1];exact zl _,fun k hk _=>hold1 k hk⟩;obtain⟨l,hl⟩:∃l,l=w.heap.size+1:=⟨_,rfl⟩;obtain⟨a1,ha1⟩:∃a1:Act,a1={a with defers:=lX w.heap.size::a.defers}:=⟨_,rfl⟩;have hfreshAway:∀b,w.heap.size<=b->Xx S G Y1 b:=fun b hb=>⟨fun hs=>by have:=hS.inv.st b hs;omega,fun id blk hid he=>by have:=(hS.inv.live id blk (hsub id blk hid)).lt;omega⟩
  have hk0:Inv C.P W1 S G Y1 st.Z:=by have h1:Inv C.P w S G Y1 st.Z:=⟨hS.inv.st,fun id b hb=>hS.inv.top id b (hsub id b hb),fun id b hb=>hS.inv.live id b (hsub id b hb),fun id b hb=>hS.inv.apart id b (hsub id b hb),fun id id' b b' hb hb' he=>hS.inv.inj id id' b b' (hsub id b hb) (hsub id' b' hb') he,hS.inv.fS⟩;exact h1.frame fr1 (fun _ h=>h.elim)
  have hsim1:Q8 dr C.P w0 S0 L N Z0 G0 n0 ⟨st.σ,Y1,st.Z⟩ S G a1 W1:=by
   subst ha1;obtain⟨hd0,Ds,hd1,hd2,hd3⟩:=hS.defers;refine⟨hk0,fun t=>(hS.xZ t).mono (fun b hb=>⟨hb,hold1 b (hS.inv.st b hb)⟩) (zl _) (fun _ _=>rfl),hS.size,⟨by omega,w.heap.size::Ds,by simp[hd1],?_,?_⟩,hS.s0,hS.s1,fun id b hb=>hS.own id b (hsub id b hb),hS.fr.trans fr1 (fun _ _ h=>h.elim),hS.up,hS.loc⟩
   ·refine List.nodup_cons.2 ⟨fun hm=>?_,hd2⟩;have:=(zM.1 (hd3 _ hm).2.1).1;omega
   ·intro D hD;rcases zw.1 hD with rfl|hD
    ·exact⟨hd0,hK1,(hfreshAway _ (zl _))⟩
    ·obtain⟨g1,g2,g4,g3⟩:=hd3 D hD;exact⟨g1,(hold1 D (zM.1 g2).1).trans g2,g4,fun id b hb=>g3 id b (hsub id b hb)⟩
  have hsmall:w0.heap.size<=w.heap.size:=hS.fr.size;have hBL:∀b,B b->L b\/w0.heap.size<=b:=fun b hb=>by obtain⟨id,blk,h1,rfl⟩:=(hB b hb).1;exact hS.own id blk h1
  have hmk:∀D,lX D∈a1.defers->¬B D/\¬D=l:=by
   intro D hD;subst ha1;rcases zw.1 hD with h1|h1
   ·obtain rfl:=Dy h1;exact⟨fun hb=>by have:=hBlt _ hb;omega,by omega⟩
   ·obtain⟨g1,g2,_,g3⟩:=hS.defers.at h1;have:=(zM.1 g2).1;refine⟨fun hb=>?_,by omega⟩;obtain⟨id,blk,h2,h3⟩:=(hB D hb).1;exact g3 id blk h2 h3
  have hlB:¬B l:=fun hb=>by have:=hBlt l hb;omega
  obtain⟨Good,hGood⟩:∃Good:Hp->Nat->(Nat->Prop)->(Nat->GI)->LoopState->Option Code->World->Prop,Good=fun Y Z S G s pe W=>
    Q8 dr C.P w0 S0 L N Z0 G0 n0 ⟨st.σ,Y,Z⟩ S G a1 W/\(∀b,B b->Xx S G Y b)/\Xx S G Y l/\W.heap[l]?=some (.loop (rec s pe))/\w.heap.size<=W.heap.size:=⟨_,rfl⟩
  have good_frame:∀{Y Z S G s pe W W'},Good Y Z S G s pe W->Fr dr W B W'->Good Y Z S G s pe W':=by intro Y Z S G s pe W W' hg fr;subst hGood;obtain⟨g1,g2,g3,g4,g5⟩:=hg;exact⟨g1.frame fr g2 hBL (fun D hD=>(hmk D hD).1),g2,g3,(fr.block l (zM.1 g4).1 hlB).trans g4,zI g5 fr.size⟩
  have good_put:∀{Y Z S G s pe W} (s':LoopState) (pe':Option Code),Good Y Z S G s pe W->Good Y Z S G s' pe' (W.putObj l (.loop (rec s' pe'))):=by intro Y Z S G s pe W s' pe' hg;subst hGood;obtain⟨g1,g2,g3,g4,g5⟩:=hg;refine⟨g1.frame (Ht _ (fun b=>b=l) rfl) (fun b hb=>hb ▸ g3) (fun b hb=>.inr (by omega)) (fun D hD=>(hmk D hD).2),g2,g3,World.putObj_heap_same (zM.1 g4).1,by simpa using g5⟩
  have aK:∀{Y Z S G s pe W Y' Z' S' G' W'},Good Y Z S G s pe W->kW dr C.P Y Z S G W Y' Z' S' G' W'->Good Y' Z' S' G' s pe W'/\∀b,B b->W'.heap[b]?=W.heap[b]?:=by intro Y Z S G s pe W Y' Z' S' G' W' hg k;subst hGood;obtain⟨g1,g2,g3,g4,g5⟩:=hg;have hll:=(zM.1 g4).1;refine⟨⟨g1.step (dst:=none) k kx (fun _ h=>by cases h),fun b hb=>(g2 b hb).step k (ja (hBlt b hb) g5),g3.step k hll,(g3.same k hll).trans g4,zI g5 k.fr.size⟩,fun b hb=>(g2 b hb).same k (ja (hBlt b hb) g5)⟩
  obtain⟨J,hJ⟩:∃J:List Value->World->Prop,J=fun pre W=>∃Y Z S G,Good Y Z S G .ready none W/\Vj (wA C x) (wA C y) st.σ p ((us.drop pre.length).map O.v) Y Z=some (e0,Y2,PL):=⟨_,rfl⟩
  obtain⟨Jx,hJx⟩:∃Jx:List Value->World->Prop,Jx=fun _ W=>∃c S G,Good Y2 PL S G .done (some c) W/\(c=.ret/\e0=.ret\/∃i,c=.exit i/\e0=.exit i):=⟨_,rfl⟩
  have hJ0:J [] W1:=by subst hJ;refine⟨Y1,st.Z,S,G,?_,hro⟩;subst hGood;exact⟨hsim1,fun b hb=>(hB b hb).2,hfreshAway l (by omega),by rw[hl];exact hL1,by omega⟩
  have gf2':¬gfn.name= "runtime.NumGoroutine":=by simpa using gf2
  have gf3':¬gfn.body=none:=by intro h;simp[h]at gf3
  refine⟨l,[lX w.heap.size],W1,{target:=.fn (.func g) vs,args:=#[.func (.yield l) #[] #[]]},W1,g,#[.func (.yield l) #[] #[]]++vs,W1,?_,?_,?_,?_,(fun h=>by simp[Fence.wide]at h),?_⟩
  ·rw[hl,<-hW1,hrec];exact run_enterLoop_outer _ _ _ _ _
  ·simp only[resolve,ev];simp[go_sem]
  ·intro f' _;trivial
  ·simp[invoke,callFunc,gf1,gf2',gf3']
  ·have hround:∀pre u W,J pre W->us[pre.length]?=some u->YieldAt Fence.wide 0 C.P l #[u] W fun e W'=>(e=.returned (.bool true)/\J (pre++[u]) W'/\(∀b,B b->W'.heap[b]?=W.heap[b]?)/\W.heap.size<=W'.heap.size)\/(e=.returned (.bool false)/\Jx (pre++[u]) W'):=by
    intro pre u W hj hu;subst hJ;obtain⟨Y,Z,S1,G1,hg,hr⟩:=hj;obtain⟨hlt,hue⟩:=zk.1 hu;rw[zc hlt,hue]at hr;simp only[z6,Vj]at hr;split at hr
    case h_2=>cases hr
    rename_i s1 hfx;have hg1:=hg;rw[hGood]at hg1;obtain⟨g1,g2,g3,g4,g5⟩:=hg1;have hy:=run_yield (P:=C.P) (args:=#[u]) g4 (by rw[hrec];rfl);rw[hrec]at hy;refine⟨fn,_,x,y,hy,roundIn_of_wpIn (F:=Fence.wide) trivial ?_⟩;have hin:=(g1.step (dst:=some p) (u:=u) (.refl g1.inv) (zay (hlit u (zN hu))) (fun d hd=>by cases hd;exact hpN)).inner;have htm:(#[p].zip #[u]).foldl (fun tmps (t,a)=>tmps.setIfInBounds t a) a.tmps=a.tmps.setIfInBounds p u:=by simp
    rw[ha1]at hin;rw[htm];refine ihx hox (Fence.wide.inRound l) 0 (.inr ⟨l,rfl⟩) (.inr hnx) W S1 (ke Y G1) Z G1 0 _ s1 .normal _ W _ (ZS _) hfx ⟨S1,G1,hin⟩ fun a2 w2 hs2=>?_
    obtain⟨S2,G2,h2⟩:=hs2;obtain⟨hg2,hb2⟩:=aK hg h2.stp;have hl2:w2.heap[l]?=some (.loop (rec .ready none)):=by rw[hGood]at hg2;exact hg2.2.2.2.1
    have hbr:=run_beginRound (P:=C.P) hl2 (by rw[hrec]);have hrb:({rec .ready none with state:=.busy}:Loop)=rec .busy none:=by rw[hrec]
    rw[hrb]at hbr;refine⟨_,hbr,?_⟩;have hg3:=good_put .busy none hg2;have hal2:Xx S2 G2 s1.Y l:=by rw[hGood]at hg2;exact hg2.2.2.1
    have h3:=h2.zcQ (Ht (.loop (rec .busy none)) (fun b=>b=l) rfl) (fun b hb=>hb ▸ hal2) (fun D hD e=>by have:=(h2.defers.at hD).2.1;rw[e,hl2]at this;cases this)
    cases hfy:wA C y s1 with
    |none=>rw[hfy]at hr;cases hr
    |some r2=>
     obtain⟨e2,s2⟩:=r2;rw[hfy]at hr;refine ihy hoy (Fence.wide.inRound l) 0 (.inr ⟨l,rfl⟩) (.inr hny) _ S2 (ke s1.Y G2) s1.Z G2 0 s1 s2 e2 a2 _ _ (ZS _) hfy ⟨S2,G2,h3⟩ fun a4 w4 hs4=>?_
     obtain⟨S4,G4,h4⟩:=hs4;obtain⟨hg4,hb4⟩:=aK hg3 h4.stp;have hl4:w4.heap[l]?=some (.loop (rec .busy none)):=by rw[hGood]at hg4;exact hg4.2.2.2.1
     have hbb:∀b,B b->w4.heap[b]?=W.heap[b]?:=fun b hb=>(hb4 b hb).trans ((ziL (k:=b) (r:=l) (fun e=>hlB (by rw[<-e];exact hb))).trans (hb2 b hb))
     have hsz:W.heap.size<=w4.heap.size:=by have q1:=h2.fr.size;have q2:=h4.fr.size;rw[World.putObj_size]at q2;exact zI q1 q2
     cases e2 with
     |normal=>
      have he:=run_endRound (P:=C.P) none hl4;have hrr:({rec .busy none with state:=if(none:Option Code).isNone then .ready else .done,pending:=none}:Loop)=rec .ready none:=by rw[hrec];rfl
      rw[hrr]at he;refine⟨_,_,he,.inl ⟨rfl,⟨s2.Y,s2.Z,S4,G4,good_put .ready none hg4,by simpa using hr⟩,fun b hb=>(ziL (k:=b) (r:=l) (fun e=>hlB (by rw[<-e];exact hb))).trans (hbb b hb),by simpa using hsz⟩⟩
     |ret=>
      have he:=run_endRound (P:=C.P) (some .ret) hl4;have hrr:({rec .busy none with state:=if(some Code.ret:Option Code).isNone then .ready else .done,pending:=some .ret}:Loop)=rec .done (some .ret):=by rw[hrec];rfl
      rw[hrr]at he;simp only at hr;injection hr with hr
      injection hr with r1 hr;injection hr with r2 r3;subst r1;subst r2;subst r3;refine⟨_,_,he,.inr ⟨rfl,?_⟩⟩;rw[hJx];exact⟨.ret,S4,G4,good_put .done (some .ret) hg4,.inl ⟨rfl,rfl⟩⟩
     |exit i=>
      have he:=run_endRound (P:=C.P) (some (.exit i)) hl4;have hrr:({rec .busy none with state:=if(some (Code.exit i):Option Code).isNone then .ready else .done,pending:=some (.exit i)}:Loop)=rec .done (some (.exit i)):=by rw[hrec];rfl
      rw[hrr]at he;simp only at hr;injection hr with hr
      injection hr with r1 hr;injection hr with r2 r3;subst r1;subst r2;subst r3;refine⟨_,_,he,.inr ⟨rfl,?_⟩⟩;rw[hJx];exact⟨.exit i,S4,G4,good_put .done (some (.exit i)) hg4,.inr ⟨i,rfl,rfl⟩⟩
     |_=>cases hr
   have hcl:=hcalls 0 l J Jx (fun pre W W' hj fr=>by
     subst hJ;obtain⟨Y,Z,S1,G1,hg,hr⟩:=hj;exact⟨Y,Z,S1,G1,good_frame hg fr,hr⟩) (fun pre W W' hj fr=>by
     subst hJx;obtain⟨c,S1,G1,hg,hr⟩:=hj;exact⟨c,S1,G1,good_frame hg fr,hr⟩) (fun pre W hj=>by
     subst hJ;obtain⟨Y,Z,S1,G1,hg,hr⟩:=hj;rw[hGood]at hg;exact hg.1.inv.fS.mono fun b hb=>⟨hg.1.inv.st b hb,rfl⟩) hround W1 hJ0 (fun b hb=>hold1 b (hBlt b hb)) (by omega)
   refine rW.2 ((rW.1 hcl).mono ?_);rintro e W2 ⟨⟨v,rfl⟩,hj|⟨pre,hj⟩⟩
   ·rw[hJ]at hj;obtain⟨Y,Z,S1,G1,hg,hr⟩:=hj;rw[zp]at hr;simp only[yX,Vj]at hr;injection hr with hr
    injection hr with r1 hr;injection hr with r2 r3;subst r1;subst r2;subst r3;have hl2:W2.heap[l]?=some (.loop (rec .ready none)):=by rw[hGood]at hg;exact hg.2.2.2.1
    have he:=run_endLoop (P:=C.P) hl2 (by rw[hrec];simp);have hrr:({rec .ready none with state:=.exhausted}:Loop)=rec .exhausted none:=by rw[hrec]
    have hrp:(rec .ready none).pending=none:=by rw[hrec]
    rw[hrr,hrp]at he;have hg':=good_put .exhausted none hg;rw[hGood]at hg';have hq:=hQ a1 _ ⟨S1,G1,hg'.1⟩;rw[ha1]at hq;exact⟨none,_,he,hq⟩
   ·rw[hJx]at hj;obtain⟨c,S1,G1,hg,hc⟩:=hj;have hl2:W2.heap[l]?=some (.loop (rec .done (some c))):=by rw[hGood]at hg;exact hg.2.2.2.1
    have he:=run_endLoop (P:=C.P) hl2 (by rw[hrec];simp);have hrr:({rec .done (some c)with state:=.exhausted}:Loop)=rec .exhausted (some c):=by rw[hrec]
    have hrp:(rec .done (some c)).pending=some c:=by rw[hrec]
    rw[hrr,hrp]at he;have hg':=good_put .exhausted (some c) hg;rw[hGood]at hg';have hq:=hQ a1 _ ⟨S1,G1,hg'.1⟩;rw[ha1]at hq;refine⟨some c,_,he,?_⟩;rcases hc with⟨rfl,rfl⟩|⟨i,rfl,rfl⟩
    ·exact wpIn_ret hq
    ·exact wpIn_exit hq
 |exit id=>
  intro _ F n hF _ w0 S0 L Z0 G0 n0 st st' e a w Q _ h hs hQ;simp only[wA]at h;injection h with h
  injection h with e1 e2;subst e1;subst e2;exact wpIn_exit (hQ a w hs)
 |scope b _=>intro _ F n hF _ w0 S0 L Z0 G0 n0 st st' e a w Q _ h;simp[wA]at h
 |label l=>
  intro _ F n hF _ w0 S0 L Z0 G0 n0 st st' e a w Q _ h hs hQ;simp only[wA]at h;injection h with h
  injection h with e1 e2;subst e1;subst e2;exact wpIn_label (hQ a w hs)
 |goto l=>intro _ F n hF _ w0 S0 L Z0 G0 n0 st st' e a w Q _ h;simp[wA]at h
 |ret=>
  intro _ F n hF _ w0 S0 L Z0 G0 n0 st st' e a w Q _ h hs hQ;simp only[wA]at h;injection h with h
  injection h with e1 e2;subst e1;subst e2;exact wpIn_ret (hQ a w hs)
 |refuse why=>intro _ F n hF _ w0 S0 L Z0 G0 n0 st st' e a w Q _ h;simp[wA]at h
end
variable{dr:Prop}
section
variable{C:Ctx}{pf:FuncId->Bool}
theorem Kj{w:World}{S:Nat->Prop}{G:Nat->GI}{st:St}{a:Act}(hi:Inv C.P w S G st.Y st.Z)(hs:∀t,qw w S G st.Z (st.σ t) (a.tmps.getD t undef)) :
  ∀{l:List ResultVar} {xs:zb},yH (l.map (YO C.P st))=some xs->∃vs,(l.mapM (m:=Sem) fun r=>match r with
   | .tmp t=>pure (a.tmps.getD t undef)
   | .cell p t=>do loadVar t (<-asAddr (a.tmps.getD p undef))).run C.P w=.ok vs w/\Zip (qw w S G st.Z) xs vs
 |[],xs,h=>by
  simp only[yX,yH]at h;injection h with h
  subst h;exact⟨[],by simp,.nil⟩
 |r::l,xs,h=>by
  simp only[z6]at h;cases d:YO C.P st r with
  |none=>rw[d]at h;simp[yH]at h
  |some p=>
   rw[d]at h;simp only[yH]at h;cases A:yH (l.map (YO C.P st))with
   |none=>rw[A]at h;simp at h
   |some ys=>
    rw[A]at h;simp at h;subst h;obtain⟨vs,H,I⟩:=Kj hi hs A;cases r with
    |tmp t=>
     simp only[YO]at d;injection d with d
     subst d;refine⟨a.tmps.getD t undef::vs,?_,.cons (hs t) I⟩;simp only[List.mapM_cons,xA,Ym,vm,H]
    |cell q t=>
     simp only[YO]at d;obtain⟨v,w',S',G',L,k,hx⟩:=tB (dr:=True) hi d (hs q);have x:=hs q;have B:∃v,(do loadVar t (<-asAddr (a.tmps.getD q undef)):Sem Value).run C.P w=.ok v w/\qw w S G st.Z p v:=by
      unfold Ze at d;split at d
      ·rename_i cs f;rw[f]at x;have D:=x.V6;generalize a.tmps.getD q undef=u at *;cases D with
       |ptr us M N=>obtain⟨v,y,n⟩:=aI (G:=G) (Z:=st.Z) (w:=w) (S:=S) d _ us (fun j z J=>⟨(M j z J).2,.c (N j z J)⟩);exact⟨v,by simp[asAddr,y],n⟩
      ·rename_i id i j f;rw[f]at x;have E:=x.WV;obtain⟨hid,Q⟩:=x.xq;rw[Q]at L⊢;split at d
       ·rename_i b R;split at d
        ·rename_i c D;obtain⟨cur,T,h4,U⟩:=(hi.live id b R).row E;have o:∀k:Nat,w.cell? ((⟨(G id).g,i*(G id).s+j,none⟩:Addr).add k)=cur[i*(G id).s+j+k]?:=by intro k;rw[ko,zdY w _ _ cur _ _ T]
         obtain⟨v,y,n⟩:=aI (G:=G) (Z:=st.Z) (w:=w) (S:=S) d ⟨(G id).g,i*(G id).s+j,none⟩ (fun k=>(cur[i*(G id).s+j+k]?).getD undef) (fun k z K=>by
          rw[q8]at K;obtain⟨u,W,X⟩:=U i (j+k) c z D K;rw[o];have e:i*(G id).s+j+k=i*(G id).s+(j+k):=by omega
          rw[e,W];exact⟨rfl,X.2.1⟩)
         exact⟨v,by simp[asAddr,y],n⟩
        ·cases d
       ·cases d
      ·cases d
     obtain⟨v,y,F⟩:=B;refine⟨v::vs,?_,.cons F I⟩;simp only[List.mapM_cons,xA,y,vm,H,Ym]
theorem Vr{P:Program}{fn:Func}{a:Array Value}{R:Ending->World->Prop}:∀(c:List Nat) (w:World),c.Nodup->(∀D∈c,w.heap[D]?=some (.deferred (some [])))->(∀f,Fr dr w (fun b=>b∈c) f->LeavesIn Fence.wide 0 P fn a R [] .returning f)->LeavesInM Fence.wide 0 P fn a R (c.map lX) .returning w
 |[],w,_,_,h=>h w (Fr.refl _ _)
 |D::c,w,i,hd,h=>by
  obtain⟨j,l⟩:=List.nodup_cons.1 i;refine⟨by simp,.inl ⟨D,_,rfl,run_takeDeferred (hd D (by simp)),Vr c _ l (fun g d=>?_) fun f m=>h f ?_⟩⟩
  ·exact(ziL (k:=g) (r:=D) fun e=>j (by rw[<-e];exact d)).trans (hd g (by simp[d]))
  ·exact(Ht (.deferred none) (fun b=>b∈D::c) (by simp)).trans m (fun b _ n=>by simp[n])
theorem cD(M:∀g a,C.Γ g=some a->yY dr C.P g a)(N:∀g a,pf g=true->C.Γ g=some a->WZ a)(Q:∀g a,C.bk g=true->C.Γ g=some a->WM a)(hit:∀g it,C.it g=some it->Dz dr C.P g it)(hm:C.P.follows .mixedOrders=true)
  {f:FuncId} {fn:Func} {code:Code} (hf:C.P.funcs[f]?=some fn) (k:fn.body=some code) (R:xt pf C.dyn C.PJ C.bk fn.ntmps code=true)
  {args:zb} {Y Y':Hp} {Z Z':Nat} {x:O} (h:yR C fn args Y Z=some (x,Y',Z')) {w:World} {S:Nat->Prop} {G:Nat->GI} {vs:List Value} (hi:Inv C.P w S G Y Z) (T:Zip (qw w S G Z) args vs) (hn:args.length<=fn.ntmps) :
  Calls C.P f vs.toArray w fun e w'=>∃v S' G',e=.returned v/\kW dr C.P Y Z S G w Y' Z' S' G' w'/\qw w' S' G' Z' x v:=by
 unfold yR at h;simp only[k]at h;refine rW.1 (callsIn_of_wp_marks (n:=0) hf k trivial ?_);have F:mF dr C.P w S (ke Y G) fn.ntmps Z G w.heap.size ⟨vn args,Y,Z⟩ {tmps:=vs.toArray++Array.replicate (fn.ntmps-vs.toArray.size) undef,defers:=[]} w:=by
  refine⟨S,G,hi,fun t=>?_,?_,.nil (zl _),fun _ h=>h,fun _ h=>.inl h,fun id b k=>.inl ⟨id,b,k,rfl⟩,Fr.refl _ _,zl _,fun _ _=>rfl⟩
  ·have U:vs.length=args.length:=T.1.symm;unfold vn;by_cases ht:t<args.length
   ·have p:args[t]?=some args[t]:=zq ht;have l:vs[t]?=some (vs[t]'(by omega)):=zq (by omega);have h3:=T.2 t _ _ p l;have W:(vs.toArray++Array.replicate (fn.ntmps-vs.toArray.size) undef)[t]?=vs[t]?:=by rw[vU (by simpa using(by omega:t<vs.length))];simp
    simp only[p,Yn];rw[yJ,W,l];exact h3
   ·have p:args[t]?=none:=jk (by omega);have W:(vs.toArray++Array.replicate (fn.ntmps-vs.toArray.size) undef).getD t undef=undef:=by rw[yJ,Array.getElem?_append_right (by simpa using(by omega:vs.length<=t)),aF];split<;>rfl
    simp only[p,Option.getD_none];rw[W];exact kx
  ·have U:vs.length=args.length:=T.1.symm;simp;omega
 have H:∀(e:Exit) (st:St),(e=.normal\/e=.ret)->wA C code ⟨vn args,Y,Z⟩=some (e,st)->(Zq C.P fn st).map (fun x=>(x,st.Y,st.Z))=some (x,Y',Z') ->
   code.wpIn Fence.wide 0 C.P (bodyPostM Fence.wide 0 C.P fn fun e w'=>∃v S' G',e=.returned v/\kW dr C.P Y Z S G w Y' Z' S' G' w'/\qw w' S' G' Z' x v) {tmps:=vs.toArray++Array.replicate (fn.ntmps-vs.toArray.size) undef,defers:=[]} w:=by
  intro e st he m hr;obtain⟨r,d,s⟩:=z7 hr;injection s with e1 s
  injection s with e2 e3;subst e1;subst e2;subst e3;refine nN M N Q hit hm code R Fence.wide 0 (.inl rfl) (.inl rfl) w S (ke Y G) Z G w.heap.size _ st e _ w _ (zl _) m F fun E w1 X=>?_
  obtain⟨S',G',c⟩:=X;obtain⟨hd0,Ds,hd1,hd2,o⟩:=c.defers;have I:LeavesInM Fence.wide 0 C.P fn E.tmps (fun e w'=>∃v S' G',e=.returned v/\kW dr C.P Y Z S G w st.Y st.Z S' G' w'/\qw w' S' G' st.Z r v) E.defers .returning w1:=by
   rw[hd1];refine Vr (dr:=dr) Ds w1 hd2 (fun D hD=>(o D hD).2.1) fun w' A=>?_
   have J:∀b,b∈Ds->Xx S' G' st.Y b:=fun b k=>⟨(o b k).2.2.1,(o b k).2.2.2⟩
   have q:=c.inv.frame A J;have Ls:∀t,qw w' S' G' st.Z (st.σ t) (E.tmps.getD t undef):=fun t=>(c.xZ t).mono (fun b k=>⟨k,A.block b (c.inv.st b k) fun hb'=>(J b hb').1 k⟩) (zl _) (fun _ _=>rfl)
   have hk:kW dr C.P Y Z S G w st.Y st.Z S' G' w':=⟨q,c.up,c.loc,c.s0,c.s1,c.own,c.fr.trans A fun b k p=>by have:=(o b p).1;omega⟩;have K:∃v,(results fn E.tmps).run C.P w'=.ok v w'/\qw w' S' G' st.Z r v:=by
    unfold Zq at d;have go:∀xs,yH (fn.results.toList.map (YO C.P st))=some xs->r=(match xs with|[x]=>x|xs=>.w5 xs)->∃v,(results fn E.tmps).run C.P w'=.ok v w'/\qw w' S' G' st.Z r v:=by
     intro xs hx i;obtain⟨us,p,l⟩:=Kj q Ls hx;have L:(results fn E.tmps).run C.P w'=.ok (if h:us.toArray.size=1 then us.toArray[0]else .tuple us.toArray) w':=by unfold results;rw[Array.mapM_eq_mapM_toList];simp only[xA,Sem.run_map];erw [p];rfl
     refine⟨_,L,?_⟩
     match xs,l,i with
     |[],l,i=>rw[l.Yq];subst i;exact .w5 rfl (by simp)
     |[y],l,i=>obtain⟨u,rfl,hu⟩:=YS l;subst i;simpa using hu
     |y::z::ys,l,i=>have hl:=l.1;subst i;rw[dif_neg (by simp at hl⊢;omega)];exact .w5 (by simpa using hl) (fun j pv u hj hu=>l.2 j pv u hj (by simpa using hu))
    split at d
    ·rename_i y hy;injection d with d
     exact go [y] hy d.symm
    ·rename_i xs B hx;injection d with d
     refine go xs hx ?_;rw[<-d]
     match xs,B with
     |[],_=>rfl
     |[y],B=>exact(B y rfl).elim
     |y::z::ys,_=>rfl
    ·cases d
   obtain⟨v,hv1,hv2⟩:=K;exact⟨v,hv1,v,S',G',rfl,hk,hv2⟩
  rcases he with rfl|rfl
  ·exact I
  ·exact I
 split at h
 ·rename_i st m;exact H _ st (.inl rfl) m h
 ·rename_i st m;exact H _ st (.inr rfl) m h
 ·cases h
end
variable{dr:Prop}
def O.isV:O->Bool
 | .v _=>true
 |_=>false
def O.flat:O->Bool
 | .v _=>true
 | .w5 cs=>cs.all O.isV
 |_=>false
def Rs(s:Nat):O->O
 | .nil=>.sl s []
 |x=>x
def yS:List Nat->zb->zb
 |s::a,x::l=>Rs s x::yS a l
 |_,l=>l
def Hu(x y:O):Prop:=x=y\/(x=.nil/\∃s,y=.sl s [])
def XG:O->O->Prop
 | .w5 xs,.w5 ys=>xs.length=ys.length/\∀(j:Nat) (x y:O),xs[j]?=some x->ys[j]?=some y->Hu x y
 |x,y=>Hu x y
def zh(a:Bool)(b:List Nat)(F:zb->Option O):AM.Spec:=fun args Y Z=>
 match zC Y args with
 |some (c,Y1)=>match F (yS b c)with
  |some r=>if r.flat=true\/args.all O.noOwn=true then some (r,Y,Z)else if a=true then some (r,Y1,Z)else none
  |none=>none
 |none=>none
def jm(a:List Nat)(F:zb->Option (Option Blk)):AM.Spec:=fun args Y Z=>
 match zC Y args with
 |some (c,Y1)=>match F (yS a c)with
  |some none=>some (.nil,Y1,Z)
  |some (some b)=>some (.own Z 0 b.es.length,qq Y1 Z (some b),Z+1)
  |none=>none
 |none=>none
theorem Rt{α:Type}(f:Nat->α){i j:Nat}(h:i≠j)(x y:α):qq (qq f i x) j y=qq (qq f j y) i x:=by
 funext k;unfold qq;by_cases hi:k=i
 ·subst hi;simp[h]
 ·simp[hi]
theorem zu(a:List Nat)(F:zb->Option O):WZ (zh false a F):=by
 intro args Y Z r Y' Z' h;unfold zh at h;split at h
 ·rename_i b Y1 f;split at h
  ·rename_i g i;split at h
   ·rename_i j;injection h with h
    injection h with c h;injection h with d e;subst c;exact⟨⟨d.symm,e.symm⟩,trivial⟩
   ·simp at h
  ·cases h
 ·cases h
structure fK (C:Ctx) (pf:FuncId->Bool) (f:FuncId) (fn:Func) (code:Code):Prop where
 func:C.P.funcs[f]?=some fn
 name:(fn.name== "runtime.NumGoroutine")=false
 body:fn.body=some code
 ok:xt pf C.dyn C.PJ C.bk fn.ntmps code=true
structure kB (dr:Prop) (C:Ctx) (pf:FuncId->Bool):Prop where
 spec:∀g spec,C.Γ g=some spec->yY dr C.P g spec
 quiet:∀g spec,pf g=true->C.Γ g=some spec->WZ spec
 mixed:C.P.follows .mixedOrders=true
 box:∀g spec,C.bk g=true->C.Γ g=some spec->WM spec:=by intro _ _ h;cases h
 iter:∀g it,C.it g=some it->Dz dr C.P g it:=by intro _ _ h;cases h
abbrev Good:=kB True
theorem Xe{Y Y1:Hp}{x y:O}(h:wI Y x=some (y,Y1))(a:x.kq=false):Y1=Y:=by
 unfold wI at h;split at h<;>first
  |(injection h with h;injection h with _ h;exact h.symm)
  |(simp[O.kq]at a;done)
  |(split at h<;>first|(injection h with h;injection h with _ h;exact h.symm)|cases h)
  |cases h
theorem KE:∀{xs ys:zb} {Y Y1:Hp},wJ Y xs=some (ys,Y1)->xs.any O.kq=false->Y1=Y
 |[],ys,Y,Y1,h,_=>by
  simp only[wJ]at h;injection h with h
  injection h with _ h;exact h.symm
 |x::l,ys,Y,Y1,h,a=>by
  simp only[wJ]at h;simp only[wX,wP]at a;split at h
  ·rename_i y d b;split at h
   ·rename_i r e c;injection h with h
    injection h with _ h;subst h;rw[KE c a.2,Xe b a.1]
   ·cases h
  ·cases h
theorem nO{Y Y1:Hp}{x y:O}(h:qt Y x=some (y,Y1))(a:x.noOwn=true):Y1=Y:=by
 unfold qt at h;split at h
 ·split at h
  ·rename_i l c b;injection h with h
   injection h with _ h;subst h;exact KE b (by simpa[O.noOwn]using a)
  ·cases h
 ·refine Xe h ?_;cases x<;>simp_all[O.noOwn,O.kq]
theorem Xf:∀{xs ys:zb} {Y Y1:Hp},zC Y xs=some (ys,Y1)->xs.all O.noOwn=true->Y1=Y
 |[],ys,Y,Y1,h,_=>by
  simp only[zC]at h;injection h with h
  injection h with _ h;exact h.symm
 |x::l,ys,Y,Y1,h,a=>by
  simp only[zC]at h;simp only[wi,zE]at a;split at h
  ·rename_i y d b;split at h
   ·rename_i r e c;injection h with h
    injection h with _ h;subst h;rw[Xf c a.2,nO b a.1]
   ·cases h
  ·cases h
section
variable{C:Ctx}{pf:FuncId->Bool}{f:FuncId}{fn:Func}{code:Code}
theorem kW.outer{P:Program}{Y:Hp}{Z:Nat}{S:Nat->Prop}{G:Nat->GI}{w w':World}(h:Inv P w S G Y Z)(k:Fr dr w (fun _=>False) w') :
  kW dr P Y Z S G w Y Z (fun b=>S b\/(w.heap.size<=b/\b<w'.heap.size)) G w':=by
 have c:∀b,b<w.heap.size->w'.heap[b]?=w.heap[b]?:=fun b a=>k.block b a fun h=>h
 have d:∀b,S b->(S b\/(w.heap.size<=b/\b<w'.heap.size))/\w'.heap[b]?=w.heap[b]?:=fun b a=>⟨.inl a,c b (h.st b a)⟩
 refine⟨⟨fun b a=>?_,h.top,fun id b a=>(h.live id b a).mono d (zl _) (fun _ _=>rfl) (c _ (h.live id b a).lt),fun id b a hs=>?_,h.inj,h.fS.mono d⟩,zl _,fun _ _=>rfl,fun _ a=>.inl a,fun b a=>?_,fun id b a=>.inl ⟨id,b,a,rfl⟩,⟨k.os,k.tape,k.output,k.size,k.drawn,fun b a _=>c b a⟩⟩
 ·rcases a with a|a
  ·exact ja (h.st b a) k.size
  ·exact a.2
 ·rcases hs with hs|hs
  ·exact h.apart id b a hs
  ·have:=(h.live id b a).lt;omega
 ·rcases a with a|a
  ·exact .inl a
  ·exact .inr (.inr a.1)
theorem aN{P:Program}{w:World}{S:Nat->Prop}(G:Nat->GI)(a:∀b,S b->b<w.heap.size)(c:MH P w S):Inv P w S G (fun _=>none) 0:=
 ⟨a,fun _ _ h=>(by cases h),fun _ _ h=>(by cases h),fun _ _ h=>(by cases h),fun _ _ _ _ h=>(by cases h),c⟩
theorem Ws{G:Nat->GI}{b:Nat}(h:ke (fun _=>none) G b):False:=by obtain⟨_,_,h,_⟩:=h;cases h
theorem Zip.closed{w:World}{S:Nat->Prop}{G:Nat->GI}{Z:Nat}{xs:zb}{us:List Value}(h:Zip (ya w S) xs us):Zip (qw w S G Z) xs us:=h.imp fun _ _ h=>.c h
theorem nQ{w w':World}{S S':Nat->Prop}{r:O}{v:Value}(h:ya w S r v)(a:r.flat=true):ya w' S' r v:=by
 cases h with
 |v h=>exact .v h
 |w5 b e=>
  refine .w5 b fun j c u d f=>?_
  simp only[O.flat,ql]at a;have:=a c (zN d);have g:=e j c u d f;cases c<;>simp[O.isV]at this;obtain⟨rfl,b⟩:=g.yi;exact .v b
 |_=>simp[O.flat]at a
theorem Qk(c:kB dr C pf)(i:fK C pf f fn code){args:zb}{x:O}{Y1:Hp}{a:Nat}(h:yR C fn args (fun _=>none) 0=some (x,Y1,a))(l:args.length<=fn.ntmps)
  {w:World} {S:Nat->Prop} {vs:List Value} (m:∀b,S b->b<w.heap.size) (j:MH C.P w S) (n:Zip (ya w S) args vs) :
  Calls C.P f vs.toArray w fun e w'=>∃v S' G',e=.returned v/\Fr dr w (fun _=>False) w'/\Inv C.P w' S' G' Y1 a/\qw w' S' G' a x v/\(∀b,S b->S' b)/\(∀b,S' b->S b\/w.heap.size<=b)/\(∀id blk,Y1 id=some blk->w.heap.size<=(G' id).g):=by
 refine(cD c.spec c.quiet c.box c.iter c.mixed i.func i.body i.ok h (aN (fun _=>⟨0,0,0⟩) m j) n.closed l).mono fun e w' o=>?_
 obtain⟨v,S',G',p,k,q⟩:=o;refine⟨v,S',G',p,⟨k.fr.os,k.fr.tape,k.fr.output,k.fr.size,k.fr.drawn,fun b d _=>k.fr.block b d Ws⟩,k.inv,q,k.keep,fun b d=>?_,fun id blk d=>?_⟩
 ·rcases k.from_ b d with h|h|h
  ·exact .inl h
  ·exact(Ws h).elim
  ·exact .inr h
 ·rcases k.own id blk d with h|h
  ·exact(Ws h).elim
  ·exact h
theorem tM{w:World}{S:Nat->Prop}{x:O}{u:Value}(h:ya w S x u)(s:Nat):ya w S (Rs s x) u:=by
 unfold Rs;split
 ·cases h;exact .sl (es:=[]) (fun _ _=>undef) (by simp) (by simp) (by simp[maxLen]) (by simp) (by simp) (by simp)
 ·exact h
theorem W4{w:World}{S:Nat->Prop}:∀{a:List Nat} {xs:zb} {us:List Value},Zip (ya w S) xs us->Zip (ya w S) (yS a xs) us
 |[],xs,us,h=>by unfold yS;exact h
 |s::a,[],us,h=>by unfold yS;exact h
 |s::a,x::xs,us,h=>by obtain⟨u,b,rfl,c,d⟩:=h.y9;simp only[yS];exact .cons (tM c s) (W4 d)
theorem LH{w:World}{S:Nat->Prop}{x y:O}{u:Value}(h:ya w S x u)(a:Hu x y):ya w S y u:=by
 rcases a with rfl|⟨rfl,s,rfl⟩
 ·exact h
 ·exact tM h s
theorem AH{w:World}{S:Nat->Prop}{x y:O}{u:Value}(h:ya w S x u)(a:XG x y):ya w S y u:=by
 unfold XG at a;split at a
 ·cases h with
  |w5 g d=>
   rename_i xs ys us;refine .w5 (by omega) fun j e v c f=>?_
   have b:j<xs.length:=by rw[a.1];exact(zk.1 c).1
   exact LH (d j xs[j] v (zq b) f) (a.2 j xs[j] e (zq b) c)
 ·exact LH h a
theorem DA(hg:kB dr C pf)(q:fK C pf f fn code)(j:Bool)(ns:List Nat)(F:zb->Option O)(hF:∀args r,F args=some r->args.length<=fn.ntmps/\∃s,zv C fn args=some s/\XG s r):yY dr C.P f (zh j ns F):=by
 refine⟨⟨fn,q.func,q.name,by rw[q.body];rfl⟩,?_⟩;intro args Y Z r Y' Z' h w S G vs hi hz;unfold zh at h;split at h
 ·rename_i aZ Y1 u;split at h
  ·rename_i s y;obtain⟨hn,rr,a,z⟩:=hF _ s y;unfold zv at a;split at a
   ·rename_i x hpe nxe A;obtain⟨⟨r1,T⟩,B,k⟩:=z7 a;simp only at k;subst k;obtain⟨S1,t,D,E⟩:=jJ (dr:=dr) hi u hz;refine(Qk hg q A hn t.inv.st t.inv.fS (W4 D)).mono fun e w' hh=>?_
    obtain⟨v,S',G',U,W,l,hx,hs0,H,_⟩:=hh;obtain⟨S2,X,I⟩:=YQ (dr:=dr) l B hx;have J:=AH I z;have m:∀b,S2 b->S1 b\/(w.heap.size<=b/\b<w'.heap.size):=by
     intro b i;have n:=X.inv.st b i;rcases X.from_ b i with h1|⟨id,blk,h1,rfl⟩|h1
     ·rcases H b h1 with K|K
      ·exact .inl K
      ·exact .inr ⟨K,n⟩
     ·rcases Nat.lt_or_ge (G' id).g w.heap.size with h3|h3
      ·rename_i o;have:=o id blk h1;omega
      ·exact .inr ⟨h3,n⟩
     ·exact absurd h1 (by omega)
    split at h
    ·rename_i d;injection h with h
     injection h with L h;injection h with M N;subst L;subst M;subst N;refine⟨v,_,G,U,kW.outer hi W,.c ?_⟩;rcases d with Q|R
     ·exact nQ J Q
     ·have p:=E R;exact J.mono fun b i=>⟨by rw[<-p];exact m b i,rfl⟩
    ·split at h
     ·injection h with h;injection h with L h;injection h with M N;subst L;subst M;subst N;exact⟨v,_,G,U,t.trans (kW.outer t.inv W),.c (J.mono fun b i=>⟨m b i,rfl⟩)⟩
     ·cases h
   ·cases a
  ·cases h
 ·cases h
end
variable{dr:Prop}
section
variable{P:Program}{Y1 Y2 hpe:Hp}{Z nxe:Nat}{S1 S':Nat->Prop}{G G':Nat->GI}{w w':World}{D:Nat->Prop}
theorem aO(hi:Inv P w S1 G Y1 Z)(a:∀id b,Y2 id=some b->Y1 id=some b/\¬D (G id).g)(l:∀b,D b->ke Y1 G b)(d:Fr dr w D w')(e:Inv P w' S' G' hpe nxe)(f:∀b,S1 b->S' b)(i:∀b,S' b->S1 b\/D b\/w.heap.size<=b) :
  kW dr P Y1 Z S1 G w Y2 Z S' G w':=by
 have m:∀b,S1 b->¬D b:=fun b c hd=>by obtain⟨id,blk,p,rfl⟩:=l b hd;exact hi.apart id blk p c
 have q:∀b,S1 b->S' b/\w'.heap[b]?=w.heap[b]?:=fun b c=>⟨f b c,d.block b (hi.st b c) (m b c)⟩
 refine⟨⟨e.st,fun id b c=>hi.top id b (a id b c).1,fun id b c=>?_,fun id b c hs=>?_,fun id id' b o c n r=>hi.inj id id' b o (a id b c).1 (a id' o n).1 r,e.fS⟩,zl _,fun _ _=>rfl,f,fun b c=>?_,fun id b c=>.inl ⟨id,b,(a id b c).1,rfl⟩,⟨d.os,d.tape,d.output,d.size,d.drawn,fun k s t=>d.block k s fun hd=>t (l k hd)⟩⟩
 ·have j:=hi.live id b (a id b c).1;exact j.mono q (zl _) (fun _ _=>rfl) (d.block _ j.lt (a id b c).2)
 ·have j:=hi.live id b (a id b c).1;rcases i _ hs with h|h|h
  ·exact hi.apart id b (a id b c).1 h
  ·exact(a id b c).2 h
  ·have:=j.lt;omega
 ·rcases i b c with h|h|h
  ·exact .inl h
  ·exact .inr (.inl (l b h))
  ·exact .inr (.inr h)
theorem nR(hi:Inv P w S1 G Y1 Z)(f:∀id b,Y2 id=some b->Y1 id=some b/\¬D (G id).g)(K:∀b,D b->ke Y1 G b)(M:Fr dr w D w')(l:Inv P w' S' G' hpe nxe)(E:∀b,S1 b->S' b)(F:∀b,S' b->S1 b\/D b\/w.heap.size<=b)
  {id:Nat} {b:Blk} (B:hpe id=some b) (v:b.arr=true) (s:D (G' id).g\/w.heap.size<=(G' id).g) :
  kW dr P Y1 Z S1 G w (qq Y2 Z (some b)) (Z+1) S' (qq G Z (G' id)) w':=by
 have x:=aO hi f K M l E F;have y:∀id' z,Y2 id'=some z->(G id').g≠(G' id).g:=fun id' z L q=>by
  rcases s with h|h
  ·exact(f id' z L).2 (q ▸ h)
  ·have:=(hi.live id' z (f id' z L).1).lt;omega
 have r:∀k,k<Z->qq G Z (G' id) k=G k:=fun k a=>zD _ _ _ _ (by omega)
 have m:∀k,k≠Z->qq Y2 Z (some b) k=Y2 k:=fun k a=>zD _ _ _ _ a
 have H:∀b,S' b->S' b/\w'.heap[b]?=w'.heap[b]?:=fun b B=>⟨B,rfl⟩
 have e:∀k c,Y2 k=some c->k<Z:=fun k c a=>hi.top k c (f k c a).1
 refine⟨⟨l.st,fun k c a=>?_,fun k c a=>?_,fun k c a=>?_,fun k n c A a o q=>?_,l.fS⟩,by omega,r,x.keep,x.from_,fun n c a=>?_,x.fr⟩
 ·by_cases d:k=Z
  ·omega
  ·rw[m k d]at a;have:=e k c a;omega
 ·by_cases d:k=Z
  ·subst d;simp only[wU]at a⊢;injection a with a
   subst a;have t:=l.live id _ B;refine⟨t.bs,fun C=>⟨t.size C,t.len C,t.fit C,?_⟩,t.AD⟩;obtain⟨cur,N,Q,R⟩:=t.row C;refine⟨cur,N,Q,fun i j c S I T=>?_⟩;obtain⟨u,U,J⟩:=R i j c S I T;exact⟨u,U,J.1,.c (J.1 v),J.2.2⟩
  ·rw[m k d]at a;rw[r k (e k c a)];exact(x.inv.live k c a).mono H (by omega) r rfl
 ·by_cases d:k=Z
  ·subst d;simp only[wU];exact l.apart id b B
  ·rw[m k d]at a;rw[r k (e k c a)];exact x.inv.apart k c a
 ·by_cases d:k=Z<;>by_cases p:n=Z
  ·omega
  ·subst d;rw[m n p]at o;rw[r n (e n A o)]at q;simp only[wU]at q;exact(y n A o q.symm).elim
  ·subst p;rw[m k d]at a;rw[r k (e k c a)]at q;simp only[wU]at q;exact(y k c a q).elim
  ·rw[m k d]at a;rw[m n p]at o;rw[r k (e k c a),r n (e n A o)]at q;exact hi.inj k n c A (f k c a).1 (f n A o).1 q
 ·by_cases d:n=Z
  ·subst d;simp only[wU];rcases s with h|h
   ·exact .inl (K _ h)
   ·exact .inr h
  ·rw[m n d]at a;rw[r n (e n c a)];exact .inl ⟨n,c,(f n c a).1,rfl⟩
theorem nS{id n:Nat}{v:Value}(h:qw w' S' G' nxe (.own id 0 n) v):qw w' S' (qq G Z (G' id)) (Z+1) (.own Z 0 n) v:=by have a:=h.vy;obtain⟨cap,e,b,c,d,rfl⟩:=h.vf;have:=qw.own (w:=w') (S:=S') (G:=qq G Z (G' id)) (Z:=Z+1) (id:=Z) (off:=0) (n:=n) (cap:=cap) (by omega) b c (by simpa using d) (by simpa using a);simpa using this
end
section
variable{C:Ctx}{pf:FuncId->Bool}{f:FuncId}{fn:Func}{code:Code}
def XJ(r:Option Blk)(x:O)(Y:Hp)(_:Nat):Prop:=match r with
 |none=>x=.nil
 |some b=>∃id,x=.own id 0 b.es.length/\Y id=some b/\b.arr=true
theorem QK(K:kB dr C pf)(n:fK C pf f fn code)(M:List Nat)(F:zb->Option (Option Blk))(L:∀args r,F args=some r->args.length<=fn.ntmps/\∃x Y Z,yR C fn args (fun _=>none) 0=some (x,Y,Z)/\XJ r x Y Z) :
  yY dr C.P f (jm M F):=by
 refine⟨⟨fn,n.func,n.name,by rw[n.body];rfl⟩,?_⟩;intro args Y Z r Y' Z' h w S G vs hi N;unfold jm at h;split at h
 ·rename_i Q Y1 s;obtain⟨S1,g,o,_⟩:=jJ (dr:=dr) hi s N;have i:∀id b,Y1 id=some b->Y1 id=some b/\¬False:=fun id b h=>⟨h,fun h=>h⟩
  split at h
  ·rename_i j;obtain⟨t,x,hpe,nxe,k,d⟩:=L _ none j;injection h with h
   injection h with u h;injection h with y z;subst u;subst y;subst z;simp only[XJ]at d;subst d;refine(Qk K n k t g.inv.st g.inv.fS (W4 o)).mono fun e w' A=>?_
   obtain⟨v,S',G',B,E,a,H,l,m,_⟩:=A;have I:=aO (dr:=dr) (D:=fun _=>False) (Y2:=Y1) g.inv i (fun _ h=>h.elim) E a l (fun b J=>(m b J).imp (fun h=>h) .inr);have:=H.xQ;subst this;exact⟨_,_,_,B,g.trans I,.c .nil⟩
  ·rename_i b j;obtain⟨t,x,hpe,nxe,k,d⟩:=L _ (some b) j;injection h with h
   injection h with u h;injection h with y z;subst u;subst y;subst z;obtain⟨id,rfl,hid,p⟩:=d;refine(Qk K n k t g.inv.st g.inv.fS (W4 o)).mono fun e w' A=>?_
   obtain⟨v,S',G',B,E,a,H,l,m,q⟩:=A;have I:=nR (dr:=dr) (D:=fun _=>False) (Y2:=Y1) g.inv i (fun _ h=>h.elim) E a l (fun b J=>(m b J).imp (fun h=>h) .inr) hid p (.inr (q id b hid));exact⟨_,_,_,B,g.trans I,nS H⟩
  ·cases h
 ·cases h
end
abbrev hP(F:zb->Option O):AM.Spec:=zh false [] F
end Go.AM
