/- Lemmas. -/
import Derived.Test.YtfanbcfchamfjaaGreatDoorG2
set_option maxRecDepth 8000
open Go Proofs Proofs.YtfanbcfchamfjaaGreatDoor Proofs.Tryz RowKit AM SpanLaw Q Zz
namespace Go.AM
def xu(pf:FuncId->Bool):Op->Nat
 | .move _|.assign _|.pick ..|.build ..|.binOp ..|.unOp ..|.convert ..|.makeFunc ..|.fieldAddr ..|.field ..|.index ..|.extract ..|.nilCheck _=>0
 | .load ..|.indexAddr ..|.slice ..=>1
 | .call c=>match c.callee with
  | .builtin .len|.builtin .min|.builtin .max=>0
  | .value (.func g)=>if pf g then 1 else 2
  |_=>2
 |_=>2
def Qt(a:AM.Spec):Prop:=∀args Y Z r Y' Z',a args Y Z=some (r,Y',Z')->(Y'=Y/\Z'=Z)/\∀b,Y Z=none->a args (zI Y Z b) (Z+1)=some (r,zI Y Z b,Z+1)
section
variable{C:Ctx}{pf:FuncId->Bool}
theorem JF{α:Type}{o:Option O}{Y Y':α}{Z Z':Nat}{x:O}(h:(o.map fun y=>(y,Y,Z))=some (x,Y',Z')):o=some x/\Y'=Y/\Z'=Z:=by obtain⟨y,b,a⟩:=zJ h;injection a with c a;injection a with d e;subst c;subst d;subst e;exact⟨b,rfl,rfl⟩
theorem Lv(i:∀g a,pf g=true->C.Γ g=some a->Qt a){op:Op}(e:xu pf op<=1){σ:Nat->O}{Y Y':Hp}{Z Z':Nat}{x:O}(h:zS C (get σ) Y Z op=some (x,Y',Z')):Y'=Y/\Z'=Z:=by
 have d:∀{y:O},some (y,Y,Z)=some (x,Y',Z')->Y'=Y/\Z'=Z:=by
  intro y h;injection h with h
  injection h with _ h;injection h with n o;exact⟨n.symm,o.symm⟩
 cases op<;>simp only[xu]at e<;>(try omega)<;>simp only[zS]at h
 case move=>exact(JF h).2
 case assign=>exact(JF h).2
 case pick=>split at h<;>first|exact(JF h).2|cases h
 case build=>split at h<;>first|exact(JF h).2|cases h
 case load=>split at h<;>first|exact(JF h).2|cases h
 case nilCheck=>split at h<;>first|exact d h|cases h
 case binOp=>split at h<;>first|exact(JF h).2|cases h
 case unOp=>split at h<;>first|exact(JF h).2|cases h
 case convert=>split at h<;>first|exact(JF h).2|cases h
 case makeFunc=>split at h<;>first|exact d h|cases h
 case slice t x lo s p=>cases p<;>simp only at h<;>first|(split at h<;>first|exact(JF h).2|cases h)|cases h
 case fieldAddr=>split at h<;>first|exact(JF h).2|cases h
 case field=>split at h<;>first|exact(JF h).2|cases h
 case indexAddr=>split at h<;>first|exact(JF h).2|cases h
 case index=>split at h<;>first|exact(JF h).2|cases h
 case extract=>split at h<;>first|exact(JF h).2|cases h
 case call c=>
  unfold xq at h;split at h
  ·rename_i xs _;cases j:c.callee with
   |invoke r m=>rw[j]at h;cases h
   |builtin b=>
    rw[j]at e h;cases b<;>simp at e<;>simp only[yr]at h
    ·split at h<;>first|exact(JF h).2|cases h
    ·exact(JF h).2
    ·exact(JF h).2
   |value f=>
    rw[j]at e h;cases f<;>simp at e;rename_i k;simp only[jH,get]at h;split at h
    ·rename_i a q;exact(i k a (by by_cases l:pf k=true;exact l;simp[l]at e) q _ _ _ _ _ _ h).1
    ·cases h
  ·cases h
theorem Gn{op:Op}(d:xu pf op=0){e:Operand->Option O}(Y Y2:Hp)(Z g:Nat):zS C e Y2 g op=(zS C e Y Z op).map fun r=>(r.1,Y2,g):=by
 cases op<;>simp only[xu]at d<;>(try (exact absurd d (by omega)))<;>simp only[zS]
 case move x=>cases e x<;>rfl
 case assign x=>cases e x<;>rfl
 case pick c a b=>split<;>simp[kj,yL]
 case build t i=>split<;>simp[kj,yL]
 case nilCheck x=>split<;>rfl
 case binOp=>split<;>simp[kj,yL]
 case unOp=>split<;>simp[kj,yL]
 case convert=>split<;>simp[kj,yL]
 case makeFunc=>split<;>rfl
 case fieldAddr=>split<;>simp[kj,yL]
 case field=>split<;>simp[kj,yL]
 case index=>split<;>simp[kj,yL]
 case extract=>split<;>simp[kj,yL]
 case call c=>
  unfold xq;cases wK (c.args.toList.map e)with
  |none=>rfl
  |some xs=>
   simp only;cases h:c.callee with
   |value f=>rw[h]at d;cases f<;>simp at d;split at d<;>omega
   |invoke r m=>rfl
   |builtin b=>
    rw[h]at d;cases b<;>simp at d<;>simp only[yr]
    ·split<;>simp[kj,yL]
    ·simp[kj,yL]
    ·simp[kj,yL]
theorem zbD{op:Op}(c:xu pf op=0){b:Operand->Option O}{Y Y':Hp}{Z Z':Nat}{x:O}(h:zS C b Y Z op=some (x,Y',Z'))(Y2:Hp)(a:Nat):zS C b Y2 a op=some (x,Y2,a):=by rw[Gn c Y Y2 Z a,h];rfl
theorem JG{b a:Operand->Option O}:∀{l:List (Nat×Operand)},(∀p∈l,b p.2=a p.2)->kY b l=kY a l
 |[],_=>rfl
 |(i,x)::l,h=>by simp only[kY];rw[h (i,x) (by simp),JG (l:=l) fun p Y=>h p (by simp[Y])]
theorem re{o e:Operand->Option O}{op:Op}{Y:Hp}{Z:Nat}(h:∀x∈op.operands.toList,o x=e x):zS C o Y Z op=zS C e Y Z op:=by
 cases op<;>simp only[Op.operands]at h<;>simp only[zS]
 case move x=>rw[h x (by simp)]
 case assign x=>rw[h x (by simp)]
 case pick c a b=>rw[h c (by simp),h a (by simp),h b (by simp)]
 case box t x=>rw[h x (by simp)]
 case build t q=>rw[JG (l:=q.toList) fun p Y=>h p.2 (by simp only[zZ];exact⟨p,Y,rfl⟩)]
 case buildSlice t n q=>rw[JG (l:=q.toList) fun p Y=>h p.2 (by simp only[zZ];exact⟨p,Y,rfl⟩)]
 case load t x=>rw[h x (by simp)]
 case store t a x=>rw[h a (by simp),h x (by simp)]
 case nilCheck x=>rw[h x (by simp)]
 case binOp op t x y D=>rw[h x (by simp),h y (by simp)]
 case unOp op t x=>rw[h x (by simp)]
 case convert s d x=>rw[h x (by simp)]
 case makeFunc f a b=>rw[zis (g:=e) fun x j=>h x (by simp at j⊢;exact .inl j),zis (l:=b.toList) (g:=e) fun x j=>h x (by simp at j⊢;exact .inr j)]
 case makeSlice t l c=>rw[h l (by simp),h c (by simp)]
 case slice t x lo u z=>
  cases z with
  |some m=>rfl
  |none=>
   simp only;rw[h x (by simp)];have v:lo.map o=lo.map e:=by cases lo with
    |none=>rfl
    |some y=>simp only[zY];rw[h y (by simp)]
   have w:u.map o=u.map e:=by cases u with
    |none=>rfl
    |some y=>simp only[zY];rw[h y (by simp)]
   rw[v,w]
 case fieldAddr t x f=>rw[h x (by simp)]
 case field t x f=>rw[h x (by simp)]
 case indexAddr t x i=>rw[h x (by simp),h i (by simp)]
 case index t x i=>rw[h x (by simp),h i (by simp)]
 case extract x i=>rw[h x (by simp)]
 case makeMap t r=>cases r<;>rfl
 case lookup t x i E=>rw[h x (by simp),h i (by simp)]
 case mapUpdate t m k x=>rw[h m (by simp),h k (by simp),h x (by simp)]
 case insert t m k x=>rw[h m (by simp),h k (by simp),h x (by simp)]
 case call c=>
  unfold xq;have A:c.args.toList.map o=c.args.toList.map e:=zis fun x j=>h x (by simp only[Call.operands,Array.toList_append,wy];exact .inr j)
  rw[A];cases wK (c.args.toList.map e)with
  |none=>rfl
  |some xs=>
   simp only;cases B:c.callee with
   |value f=>simp only;rw[h f (by simp[Call.operands,B])]
   |invoke r m=>rfl
   |builtin b=>rfl
def jL(C:Ctx)(a:Array Oper)(o:Oper)(σ:Nat->O)(Y:Hp)(Z:Nat):Option (O×Hp×Nat):=
 if Region.wanted o (xr a σ)=true then zS C (get σ) Y Z o.op else some (.qZ [],Y,Z)
theorem yv(a:Array Oper)(o:Oper)(st:St):yQ C a o st=(jL C a o st.σ st.Y st.Z).map fun r=>⟨put st.σ o.dst r.1,r.2.1,r.2.2⟩:=by
 unfold yQ jL;split
 ·cases zS C (get st.σ) st.Y st.Z o.op<;>rfl
 ·rfl
theorem ZC{a:Array Oper}{o:Oper}{σ σ':Nat->O}{Y:Hp}{Z:Nat}(h:∀t,t∈o.looksAt a->σ t=σ' t):jL C a o σ Y Z=jL C a o σ' Y Z:=by
 have c:Region.wanted o (xr a σ)=Region.wanted o (xr a σ'):=by
  unfold Region.wanted;split
  ·rfl
  ·rename_i j b e;have:xr a σ j=xr a σ' j:=by
    unfold xr;split
    ·rename_i d hd;rw[h d (by simp[Oper.looksAt,e,hd])]
    ·rfl
   rw[this]
 unfold jL;rw[c];split
 ·refine re fun x i=>?_
  cases x with
  |tmp t=>simp only[get];rw[h t];simp only[Oper.looksAt,wy,List.mem_filterMap];exact .inl ⟨.tmp t,i,rfl⟩
  |const x=>rfl
  |global g=>rfl
  |func f=>rfl
 ·rfl
theorem vV{σ:Nat->O}{d:Option Tmp}{x:O}{t:Nat}(h:∀e,d=some e->e≠t):put σ d x t=σ t:=by
 cases d with
 |none=>rfl
 |some e=>exact zc _ _ _ _ fun a=>h e rfl a.symm
theorem gG{σ:Nat->O}{d e:Option Tmp}{x y:O}(h:∀k,d=some k->e≠some k):put (put σ d x) e y=put (put σ e y) d x:=by
 cases d with
 |none=>rfl
 |some k=>
  cases e with
  |none=>rfl
  |some m=>
   have a:m≠k:=fun b=>h k rfl (by rw[b])
   funext i;simp only[put,zI];by_cases c:i=m<;>by_cases f:i=k<;>simp_all
def Lw(pf:FuncId->Bool)(c:Array Oper)(a b:Oper):Bool:=
 a.apart c b&&(xu pf a.op==0||xu pf b.op==0||(decide (xu pf a.op<=1)&&decide (xu pf b.op<=1)))
theorem XR{b:Array Oper}{o:Oper}{σ:Nat->O}{Y Y':Hp}{Z Z':Nat}{x:O}(d:xu pf o.op=0)(h:jL C b o σ Y Z=some (x,Y',Z'))(Y2:Hp)(a:Nat):jL C b o σ Y2 a=some (x,Y2,a):=by
 unfold jL at h⊢;split at h
 ·rename_i c;rw[zl c];exact zbD d h Y2 a
 ·rename_i c;rw[zj c];injection h with h
  injection h with e _;subst e;rfl
theorem WT(b:∀g a,pf g=true->C.Γ g=some a->Qt a){c:Array Oper}{o:Oper}{σ:Nat->O}{Y Y':Hp}{Z Z':Nat}{x:O}(d:xu pf o.op<=1)(h:jL C c o σ Y Z=some (x,Y',Z')):Y'=Y/\Z'=Z:=by
 unfold jL at h;split at h
 ·exact Lv b d h
 ·injection h with h;injection h with _ h;injection h with e f;exact⟨e.symm,f.symm⟩
theorem tJ{c:Array Oper}{a b:Oper}(j:xu pf a.op=0)(p:∀d,a.dst=some d->d ∉ b.looksAt c)(q:∀d,a.dst=some d->b.dst≠some d)(s:∀d,b.dst=some d->d ∉ a.looksAt c)(st:St) :
  (yQ C c a st).bind (yQ C c b)=(yQ C c b st).bind (yQ C c a):=by
 have u:∀x Y Z,jL C c b (put st.σ a.dst x) Y Z=jL C c b st.σ Y Z:=fun x Y Z=>ZC fun t k=>vV fun e l g=>p e l (g ▸ k)
 have o:∀x Y Z,jL C c a (put st.σ b.dst x) Y Z=jL C c a st.σ Y Z:=fun x Y Z=>ZC fun t k=>vV fun e l g=>s e l (g ▸ k)
 have i:∀x y,put (put st.σ a.dst x) b.dst y=put (put st.σ b.dst y) a.dst x:=fun x y=>gG q
 rw[yv c a st,yv c b st];cases f:jL C c a st.σ st.Y st.Z with
 |none=>
  cases m:jL C c b st.σ st.Y st.Z with
  |none=>rfl
  |some r=>
   obtain⟨y,Y2,n⟩:=r;simp only[Yj,Option.bind_none,zY,zW];rw[yv];simp only[o];cases v:jL C c a st.σ Y2 n with
   |none=>rfl
   |some w=>obtain⟨x,hp3,B⟩:=w;rw[XR j v st.Y st.Z]at f;cases f
 |some r=>
  obtain⟨x,Y1,n1⟩:=r;have h:=XR j f st.Y st.Z;rw[f]at h;injection h with h;injection h with _ h;injection h with z A;subst z;subst A;simp only[zY,zW];rw[yv];simp only[u];cases m:jL C c b st.σ st.Y st.Z with
  |none=>rfl
  |some r=>obtain⟨y,Y2,n⟩:=r;simp only[zY,zW];rw[yv];simp only[o,XR j f Y2 n,zY,i]
theorem Gp(i:∀g f,pf g=true->C.Γ g=some f->Qt f){c:Array Oper}{a b:Oper}(h:Lw pf c a b=true)(st:St) :
  (yQ C c a st).bind (yQ C c b)=(yQ C c b st).bind (yQ C c a):=by
 simp only[Lw,zn]at h;obtain⟨o,m⟩:=h;obtain⟨p,q,s⟩:=Oper.apart_spec o;simp only[qW,w7,zn,z6]at m;rcases m with(h|h)|⟨A,w⟩
 ·exact tJ h p q s st
 ·exact(tJ h s (fun d hd B=>q d B hd) p st).symm
 ·have D:∀x Y Z,jL C c b (put st.σ a.dst x) Y Z=jL C c b st.σ Y Z:=fun x Y Z=>ZC fun t u=>vV fun e v j=>p e v (j ▸ u)
  have z:∀x Y Z,jL C c a (put st.σ b.dst x) Y Z=jL C c a st.σ Y Z:=fun x Y Z=>ZC fun t u=>vV fun e v j=>s e v (j ▸ u)
  have n:∀x y,put (put st.σ a.dst x) b.dst y=put (put st.σ b.dst y) a.dst x:=fun x y=>gG q
  rw[yv c a st,yv c b st];cases k:jL C c a st.σ st.Y st.Z with
  |none=>
   cases l:jL C c b st.σ st.Y st.Z with
   |none=>rfl
   |some r=>obtain⟨y,Y2,E⟩:=r;obtain⟨rfl,rfl⟩:=WT i w l;simp only[Yj,Option.bind_none,zY,zW];rw[yv];simp only[z,k,Yj]
  |some r=>
   obtain⟨x,Y1,n1⟩:=r;obtain⟨rfl,rfl⟩:=WT i A k;simp only[zY,zW];rw[yv];simp only[D];cases l:jL C c b st.σ st.Y st.Z with
   |none=>rfl
   |some r=>obtain⟨y,Y2,E⟩:=r;obtain⟨rfl,rfl⟩:=WT i w l;simp only[zY,zW];rw[yv];simp only[z,k,zY,n]
def kn(C:Ctx)(a:Array Oper):List Nat->St->Option St
 |[],st=>some st
 |i::l,st=>match a[i]? with
  |none=>kn C a l st
  |some o=>(yQ C a o st).bind (kn C a l)
def gH(acc:List Nat)(o:Oper):Nat:=o.after.toList.foldl (fun s e=>if Region.binds .any e then s||| 2 ^ e.on||| acc.getD e.on 0 else s) 0
def rf(c:Oper->Oper->Bool)(b:Array Oper):List Oper->Nat->List Nat->Bool
 |[],_,_=>true
 |o::l,i,a=>
  o.after.toList.all (fun e=>!Region.binds .any e||decide (e.on<i)) &&
  (List.range i).all (fun j=>(gH a o).testBit j||(match b[j]? with|some p=>c p o|none=>false)) &&
  rf c b l (i+1) (a++[gH a o])
def XT(a:Array Oper)(L:Nat->Prop):Prop:=∀k o,L k->a[k]?=some o->∀e∈o.after.toList,Region.binds .any e=true->L e.on
def oi(L:Nat->Prop)(o:Oper):Prop:=∀e∈o.after.toList,Region.binds .any e=true->L e.on
theorem oj(acc:List Nat)(j:Nat):∀(l:List Edge) (s:Nat),(l.foldl (fun s e=>if Region.binds .any e then s||| 2 ^ e.on||| acc.getD e.on 0 else s) s).testBit j=true ->
  s.testBit j=true\/∃e∈l,Region.binds .any e=true/\(j=e.on\/(acc.getD e.on 0).testBit j=true)
 |[],s,h=>.inl h
 |e::l,s,h=>by
  simp only[List.foldl_cons]at h;rcases oj acc j l _ h with h1|⟨c,h1,d,f⟩
  ·split at h1
   ·rename_i a;simp only[Nat.testBit_or,qW]at h1;rcases h1 with(h1|h1)|h1
    ·exact .inl h1
    ·refine .inr ⟨e,by simp,a,.inl ?_⟩;by_cases b:j=e.on
     ·exact b
     ·rw[Nat.testBit_two_pow_of_ne (fun h=>b h.symm)]at h1;cases h1
    ·exact .inr ⟨e,by simp,a,.inr h1⟩
   ·exact .inl h1
  ·exact .inr ⟨c,by simp[h1],d,f⟩
def cL(a:Array Oper)(b:List Nat):Prop:=∀(k m:Nat),b[k]?=some m->∀o,a[k]?=some o->∀L,XT a L->oi L o->∀j,m.testBit j=true->L j
theorem VK{a:Array Oper}{b:List Nat}(n:cL a b){o:Oper}(L:Nat->Prop)(k:XT a L)(Y:oi L o)(p:∀e∈o.after.toList,Region.binds .any e=true->e.on<a.size)(j:Nat)(h:(gH b o).testBit j=true):L j:=by
 rcases oj b j _ 0 h with g|⟨e,g,l,c⟩
 ·simp at g
 ·have d:=Y e g l;rcases c with rfl|c
  ·exact d
  ·cases i:b[e.on]? with
   |none=>rw[Jv,i]at c;simp at c
   |some m=>rw[Jv,i]at c;have f:=p e g l;exact n e.on m i a[e.on] (by simp[f]) L k (k e.on _ d (by simp[f])) j c
theorem ea{y:Oper->Oper->Bool}{a:Array Oper}:∀{l:List Oper} {i:Nat} {b:List Nat},rf y a l i b=true->b.length=i->(∀k,l[k]?=a[i+k]?)->cL a b ->
  ∀k o,l[k]?=some o->(∀e∈o.after.toList,Region.binds .any e=true->e.on<i+k)/\∀j,j<i+k->(∀L,XT a L->oi L o->L j)\/∃p,a[j]?=some p/\y p o=true
 |[],i,b,_,_,_,_,k,o,r=>by simp at r
 |o'::l,i,b,h,z,s,A,k,o,r=>by
  simp only[rf,zn,zP,qW,Ql,z6,yK]at h;obtain⟨⟨C,D⟩,E⟩:=h;have t:a[i]?=some o':=by have:=s 0;simpa using this.symm
  have G:i<a.size:=(zU.1 t).1;have B:∀e∈o'.after.toList,Region.binds .any e=true->e.on<i:=fun e v d=>by
   rcases C e v with h|h
   ·rw[d]at h;cases h
   ·exact h
  have u:∀L,XT a L->oi L o'->∀j,(gH b o').testBit j=true->L j:=fun L g Y j n=>VK A L g Y (fun e v d=>by have:=B e v d;omega) j n
  cases k with
  |zero=>
   simp at r;subst r;refine⟨by simpa using B,fun j n=>?_⟩;rcases D j (by simpa using n)with h|h
   ·exact .inl fun L g Y=>u L g Y j h
   ·split at h
    ·rename_i p Y;exact .inr ⟨p,Y,h⟩
    ·cases h
  |succ k=>
   have w:cL a (b++[gH b o']):=by
    intro q m f F c L g Y j n;by_cases x:q<b.length
    ·rw[je x]at f;exact A q m f F c L g Y j n
    ·rw[qo (by omega)]at f;have:q=i:=by have:=(zd.1 f).1;simp at this;omega
     subst this;rw[z]at f;simp at f;subst f;rw[t]at c;injection c with c
     subst c;exact u L g Y j n
   have:=ea E (by simp[z]) (fun q=>by have:=s (q+1);simpa[ziT,cz 1 q]using this) w k o (by simpa using r);rwa [show i+1+k=i+(k+1)from by omega]at this
def gI(b:Oper->Oper->Bool)(a:Array Oper):Bool:=rf b a a.toList 0 []
theorem ec{b:Oper->Oper->Bool}{a:Array Oper}(h:gI b a=true):∀i o,a[i]?=some o->(∀e∈o.after.toList,Region.binds .any e=true->e.on<i)/\∀j,j<i->(∀L,XT a L->oi L o->L j)\/∃p,a[j]?=some p/\b p o=true:=by intro i o c;have:=ea h rfl (by simp) (fun k m d=>by simp at d) i o (by simpa using c);simpa using this
structure te (C:Ctx) (ops:Array Oper) (cm:Oper->Oper->Bool) (A:St->Prop):Prop where
 kO:∀(i:Nat) (o:Oper) (st st':St),ops[i]?=some o->A st->yQ C ops o st=some st'->A st'
 comm:∀(i j:Nat) (a b:Oper) (st st':St),ops[i]?=some a->ops[j]?=some b->cm a b=true->A st->(yQ C ops a st).bind (yQ C ops b)=some st'->(yQ C ops b st).bind (yQ C ops a)=some st'
theorem Xs{a:Array Oper}{s:Oper->Oper->Bool}{A:St->Prop}(l:te C a s A){i:Nat}{o:Oper}(f:a[i]?=some o)(b:List Nat):∀(pre:List Nat) (st r:St),A st->(∀j∈pre,∃p,a[j]?=some p/\s p o=true) ->
  kn C a (pre++i::b) st=some r->kn C a (i::(pre++b)) st=some r
 |[],st,r,_,_,h=>h
 |j::pre,st,r,t,h,d=>by
  obtain⟨p,Y,m⟩:=h j (by simp);simp only[qC,kn,Y]at d;cases hs:yQ C a p st with
  |none=>rw[hs]at d;cases d
  |some c=>
   rw[hs,zW]at d;have e:=Xs l f b pre c r (l.kO j p st c Y t hs) (fun k v=>h k (by simp[v])) d;simp only[kn,f]at e;cases n:yQ C a o c with
   |none=>rw[n]at e;cases e
   |some q=>
    rw[n,zW]at e;have g:=l.comm j i p o st q Y f m t (by rw[hs,zW];exact n);simp only[kn,f,qC,Y];cases u:yQ C a o st with
    |none=>rw[u]at g;cases g
    |some w=>rw[u,zW]at g;rw[zW,g,zW];exact e
def QP(a:AM.Spec):Prop:=∀args Y Z r Y' Z',a args Y Z=some (r,Y',Z')->Z<=Z'/\∀id blk,id<Z->Y id=some blk->blk.arr=false->Y' id=some blk
def tK(L:List Tmp):Op->Bool
 | .load _ (.tmp a)=>L.contains a
 | .indexAddr _ (.tmp a) _=>L.contains a
 |_=>false
def ixB(L:List Tmp):Op->Bool
 | .indexAddr _ (.tmp a) _=>L.contains a
 |_=>false
def gJ(a:FuncId->Bool):Op->Bool
 | .call ⟨.value (.func g),_,_⟩=>a g
 | .call ⟨.builtin .append,_,_⟩=>true
 | .buildSlice _ _ _=>true
 | .alloc _=>true
 |_=>false
def zbE:Op->Bool
 | .store _ _ _=>true
 |_=>false
def gK(D:List (Tmp×Tmp)):Op->Op->Bool
 | .load _ (.tmp a),.store _ (.tmp b) _=>D.contains (a,b)
 |_,_=>false
def RF(D:List (Tmp×Tmp))(L:List Tmp)(a:FuncId->Bool)(p o:Op):Bool:=gK D p o||(tK L p&&gJ a o)||(ixB L p&&zbE o)
def zaI(D:List (Tmp×Tmp))(L:List Tmp)(b:FuncId->Bool)(a:Array Oper)(p o:Oper):Bool:=
 p.apart a o&&o.apart a p&&p.guard.isNone&&o.guard.isNone&&(RF D L b p.op o.op||RF D L b o.op p.op)
def Gq(L:List Tmp):Bool:=L.any fun s=>decide (zB<=s)
def VL(L:List Tmp):Op->Bool
 | .buildSlice _ _ a=>a.toList.all fun p=>match p.2 with
  | .tmp z=>L.contains (z+zB)
  |_=>false
 |_=>false
def aX:Op->Bool
 | .load _ (.tmp _)=>true
 | .indexAddr _ (.tmp _) _=>true
 |_=>false
def cM(pf:FuncId->Bool):Op->Bool
 | .call ⟨.value (.func g),_,_⟩=>pf g
 |_=>false
def Lx:Op->Bool
 | .alloc _=>true
 |_=>false
def RG(pf:FuncId->Bool)(L:List Tmp)(a:Array Oper)(p o:Oper):Bool:=Gq L&&p.apart a o&&p.guard.isNone&&o.guard.isNone&&(aX p.op||cM pf p.op)&&(VL L o.op||Lx o.op)
def EP(pf:FuncId->Bool)(D:List (Tmp×Tmp))(L:List Tmp)(b:FuncId->Bool)(a:Array Oper)(p o:Oper):Bool:=Lw pf a p o||zaI D L b a p o||RG pf L a p o
def topB(pf:FuncId->Bool)(o:Op):Bool:=decide (xu pf o<=1)||match o with
 | .store _ _ _=>true
 | .call ⟨.builtin .append,_,_⟩=>true
 | .buildSlice _ _ _=>true
 | .alloc _=>true
 |_=>false
def Cy(pf:FuncId->Bool)(L:List Tmp)(ops:Array Oper):Bool:=!Gq L||ops.all fun o=>topB pf o.op&&L.all fun s=>decide (s<zB)||o.dst != some (s-zB)||(o.guard.isNone&&match o.op with
 | .move (.tmp b)=>L.contains (b+zB)
 | .build _ a=>a.toList.all fun p=>match p.2 with
  | .tmp z=>L.contains (z+zB)
  |_=>false
 |_=>false)
def rh(pf:FuncId->Bool)(D:List (Tmp×Tmp))(L:List Tmp)(a:FuncId->Bool)(ops:Array Oper):Bool:=(D.isEmpty&&L.isEmpty)||ops.all fun o=>D.all (fun p=>o.dst != some p.2&&(o.dst != some p.1||match o.op with
    | .fieldAddr _ (.tmp s) _=>D.contains (s,p.2)
    | .indexAddr _ (.tmp s) _=>D.contains (s,p.2)&&L.contains s
    | .move (.tmp s)=>D.contains (s,p.2)
    | .nilCheck (.tmp s)=>D.contains (s,p.2)
    |_=>false)) &&
 L.all (fun s=>o.dst != some s||match o.op with
  | .fieldAddr _ (.tmp b) _=>L.contains b
  | .indexAddr _ (.tmp b) _=>L.contains b
  |_=>false) &&
 (decide (xu pf o.op<=1)||match o.op with
  | .store _ _ _=>true
  | .call ⟨.value (.func g),_,_⟩=>D.all (fun p=>L.contains p.2)&&a g
  | .call ⟨.builtin .append,_,_⟩=>D.all (fun p=>L.contains p.2)
  | .buildSlice _ _ _=>D.all (fun p=>L.contains p.2)
  | .alloc _=>D.all (fun p=>L.contains p.2)
  |_=>false)
def ri(pf:FuncId->Bool)(D:List (Tmp×Tmp))(L:List Tmp)(b:FuncId->Bool)(a:Array Oper):Bool:=Cy pf L a&&rh pf D L b a
end
section
variable{C:Ctx}{pf:FuncId->Bool}
theorem KO{Y Y1:Hp}{x y:O}(h:qn Y x=some (y,Y1)){id:Nat}{b:Blk}(c:Y id=some b)(e:b.arr=false):Y1 id=some b:=by
 unfold qn at h;split at h
 ·split at h
  ·rename_i f a;split at h
   ·rename_i d;injection h with h
    injection h with _ h;subst h;rw[zc]
    ·exact c
    ·rintro rfl;rw[c]at a;injection a with a;subst a;rw[e]at d;cases d.1
   ·cases h
  ·cases h
 all_goals first
  |(injection h with h;injection h with _ h;subst h;exact c)
  |(split at h<;>first|(injection h with h;injection h with _ h;subst h;exact c)|cases h)
  |cases h
theorem Kq:∀{xs ys:zb} {Y Y1:Hp},qm Y xs=some (ys,Y1)->∀{id:Nat} {b:Blk},Y id=some b->b.arr=false->Y1 id=some b
 |[],ys,Y,Y1,h,id,b,a,c=>by simp only[qm]at h;injection h with h;injection h with _ h;subst h;exact a
 |x::l,ys,Y,Y1,h,id,b,a,c=>by
  simp only[qm]at h;split at h
  ·rename_i y Y2 d;split at h
   ·rename_i r hp3 e;injection h with h;injection h with _ h;subst h
    exact Kq e (KO d a c) c
   ·cases h
  ·cases h
theorem YP{Y Y1:Hp}{x y:O}(h:z7 Y x=some (y,Y1)){id:Nat}{b:Blk}(a:Y id=some b)(c:b.arr=false):Y1 id=some b:=by
 unfold z7 at h;split at h
 ·split at h
  ·rename_i l e d;injection h with h;injection h with _ h;subst h
   exact Kq d a c
  ·cases h
 ·exact KO h a c
theorem Gr{P:Program}{Y Y':Hp}{t:TypeId}{p x:O}(h:xp P Y t p x=some Y'){id:Nat}{b:Blk}(e:Y id=some b)(d:b.arr=false):∃f,Y' id=some f/\f.arr=false:=by
 unfold xp at h;split at h
 ·rename_i id' i j;split at h
  ·rename_i m l;split at h
   ·rename_i y Y1 c;have g:Y1 id=some b:=by
     split at c
     ·exact YP c e d
     ·injection c with c;injection c with _ c;subst c;exact e
    split at h
    ·rename_i o n a _;split at h
     ·split at h
      ·injection h with h;subst h;by_cases k:id=id'
       ·subst k;rw[g]at a;injection a with a
        subst a;exact⟨_,qU _ _ _,d⟩
       ·exact⟨b,by rw[zc _ _ _ _ k];exact g,d⟩
      ·cases h
     ·cases h
    ·cases h
   ·cases h
  ·cases h
 ·cases h
theorem Cz{P:Program}{Y Y':Hp}{t:TypeId}{id i j:Nat}{x:O}{b:Blk}(h:xp P Y t (.ref id i j) x=some Y')(a:Y id=some b)(c:b.arr=false){k:Nat}(d:k≠id):Y' k=Y k:=by
 simp only[xp,a,c]at h;simp only[zv,qz]at h;split at h
 ·split at h
  ·split at h
   ·injection h with h;subst h;exact zc _ _ _ _ d
   ·cases h
  ·cases h
 ·cases h
theorem aY{a:Array Oper}{l c:Oper}(m:l.apart a c=true){st:St}(n:∀Y Z y Y' Z',jL C a l st.σ Y Z=some (y,Y',Z')->Y'=Y/\Z'=Z)
  (d:∀z Y' Z',jL C a c st.σ st.Y st.Z=some (z,Y',Z')->(jL C a l st.σ Y' Z').map (·.1)=(jL C a l st.σ st.Y st.Z).map (·.1)) :
  (yQ C a l st).bind (yQ C a c)=(yQ C a c st).bind (yQ C a l):=by
 obtain⟨x,A,B⟩:=Oper.apart_spec m;have cs:∀y Y Z,jL C a c (put st.σ l.dst y) Y Z=jL C a c st.σ Y Z:=fun y Y Z=>ZC fun u o=>vV fun e p f=>x e p (f ▸ o)
 have v:∀y Y Z,jL C a l (put st.σ c.dst y) Y Z=jL C a l st.σ Y Z:=fun y Y Z=>ZC fun u o=>vV fun e p f=>B e p (f ▸ o)
 have g:∀y z,put (put st.σ l.dst y) c.dst z=put (put st.σ c.dst z) l.dst y:=fun y z=>gG A
 rw[yv a l st,yv a c st];cases s:jL C a c st.σ st.Y st.Z with
 |none=>
  cases h:jL C a l st.σ st.Y st.Z with
  |none=>rfl
  |some q=>obtain⟨y,Y1,t⟩:=q;obtain⟨rfl,rfl⟩:=n _ _ _ _ _ h;simp only[zY,Yj,zW,Option.bind_none];rw[yv];simp only[cs,s,Yj]
 |some q=>
  obtain⟨z,Y',Z'⟩:=q;have b:=d z Y' Z' s;cases h:jL C a l st.σ st.Y st.Z with
  |none=>
   rw[h]at b;have D:jL C a l st.σ Y' Z'=none:=by
    cases j:jL C a l st.σ Y' Z' with
    |none=>rfl
    |some r=>rw[j]at b;cases b
   simp only[zY,Yj,zW,Option.bind_none];rw[yv];simp only[v,D,Yj]
  |some q=>
   obtain⟨y,Y1,t⟩:=q;obtain⟨rfl,rfl⟩:=n _ _ _ _ _ h;rw[h]at b;obtain⟨k,i,w⟩:∃k,jL C a l st.σ Y' Z'=some k/\k.1=y:=by
    cases j:jL C a l st.σ Y' Z' with
    |none=>rw[j]at b;cases b
    |some r=>rw[j]at b;injection b with b;exact⟨r,rfl,b⟩
   obtain⟨F,Y2,E⟩:=k;simp only at w;subst w;obtain⟨rfl,rfl⟩:=n _ _ _ _ _ i;simp only[zY,zW];rw[yv,yv];simp only[cs,s,v,i,zY,g]
theorem jm{a:Array Oper}{o:Oper}(g:o.guard=none)(σ:Nat->O)(Y:Hp)(Z:Nat):jL C a o σ Y Z=zS C (get σ) Y Z o.op:=by
 have w:Region.wanted o (xr a σ)=true:=by unfold Region.wanted;rw[g]
 simp only[jL,w,qh]
theorem YQ{P:Program}{Y Y':Hp}{t:TypeId}{p:O}(a:∀id o n,p≠.own id o n)(q:O):qL P Y' t p q=qL P Y t p q:=by
 cases q with
 |v y=>
  cases y with
  |int w i=>
   cases p with
   |own id o n=>exact absurd rfl (a id o n)
   |_=>
    simp only[qL];cases yq P t with
    |none=>rfl
    |some e=>simp only;cases qN P e<;>rfl
  |_=>simp only[qL]
 |_=>simp only[qL]
theorem Gt{L:List Tmp}{op:Op}(b:tK L op=true){st:St}(f:ZX L st){Y':Hp}{Z Z':Nat}(h:∀id blk,id<st.Z->st.Y id=some blk->blk.arr=false->Y' id=some blk) :
  (zS C (get st.σ) Y' Z' op).map (·.1)=(zS C (get st.σ) st.Y Z op).map (·.1):=by
 unfold tK at b;split at b
 ·rename_i t a;obtain⟨⟨c,d⟩,_⟩:=f a (by simpa using b);have:xc C.P Y' t (st.σ a)=xc C.P st.Y t (st.σ a):=by
   cases e:st.σ a with
   |ref id i j=>obtain⟨k,blk,g,l⟩:=d id i j e;simp only[xc,h id blk k g l,g]
   |_=>rfl
  simp only[zS,get,this];cases xc C.P st.Y t (st.σ a)<;>rfl
 ·rename_i t a i;obtain⟨⟨c,d⟩,_⟩:=f a (by simpa using b);have:∀q,qL C.P Y' t (st.σ a) q=qL C.P st.Y t (st.σ a) q:=by exact fun q=>YQ c q
  simp only[zS,show get st.σ (.tmp a)=some (st.σ a)from rfl];cases get st.σ i with
  |none=>rfl
  |some q=>simp only[this];cases qL C.P st.Y t (st.σ a) q<;>rfl
 ·cases b
theorem XU{op:Op}{σ:Nat->O}{Y Y':Hp}{Z Z':Nat}{y:O}(b:(∃t a,op=.load t (.tmp a))\/∃t a i,op=.indexAddr t (.tmp a) i)(h:zS C (get σ) Y Z op=some (y,Y',Z')):Y'=Y/\Z'=Z:=by
 rcases b with⟨t,a,rfl⟩|⟨t,a,i,rfl⟩
 ·simp only[zS,get]at h;exact(JF h).2
 ·simp only[zS,get]at h;split at h
  ·exact(JF h).2
  ·cases h
theorem Ly{L:List Tmp}{op:Op}(h:tK L op=true):(∃t a,op=.load t (.tmp a))\/∃t a i,op=.indexAddr t (.tmp a) i:=by
 unfold tK at h;split at h
 ·exact .inl ⟨_,_,rfl⟩
 ·exact .inr ⟨_,_,_,rfl⟩
 ·cases h
theorem Kr:∀{e a:List (Nat×O)} {Y Y1:Hp},zw Y e=some (a,Y1)->∀{id:Nat} {b:Blk},Y id=some b->b.arr=false->Y1 id=some b
 |[],a,Y,Y1,h,id,b,c,d=>by simp only[zw]at h;injection h with h;injection h with _ h;subst h;exact c
 |(i,x)::l,a,Y,Y1,h,id,b,c,d=>by
  simp only[zw]at h;split at h
  ·rename_i y Y2 f;split at h
   ·rename_i r hp3 g;injection h with h;injection h with _ h;subst h
    exact Kr g (YP f c d) d
   ·cases h
  ·cases h
theorem tL{P:Program}{Y Y':Hp}{Z Z':Nat}{t u:TypeId}{s x y:O}(h:jG P Y Z t u s x=some (y,Y',Z')):Z<=Z'/\∀id blk,id<Z->Y id=some blk->blk.arr=false->Y' id=some blk:=by
 unfold jG at h;split at h
 ·split at h
  ·split at h
   ·split at h
    ·split at h
     ·split at h
      ·injection h with h;injection h with _ h;injection h with d f;subst d;subst f;exact⟨zk _,fun _ _ _ c _=>c⟩
      ·injection h with h;injection h with _ h;injection h with d f;subst d;subst f;exact⟨by omega,fun id blk hid c _=>by rw[zc _ _ _ _ (by omega)];exact c⟩
     ·cases h
    ·split at h
     ·rename_i b a;split at h
      ·rename_i g;injection h with h;injection h with _ h;injection h with d f
       subst d;subst f;refine⟨by omega,fun id blk hid c i=>?_⟩;rw[zc _ _ _ _ (by omega),zc _ _ _ _ (fun e=>by
        subst e;rw[c]at a;injection a with a
        subst a;rw[i]at g;cases g.1)]
       exact c
      ·cases h
     ·cases h
    ·cases h
   ·cases h
  ·cases h
 ·cases h
theorem cN{t:TypeId}{σ:Nat->O}{Y Y':Hp}{Z Z':Nat}{z:O}(h:zS C (get σ) Y Z (.alloc t)=some (z,Y',Z')):∃b,Y'=zI Y Z b/\Z'=Z+1:=by
 simp only[zS]at h;split at h
 ·split at h
  ·injection h with h;injection h with _ h;injection h with a c;exact⟨_,a.symm,c.symm⟩
  ·cases h
 ·cases h
theorem gL{k:FuncId->Bool}(c:∀g a,k g=true->C.Γ g=some a->QP a){op:Op}(b:gJ k op=true){σ:Nat->O}{Y Y':Hp}{Z Z':Nat}{z:O}(h:zS C (get σ) Y Z op=some (z,Y',Z')) :
  Z<=Z'/\∀id blk,id<Z->Y id=some blk->blk.arr=false->Y' id=some blk:=by
 unfold gJ at b;split at b
 ·rename_i g l ts;simp only[zS,xq]at h;split at h
  ·simp only[get,jH]at h;split at h
   ·rename_i a hs;exact c g a b hs _ _ _ _ _ _ h
   ·cases h
  ·cases h
 ·rename_i l ts;simp only[zS,xq]at h;split at h
  ·simp only[yr]at h;split at h
   ·exact tL h
   ·cases h
  ·cases h
 ·rename_i t len d;simp only[zS]at h;split at h
  ·rename_i p m;unfold zy at h;split at h
   ·split at h
    ·rename_i n q r Y1 _ _ e;split at h
     ·split at h
      ·injection h with h;injection h with _ h;injection h with f i;subst f;subst i;refine⟨by omega,fun id blk hid j o=>?_⟩;rw[zc _ _ _ _ (by omega)];exact Kr e j o
      ·cases h
     ·cases h
    ·cases h
   ·cases h
  ·cases h
 ·rename_i t;obtain⟨s,f,i⟩:=cN h;subst f;subst i;refine⟨by omega,fun id blk hid j _=>?_⟩;rw[zc _ _ _ _ (by omega)];exact j
 ·cases b
theorem om{G:FuncId->Bool}(w:∀g m,G g=true->C.Γ g=some m->QP m){D:List (Tmp×Tmp)}{L:List Tmp}{d:Array Oper}{l c:Oper}(H:RF D L G l.op c.op=true)(e:l.guard=none)(I:c.guard=none)(n:l.apart d c=true){st:St}(M:ZW D st)(J:ZX L st) :
  (yQ C d l st).bind (yQ C d c)=(yQ C d c st).bind (yQ C d l):=by
 simp only[RF,qW,zn]at H;rcases H with(f|⟨r,A⟩)|⟨k,N⟩
 ·unfold gK at f;split at f
  ·rename_i t a t' b x s Q;refine aY n (fun Y Z y Y' Z' h=>?_) (fun z Y' Z' h=>?_)
   ·rw[jm e,s]at h;exact XU (.inl ⟨_,_,rfl⟩) h
   ·rw[jm I,Q]at h;rw[jm e,jm e,s];simp only[zS,get]at h;have o:xc C.P Y' t (st.σ a)=xc C.P st.Y t (st.σ a):=by
     cases B:st.σ a with
     |ref id i j=>
      obtain⟨id',i',j',blk,R,E,S,u⟩:=M (a,b) (by simpa using f) id i j B;rw[R]at h;split at h
      ·rename_i p q K T;simp only[qV]at K;subst K;obtain⟨W,U,v⟩:=zJ h;injection v with _ v
       injection v with v _;subst v;simp only[xc,Cz U S u E]
      ·cases h
     |_=>rfl
    simp only[zS,get,o];cases xc C.P st.Y t (st.σ a)<;>rfl
  ·cases f
 ·refine aY n (fun Y Z y Y' Z' h=>?_) (fun z Y' Z' h=>?_)
  ·rw[jm e]at h;exact XU (Ly r) h
  ·rw[jm I]at h;rw[jm e,jm e];exact Gt r J (gL w A h).2
 ·unfold ixB at k;split at k
  ·rename_i t a i s;refine aY n (fun Y Z y Y' Z' h=>?_) (fun z Y' Z' h=>?_)
   ·rw[jm e,s]at h;exact XU (.inr ⟨_,_,_,rfl⟩) h
   ·rw[jm e,jm e,s];obtain⟨⟨F,_⟩,_⟩:=J a (by simpa using k);have:∀q,qL C.P Y' t (st.σ a) q=qL C.P st.Y t (st.σ a) q:=by exact fun q=>YQ F q
    simp only[zS,show get st.σ (.tmp a)=some (st.σ a)from rfl];cases get st.σ i with
    |none=>rfl
    |some q=>simp only[this];cases qL C.P st.Y t (st.σ a) q<;>rfl
  ·cases k
theorem KP{P:Program}{t:TypeId}{f:Nat}{p:O}{id i j:Nat}(h:y9 P t f p=some (.ref id i j)):∃a b,p=.ref id a b:=by
 unfold y9 at h;split at h
 ·split at h
  ·split at h
   ·cases h
   ·injection h with h;cases h
  ·cases h
 ·split at h
  ·split at h
   ·cases h
   ·injection h with h;injection h with c _ _;subst c;exact⟨_,_,rfl⟩
  ·cases h
 ·cases h
theorem gM{P:Program}{t:TypeId}{f:Nat}{p:O}{id o n:Nat}(h:y9 P t f p=some (.own id o n)):False:=by
 unfold y9 at h;split at h
 ·split at h
  ·split at h
   ·cases h
   ·injection h with h;cases h
  ·cases h
 ·split at h
  ·split at h
   ·cases h
   ·injection h with h;cases h
  ·cases h
 ·cases h
theorem KQ{P:Program}{Y:Hp}{t:TypeId}{p q:O}{id i j:Nat}(h:qL P Y t p q=some (.ref id i j))(a:∀id o n,p≠.own id o n):∃b c,p=.ref id b c:=by
 unfold qL at h;split at h
 ·split at h
  ·split at h
   ·split at h
    ·obtain⟨z,_,e⟩:=zJ h;cases e
    ·cases h
   ·exact absurd rfl (a _ _ _)
   ·cases h
  ·unfold xJ at h;split at h
   ·split at h
    ·split at h
     ·split at h
      ·injection h with h;cases h
      ·injection h with h;injection h with d _ _;subst d;exact⟨_,_,rfl⟩
      ·cases h
     ·cases h
    ·cases h
   ·cases h
 ·cases h
theorem gN{P:Program}{Y:Hp}{t:TypeId}{p q:O}{id o n:Nat}(h:qL P Y t p q=some (.own id o n)):False:=by
 unfold qL at h;split at h
 ·split at h
  ·split at h
   ·split at h
    ·obtain⟨z,_,e⟩:=zJ h;cases e
    ·cases h
   ·split at h
    ·split at h
     ·injection h with h;cases h
     ·cases h
    ·cases h
   ·cases h
  ·unfold xJ at h;split at h
   ·split at h
    ·split at h
     ·split at h
      ·injection h with h;cases h
      ·injection h with h;cases h
      ·cases h
     ·cases h
    ·cases h
   ·cases h
 ·cases h
theorem gO{x:O}(h:x.Wt=true)(Y:Hp):qn Y x=some (x,Y):=by cases x<;>first|rfl|cases h
theorem gP:∀{cs:zb},cs.all O.Wt=true->∀Y:Hp,qm Y cs=some (cs,Y)
 |[],_,_=>rfl
 |x::cs,h,Y=>by simp only[yC,zn]at h;simp only[qm,gO h.1,gP h.2]
theorem LA{x:O}(h:x.shut=true)(a:∀cs,x≠.agg cs):x.Wt=true:=by cases x<;>first|exact absurd rfl (a _)|exact h
theorem LB{x:O}(h:x.shut=true)(Y:Hp):z7 Y x=some (x,Y):=by
 by_cases a:∀cs,x≠.agg cs
 ·have b:=gO (LA h a) Y;unfold z7;split
  ·exact absurd rfl (a _)
  ·exact b
 ·have:∃cs,x=.agg cs:=Classical.byContradiction fun c=>a fun cs e=>c ⟨cs,e⟩
  obtain⟨cs,rfl⟩:=this;simp only[z7,gP (cs:=cs) h]
theorem Gu{x:O}(h:x.Yk=true)(a:∀cs,x≠.qZ cs):x.shut=true:=by cases x<;>first|exact absurd rfl (a _)|exact h
theorem Gv{x y:O}(h:x.Yk=true){Y Y1:Hp}(a:z7 Y x=some (y,Y1)):Y1=Y:=by
 by_cases b:∀cs,x≠.qZ cs
 ·rw[LB (Gu h b)]at a;injection a with a
  injection a with _ a;exact a.symm
 ·exfalso;apply b;rintro cs rfl;cases a
theorem gQ:∀{b a:List (Nat×O)} {Y Y1:Hp},(∀p∈b,p.2.Yk=true)->zw Y b=some (a,Y1)->Y1=Y
 |[],a,Y,Y1,_,h=>by injection h with h;injection h with _ h;exact h.symm
 |(i,x)::l,a,Y,Y1,hs,h=>by
  simp only[zw]at h;split at h
  ·rename_i y Y2 c;split at h
   ·rename_i r hp3 d;injection h with h;injection h with _ h;subst h
    rw[gQ (fun p Y=>hs p (by simp[Y])) d,Gv (hs (i,x) (by simp)) c]
   ·cases h
  ·cases h
theorem rj{x:O}(h:x.Yk=true)(a:x.cells.all O.wY=true):x.cells.all O.Wt=true:=by
 cases x with
 |agg cs=>exact h
 |qZ cs=>simp[O.cells,O.wY]at a
 |_=>simpa[O.cells,O.Yk,O.shut]using h
theorem tM{v:Value}{p:O}(h:cG v=some p):p.Wt=true:=by unfold cG at h;split at h<;>first|(injection h with h;subst h;rfl)|cases h
theorem a8:∀{l:List Value} {a:zb},kG l=some a->a.all O.Wt=true
 |[],a,h=>by injection h with h;subst h;rfl
 |x::l,a,h=>by
  simp only[kG]at h;split at h
  ·rename_i p r b c;injection h with h
   subst h;rw[yC,tM b,a8 c];rfl
  ·cases h
theorem gR{P:Program}{t:TypeId}{z:zb}(h:jk P t=some z):z.all O.Wt=true:=by
 unfold jk at h;cases a:(P.info? t).bind (·.zero)with
 |none=>rw[a]at h;cases h
 |some q=>rw[a]at h;exact a8 h
theorem Xt:∀{xs cs:zb} {off:Nat},cs.all O.Wt=true->xs.all O.Wt=true->(yP cs off xs).all O.Wt=true
 |[],cs,off,h,_=>h
 |x::xs,cs,off,h,a=>by
  simp only[yC,zn]at a;simp only[yP];refine Xt ?_ a.2;rw[zP]at h⊢;intro y b;rcases KB b with b|rfl
  ·exact h y b
  ·exact a.1
theorem XV{b:Nat->Option (Nat×Nat)}:∀{c:List (Nat×O)} {cs r:zb},cs.all O.Wt=true->(∀p∈c,p.2.Yk=true)->qJ b cs c=some r->r.all O.Wt=true
 |[],cs,r,h,_,a=>by injection a with a;subst a;exact h
 |(i,x)::l,cs,r,h,Y,a=>by
  simp only[qJ]at a;split at a
  ·split at a
   ·rename_i d;exact XV (Xt h (rj (Y (i,x) (by simp)) d.2.2)) (fun p Y'=>Y p (by simp[Y'])) a
   ·cases a
  ·cases a
theorem tN{P:Program}{t:TypeId}{c:List (Nat×O)}{y:O}(Y:∀p∈c,p.2.Yk=true)(h:qi P t c=some y):y.shut=true:=by
 unfold qi at h;split at h
 ·rename_i d z _ a;obtain⟨r,b,rfl⟩:=zJ h;exact XV (gR a) Y b
 ·rename_i z _ a;split at h
  ·split at h
   ·obtain⟨r,b,rfl⟩:=zJ h;exact XV (gR a) Y b
   ·cases h
  ·cases h
 ·cases h
theorem gS{b:Operand->Option O}:∀{l:List (Nat×Operand)} {a:List (Nat×O)},kY b l=some a->∀p∈a,∃q∈l,b q.2=some p.2
 |[],a,h,p,Y=>by injection h with h;subst h;cases Y
 |(i,x)::l,a,h,p,Y=>by
  simp only[kY]at h;split at h
  ·rename_i y r c d;injection h with h
   subst h;rcases zx.1 Y with rfl|Y
   ·exact⟨(i,x),by simp,c⟩
   ·obtain⟨q,f,e⟩:=gS d p Y;exact⟨q,by simp[f],e⟩
  ·cases h
theorem ER{L:List Tmp}{st:St}(h:ZX L st){z:Tmp}(a:L.contains (z+zB)=true):(st.σ z).Yk=true:=by have:=(h (z+zB) (by simpa using a)).2 (Nat.le_add_left _ _);simpa using this
theorem gT{L:List Tmp}{st:St}(h:ZX L st){a:List (Nat×Operand)}(Y:(a.all fun p=>match p.2 with|.tmp z=>L.contains (z+zB)|_=>false)=true){c:List (Nat×O)}(hs:kY (get st.σ) a=some c):∀p∈c,p.2.Yk=true:=by
 intro p b;obtain⟨q,d,e⟩:=gS hs p b;have:=zP.1 Y q d;split at this
 ·rename_i z f;rw[f]at e;simp only[get,qV]at e;rw[<-e];exact ER h this
 ·cases this
theorem zbF{x:O}(h:x.shut=true):x.Yk=true:=by cases x<;>first|rfl|exact h
def XW(Y:Hp)(Z:Nat):Prop:=∀id b,Y id=some b->id<Z
theorem KR{Y Y1:Hp}{x y:O}(h:qn Y x=some (y,Y1)){id:Nat}{b:Blk}(a:Y1 id=some b):Y id=some b:=by
 unfold qn at h;split at h
 ·rename_i k off n;split at h
  ·rename_i d c;split at h
   ·injection h with h;injection h with _ h;subst h;by_cases e:id=k
    ·subst e;rw[qU]at a;cases a
    ·rwa [zc _ _ _ _ e]at a
   ·cases h
  ·cases h
 all_goals first
  |(injection h with h;injection h with _ h;subst h;exact a)
  |(split at h<;>first|(injection h with h;injection h with _ h;subst h;exact a)|cases h)
  |cases h
theorem Ks:∀{xs ys:zb} {Y Y1:Hp},qm Y xs=some (ys,Y1)->∀{id:Nat} {b:Blk},Y1 id=some b->Y id=some b
 |[],ys,Y,Y1,h,id,b,a=>by simp only[qm]at h;injection h with h;injection h with _ h;subst h;exact a
 |x::l,ys,Y,Y1,h,id,b,a=>by
  simp only[qm]at h;split at h
  ·rename_i y Y2 c;split at h
   ·rename_i r hp3 d;injection h with h;injection h with _ h;subst h
    exact KR c (Ks d a)
   ·cases h
  ·cases h
theorem Xu{Y Y1:Hp}{x y:O}(h:z7 Y x=some (y,Y1)){id:Nat}{b:Blk}(a:Y1 id=some b):Y id=some b:=by
 unfold z7 at h;split at h
 ·split at h
  ·rename_i l d c;injection h with h;injection h with _ h;subst h
   exact Ks c a
  ·cases h
 ·exact KR h a
theorem Kt:∀{d a:List (Nat×O)} {Y Y1:Hp},zw Y d=some (a,Y1)->∀{id:Nat} {b:Blk},Y1 id=some b->Y id=some b
 |[],a,Y,Y1,h,id,b,c=>by simp only[zw]at h;injection h with h;injection h with _ h;subst h;exact c
 |(i,x)::l,a,Y,Y1,h,id,b,c=>by
  simp only[zw]at h;split at h
  ·rename_i y Y2 e;split at h
   ·rename_i r hp3 f;injection h with h;injection h with _ h;subst h
    exact Xu e (Kt f c)
   ·cases h
  ·cases h
theorem rk{Y:Hp}{Z:Nat}(h:∀id b,Y id=some b->id<Z)(x:Blk):XW (zI Y Z (some x)) (Z+1):=by
 intro id b a;by_cases e:id=Z
 ·omega
 ·rw[zc _ _ _ _ e]at a;have:=h id b a;omega
theorem Gw{P:Program}{Y Y':Hp}{t:TypeId}{p x:O}(h:xp P Y t p x=some Y'){Z:Nat}(f:XW Y Z):XW Y' Z:=by
 unfold xp at h;split at h
 ·rename_i k i j;split at h
  ·rename_i g d;split at h
   ·rename_i y Y1 a;have l:∀id b,Y1 id=some b->Y id=some b:=fun id b c=>by
     split at a
     ·exact Xu a c
     ·injection a with a;injection a with _ a;subst a;exact c
    split at h
    ·split at h
     ·split at h
      ·injection h with h;subst h;intro id b c;by_cases e:id=k
       ·subst e;exact f id g d
       ·rw[zc _ _ _ _ e]at c;exact f id b (l id b c)
      ·cases h
     ·cases h
    ·cases h
   ·cases h
  ·cases h
 ·cases h
theorem CA{P:Program}{Y Y':Hp}{Z Z':Nat}{t u:TypeId}{s x y:O}(h:jG P Y Z t u s x=some (y,Y',Z'))(e:XW Y Z):XW Y' Z':=by
 unfold jG at h;split at h
 ·split at h
  ·split at h
   ·split at h
    ·split at h
     ·split at h
      ·injection h with h;injection h with _ h;injection h with a c;subst a;subst c;exact e
      ·injection h with h;injection h with _ h;injection h with a c;subst a;subst c;exact rk e _
     ·cases h
    ·split at h
     ·rename_i k _ _ b f;split at h
      ·injection h with h;injection h with _ h;injection h with a c;subst a;subst c;refine rk (fun id g d=>?_) _;unfold zI at d;split at d
       ·cases d
       ·exact e id g d
      ·cases h
     ·cases h
    ·cases h
   ·cases h
  ·cases h
 ·cases h
theorem Gx{P:Program}{Y Y':Hp}{Z Z':Nat}{t:TypeId}{len:Nat}{c:List (Nat×O)}{y:O}(h:zy P Y Z t len c=some (y,Y',Z'))(d:XW Y Z):XW Y' Z':=by
 unfold zy at h;split at h
 ·split at h
  ·rename_i n i j Y1 _ _ a;split at h
   ·split at h
    ·injection h with h;injection h with _ h;injection h with e f;subst e;subst f;exact rk (fun id b g=>d id b (Kt a g)) _
    ·cases h
   ·cases h
  ·cases h
 ·cases h
theorem Gy(f:∀g a,pf g=true->C.Γ g=some a->Qt a){op:Op}(c:topB pf op=true){σ:Nat->O}{Y Y':Hp}{Z Z':Nat}{y:O}(h:zS C (get σ) Y Z op=some (y,Y',Z'))(e:XW Y Z):XW Y' Z':=by
 simp only[topB,qW,z6]at c;rcases c with c|c
 ·obtain⟨rfl,rfl⟩:=Lv f c h;exact e
 ·split at c
  ·simp only[zS]at h;split at h
   ·obtain⟨l,i,d⟩:=zJ h;injection d with _ d;injection d with d k;subst d;subst k;exact Gw i e
   ·cases h
  ·simp only[zS,xq]at h;split at h
   ·simp only[yr]at h;split at h
    ·exact CA h e
    ·cases h
   ·cases h
  ·simp only[zS]at h;split at h
   ·exact Gx h e
   ·cases h
  ·obtain⟨m,i,d⟩:=cN h;subst i;subst d;intro id b j;unfold zI at j;split at j
   ·omega
   ·have:=e id b j;omega
  ·cases c
theorem Gz{P:Program}{Y Y':Hp}{t:TypeId}{p y:O}(hs:∀id b,Y id=some b->Y' id=some b)(h:xc P Y t p=some y):xc P Y' t p=some y:=by
 cases p with
 |ref id i j=>
  simp only[xc]at h⊢;cases a:Y id with
  |none=>rw[a]at h;cases h
  |some b=>rw[a]at h;rw[hs id b a];exact h
 |_=>exact h
theorem gU{P:Program}{Y Y':Hp}{t:TypeId}{p q y:O}(hs:∀id b,Y id=some b->Y' id=some b)(h:qL P Y t p q=some y):qL P Y' t p q=some y:=by
 by_cases a:∀id o n,p≠.own id o n
 ·rw[YQ (Y:=Y) a];exact h
 ·have:∃id o n,p=.own id o n:=by refine Classical.byContradiction fun g=>a fun id o n e=>g ⟨id,o,n,e⟩
  obtain⟨id,o,n,rfl⟩:=this;cases q with
  |v z=>
   cases z with
   |int k i=>
    simp only[qL]at h⊢;cases d:yq P t with
    |none=>rw[d]at h;exact h
    |some e=>
     rw[d]at h;simp only at h⊢;cases f:qN P e with
     |none=>rw[f]at h;cases h
     |some m=>
      rw[f]at h;simp only at h⊢;cases c:Y id with
      |none=>rw[c]at h;cases h
      |some b=>rw[c]at h;rw[hs id b c];exact h
   |_=>cases h
  |_=>cases h
theorem GA{op:Op}(d:aX op=true){σ:Nat->O}{Y Y':Hp}{Z Z':Nat}{y:O}{g:Hp}{n1:Nat}(hs:∀id b,Y id=some b->Y' id=some b)(h:zS C (get σ) Y Z op=some (y,g,n1)):zS C (get σ) Y' Z' op=some (y,Y',Z'):=by
 unfold aX at d;split at d
 ·rename_i t a;simp only[zS,get]at h⊢;obtain⟨z,e,c⟩:=zJ h;injection c with c _
  subst c;rw[Gz hs e];rfl
 ·rename_i t a i;simp only[zS,show get σ (.tmp a)=some (σ a)from rfl]at h⊢;cases f:get σ i with
  |none=>rw[f]at h;cases h
  |some q=>
   rw[f]at h;obtain⟨z,e,c⟩:=zJ h;injection c with c _
   subst c;simp only[gU hs e];rfl
 ·cases d
theorem CB{op:Op}(h:aX op=true):(∃t a,op=.load t (.tmp a))\/∃t a i,op=.indexAddr t (.tmp a) i:=by
 unfold aX at h;split at h
 ·exact .inl ⟨_,_,rfl⟩
 ·exact .inr ⟨_,_,_,rfl⟩
 ·cases h
theorem GB{L:List Tmp}{t:TypeId}{len:Nat}{a:Array (Nat×Operand)}{st:St}(g:ZX L st)(c:VL L (.buildSlice t len a)=true){Y':Hp}{Z':Nat}{z:O}(h:zS C (get st.σ) st.Y st.Z (.buildSlice t len a)=some (z,Y',Z')):∃b,Y'=zI st.Y st.Z b/\Z'=st.Z+1:=by
 simp only[VL]at c;simp only[zS]at h;split at h
 ·rename_i l e;have d:=gT g c e;unfold zy at h;split at h
  ·split at h
   ·rename_i n m o Y1 _ _ f;have i:=gQ d f;subst i;split at h
    ·split at h
     ·injection h with h;injection h with _ h;injection h with j k;exact⟨_,j.symm,k.symm⟩
     ·cases h
    ·cases h
   ·cases h
  ·cases h
 ·cases h
theorem LC(r:∀g m,pf g=true->C.Γ g=some m->Qt m){L:List Tmp}{n:Array Oper}{l c:Oper}(I:RG pf L n l c=true){st s:St}(M:ZX L st)(J:XW st.Y st.Z)(hs:(yQ C n l st).bind (yQ C n c)=some s):(yQ C n c st).bind (yQ C n l)=some s:=by
 simp only[RG,zn,Option.isNone_iff_eq_none]at I;obtain⟨⟨⟨⟨⟨_,B⟩,x⟩,N⟩,d⟩,f⟩:=I;have D:xu pf l.op<=1:=by
  rcases Bool.or_eq_true_iff.1 d with d|d
  ·rcases CB d with⟨t,a,e⟩|⟨t,a,i,e⟩<;>simp[e,xu]
  ·unfold cM at d;split at d
   ·rename_i g E ts j;simp[j,xu,d]
   ·cases d
 have F:st.Y st.Z=none:=by
  cases P:st.Y st.Z with
  |none=>rfl
  |some b=>have:=J _ b P;omega
 cases k:jL C n l st.σ st.Y st.Z with
 |none=>rw[yv,k]at hs;cases hs
 |some q=>
  obtain⟨y,Q,n1⟩:=q;rw[<-aY B (fun Y Z y Y' Z' h=>WT r D h) (fun z Y' Z' h=>?_)]
  ·exact hs
  ·rw[jm N]at h;have u:∃b,Y'=zI st.Y st.Z b/\Z'=st.Z+1:=by
    rcases Bool.or_eq_true_iff.1 f with f|f
    ·have o:=f;unfold VL at f;split at f
     ·rename_i t len G j;rw[j]at h o;exact GB M o h
     ·cases f
    ·unfold Lx at f;split at f
     ·rename_i t j;rw[j]at h;exact cN h
     ·cases f
   obtain⟨b,rfl,rfl⟩:=u;rcases Bool.or_eq_true_iff.1 d with d|d
   ·have v:∀id A,st.Y id=some A->zI st.Y st.Z b id=some A:=fun id A K=>by rw[zc _ _ _ _ (by have:=J id A K;omega)];exact K
    rw[jm x]at k⊢;rw[jm x,k,GA d v k];rfl
   ·unfold cM at d;split at d
    ·rename_i g E ts j;rw[jm x,j]at k⊢;rw[jm x,j,k];have H:zS C (get st.σ) (zI st.Y st.Z b) (st.Z+1) (.call ⟨.value (.func g),E,ts⟩)=some (y,zI st.Y st.Z b,st.Z+1):=by
      simp only[zS,xq]at k⊢;cases w:wK (E.toList.map (get st.σ))with
      |none=>rw[w]at k;cases k
      |some xs=>
       rw[w]at k;simp only[get,jH]at k⊢;cases p:C.Γ g with
       |none=>rw[p]at k;cases k
       |some m=>rw[p]at k;exact(r g m d p _ _ _ _ _ _ k).2 b F
     rw[H];rfl
    ·cases d
def AskA(D:List (Tmp×Tmp))(L:List Tmp)(st:St):Prop:=(ZW D st/\ZX L st)/\(Gq L=true->XW st.Y st.Z)
theorem CC(W:∀g l,pf g=true->C.Γ g=some l->Qt l){X:FuncId->Bool}(hbk:∀g l,X g=true->C.Γ g=some l->QP l){D:List (Tmp×Tmp)}{L:List Tmp}{I:Array Oper}(hpl:rh pf D L X I=true){i:Nat}{o:Oper}{st J:St}(ho:I[i]?=some o)(B:ZW D st/\zaG L st)(hs:yQ C I o st=some J):ZW D J/\zaG L J:=by
  simp only[rh,qW,zn]at hpl;rcases hpl with⟨hD,hL⟩|hpl
  ·have hD:D=[]:=by simpa using hD
   have hL:L=[]:=by simpa using hL
   subst hD;subst hL;exact⟨(fun p Y=>(by cases Y)),(fun s hs=>(by cases hs))⟩
  have h0:=WH.1 hpl o (Yo ho);simp only[zn,qW,z6]at h0;obtain⟨⟨hd,hld⟩,hk⟩:=h0;rw[yv]at hs;obtain⟨r,a,I6⟩:=zJ hs;obtain⟨y,Y1,Q⟩:=r;subst I6;have A:(∀id blk,st.Y id=some blk->blk.arr=false->D.all (fun p=>L.contains p.2)=false\/id<st.Z->∃K,Y1 id=some K/\K.arr=false)/\st.Z<=Q:=by
   have k:∀{op:Op},o.op=op->gJ X op=true->D.all (fun p=>L.contains p.2)=true->(∀id blk,st.Y id=some blk->blk.arr=false->D.all (fun p=>L.contains p.2)=false\/id<st.Z->∃K,Y1 id=some K/\K.arr=false)/\st.Z<=Q:=by
    intro op c hf M;unfold jL at a;split at a
    ·rw[c]at a;obtain⟨h,d⟩:=gL hbk hf a;refine⟨fun id blk v w h3=>?_,h⟩;rcases h3 with h3|h3
     ·rw[M]at h3;cases h3
     ·exact⟨blk,d id blk h3 v w,w⟩
    ·injection a with a;injection a with _ a;injection a with h d;subst h;subst d;exact⟨fun id blk v w _=>⟨blk,v,w⟩,zk _⟩
   rcases hk with hk|hk
   ·obtain⟨rfl,rfl⟩:=WT W hk a;exact⟨fun id blk v w _=>⟨blk,v,w⟩,zk _⟩
   ·split at hk
    ·rename_i t q x c;unfold jL at a;split at a
     ·rw[c]at a;simp only[zS]at a;split at a
      ·obtain⟨w,h,d⟩:=zJ a;injection d with _ d;injection d with d E;subst d;subst E;exact⟨fun id blk v w _=>Gr h v w,zk _⟩
      ·cases a
     ·injection a with a;injection a with _ a;injection a with h d;subst h;subst d;exact⟨fun id blk v w _=>⟨blk,v,w⟩,zk _⟩
    ·rename_i g aZ ts c;simp only[zn]at hk;exact k c (by simpa[gJ]using hk.2) hk.1
    ·rename_i aZ ts c;exact k c rfl hk
    ·rename_i t n ps c;exact k c rfl hk
    ·rename_i t c;exact k c rfl hk
    ·cases hk
  refine⟨fun p Y=>?_,fun s R=>?_⟩
  rotate_left
  ·have hl:=zP.1 hld s R;simp only[qW,zar]at hl;have H:(∀id o' n,put st.σ o.dst y s≠.own id o' n)/\∀id i' j',put st.σ o.dst y s=.ref id i' j'->id<st.Z/\∃blk,st.Y id=some blk/\blk.arr=false:=by
    by_cases m:o.dst=some s
    ·have u:put st.σ o.dst y s=y:=by rw[m];exact qU _ _ _
     rw[u];rcases hl with hl|hl
     ·exact absurd m hl
     ·split at hl
      ·rename_i t b f c;obtain⟨F,G⟩:=B.2 b (by simpa using hl);unfold jL at a;split at a
       ·rw[c]at a;simp only[zS,get]at a;obtain⟨z,h,d⟩:=zJ a;injection d with d _
        subst d;refine⟨fun id o' n e=>?_,fun id i' j' e=>?_⟩
        ·subst e;exact gM h
        ·subst e;obtain⟨i0,j0,E⟩:=KP h;exact G _ _ _ E
       ·injection a with a;injection a with a _;subst a;exact⟨(fun _ _ _ e=>by cases e),(fun _ _ _ e=>by cases e)⟩
      ·rename_i t b ix c;obtain⟨F,G⟩:=B.2 b (by simpa using hl);unfold jL at a;split at a
       ·rw[c]at a;simp only[zS,get]at a;split at a
        ·rename_i p0 q0 S hq0;simp only[qV]at S;subst S;obtain⟨z,h,d⟩:=zJ a;injection d with d _
         subst d;refine⟨fun id o' n e=>?_,fun id i' j' e=>?_⟩
         ·subst e;exact gN h
         ·subst e;obtain⟨i0,j0,E⟩:=KQ h F;exact G _ _ _ E
        ·cases a
       ·injection a with a;injection a with a _;subst a;exact⟨(fun _ _ _ e=>by cases e),(fun _ _ _ e=>by cases e)⟩
      ·cases hl
    ·have u:put st.σ o.dst y s=st.σ s:=vV (fun e T=>by rintro rfl;exact m T);rw[u];exact B.2 s R
   refine⟨H.1,fun id i' j' e=>?_⟩;obtain⟨v,blk,w,h3⟩:=H.2 id i' j' e;exact⟨wV v A.2,A.1 id blk w h3 (.inr v)⟩
  ·have hd:=zP.1 hd p Y;simp only[zn,qW,zar]at hd;obtain⟨hd2,hd1⟩:=hd;have hpb:put st.σ o.dst y p.2=st.σ p.2:=vV (fun e T=>by rintro rfl;exact hd2 T);have N:∀id i j,put st.σ o.dst y p.1=.ref id i j->∃id' i' j' blk,st.σ p.2=.ref id' i' j'/\id≠id'/\st.Y id'=some blk/\blk.arr=false:=by
    intro id i j e;by_cases m:o.dst=some p.1
    ·have u:put st.σ o.dst y p.1=y:=by rw[m];exact qU _ _ _
     rw[u]at e;subst e;rcases hd1 with hd1|hd1
     ·exact absurd m hd1
     ·split at hd1
      ·rename_i t b f c;unfold jL at a;split at a
       ·rw[c]at a;simp only[zS,get]at a;obtain⟨z,h,d⟩:=zJ a;injection d with d _
        subst d;obtain⟨i0,j0,E⟩:=KP h;exact B.1 (b,p.2) (by simpa using hd1) _ _ _ E
       ·injection a with a;injection a with a _;cases a
      ·rename_i t b ix c;simp only[zn]at hd1;obtain⟨F,G⟩:=B.2 b (by simpa using hd1.2);unfold jL at a;split at a
       ·rw[c]at a;simp only[zS,get]at a;split at a
        ·rename_i p0 q0 S hq0;simp only[qV]at S;subst S;obtain⟨z,h,d⟩:=zJ a;injection d with d _
         subst d;obtain⟨i0,j0,E⟩:=KQ h F;exact B.1 (b,p.2) (by simpa using hd1.1) _ _ _ E
        ·cases a
       ·injection a with a;injection a with a _;cases a
      ·rename_i b c;unfold jL at a;split at a
       ·rw[c]at a;simp only[zS,get]at a;obtain⟨z,h,d⟩:=zJ a;injection d with d _
        subst d;injection h with h
        exact B.1 (b,p.2) (by simpa using hd1) _ _ _ h
       ·injection a with a;injection a with a _;cases a
      ·rename_i b c;unfold jL at a;split at a
       ·rw[c]at a;simp only[zS,get]at a;split at a
        ·rename_i h;injection a with a
         injection a with a _;injection a with v w h3;subst v;injection h with h;exact B.1 (b,p.2) (by simpa using hd1) _ _ _ h
        all_goals first
         |cases a
         |(injection a with a;injection a with a _;cases a)
       ·injection a with a;injection a with a _;cases a
      ·cases hd1
    ·have u:put st.σ o.dst y p.1=st.σ p.1:=vV (fun e T=>by rintro rfl;exact m T);rw[u]at e;exact B.1 p Y id i j e
   intro id i j e;obtain⟨id',i',j',blk,eb,hne,hbl,U⟩:=N id i j e;have P:D.all (fun p=>L.contains p.2)=false\/id'<st.Z:=by
    cases M:D.all (fun p=>L.contains p.2)
    ·exact .inl rfl
    ·refine .inr ?_;have:=zP.1 M p Y;exact((B.2 p.2 (by simpa using this)).2 id' i' j' eb).1
   obtain⟨K,tx,hb2⟩:=A.1 id' blk hbl U P;exact⟨id',i',j',K,by show put st.σ o.dst y p.2=_;rw[hpb];exact eb,hne,tx,hb2⟩
theorem zbG(v:∀g f,pf g=true->C.Γ g=some f->Qt f){L:List Tmp}{h:Array Oper}(F:Cy pf L h=true)(I:Gq L=true){i:Nat}{o:Oper}{st d:St}(J:h[i]?=some o)(w:ZX L st)(G:XW st.Y st.Z)(hs:yQ C h o st=some d) :
  (∀s∈L,zB<=s->(d.σ (s-zB)).Yk=true)/\XW d.Y d.Z:=by
 simp only[Cy,I,Bool.not_true,ziU]at F;have H:=WH.1 F o (Yo J);simp only[zn]at H;obtain⟨l,m⟩:=H;rw[yv]at hs;obtain⟨r,a,x⟩:=zJ hs;obtain⟨y,Y1,A⟩:=r;subst x;refine⟨fun s n p=>?_,?_⟩
 ·have c:=zP.1 m s n;simp only[qW,z6,zar,zn,Option.isNone_iff_eq_none]at c;by_cases hd:o.dst=some (s-zB)
  ·have j:put st.σ o.dst y (s-zB)=y:=by rw[hd];exact qU _ _ _
   show(put st.σ o.dst y (s-zB)).Yk=true;rw[j];rcases c with(c|c)|⟨K,c⟩
   ·exact absurd c (Nat.not_lt.2 p)
   ·exact absurd hd c
   ·rw[jm K]at a;split at c
    ·rename_i b k;rw[k]at a;simp only[zS,get,zY]at a;injection a with a
     injection a with a _;rw[<-a];exact ER w c
    ·rename_i t B k;rw[k]at a;simp only[zS]at a;split at a
     ·rename_i N q;obtain⟨z,D,u⟩:=zJ a;injection u with u _
      subst u;exact zbF (tN (gT w c q) D)
     ·cases a
    ·cases c
  ·have j:put st.σ o.dst y (s-zB)=st.σ (s-zB):=vV (fun e M E=>hd (by rw[M,E]));show(put st.σ o.dst y (s-zB)).Yk=true;rw[j];exact(w s n).2 p
 ·show XW Y1 A;unfold jL at a;split at a
  ·exact Gy v l a G
  ·injection a with a;injection a with _ a;injection a with D u;subst D;subst u;exact G
theorem LD(k:∀g d,pf g=true->C.Γ g=some d->Qt d){r:FuncId->Bool}(m:∀g d,r g=true->C.Γ g=some d->QP d){D:List (Tmp×Tmp)}{L:List Tmp}{n:Array Oper}(l:ri pf D L r n=true):te C n (EP pf D L r n) (AskA D L):=by
 simp only[ri,zn]at l;obtain⟨B,l⟩:=l;refine⟨fun i o st t w f hs=>?_,fun i j a b st t H I c f hs=>?_⟩
 ·obtain⟨x,y⟩:=CC k m l w ⟨f.1.1,fun s hs=>(f.1.2 s hs).1⟩ hs;cases q:Gq L
  ·refine⟨⟨x,fun s h=>⟨y s h,fun E=>?_⟩⟩,fun e=>by rw[q]at e;cases e⟩;have:=List.any_eq_false.1 q s h;simp at this;omega
  ·obtain⟨F,G⟩:=zbG k B q w f.1.2 (f.2 q) hs;exact⟨⟨x,fun s h=>⟨y s h,F s h⟩⟩,fun _=>G⟩
 ·simp only[EP,qW]at c;rcases c with(c|c)|c
  ·rw[<-Gp k c st];exact hs
  ·simp only[zaI,zn,qW,Option.isNone_iff_eq_none]at c;obtain⟨⟨⟨⟨u,p⟩,z⟩,A⟩,hm⟩:=c;rcases hm with hm|hm
   ·rw[<-om m hm z A u f.1.1 f.1.2];exact hs
   ·rw[om m hm A z p f.1.1 f.1.2];exact hs
  ·have v:Gq L=true:=by simp only[RG,zn]at c;exact c.1.1.1.1.1
   exact LC k c f.1.2 (f.2 v) hs
end
def Zs(C:Ctx)(code:Code)(st:St)(K:Exit->St->Prop):Prop:=∃e a,qX C code st=some (e,a)/\K e a
def gV(C:Ctx)(b:Array Oper)(l:List Oper)(st:St)(K:St->Prop):Prop:=∃a,vP C b l st=some a/\K a
def Yt{α:Type}(o:Option α)(K:α->Prop):Prop:=∃x,o=some x/\K x
theorem tO{α:Type}{o o':Option α}(K:α->Prop)(h:o=o'):Yt o K=Yt o' K:=by rw[h]
theorem CD{α:Type}(x:α)(K:α->Prop):Yt (some x) K=K x:=by simp[Yt]
def ed(C:Ctx)(o:Option O)(x y:Code)(st:St)(K:Exit->St->Prop):Prop:=(o=some (.v (.bool true))/\Zs C x st K)\/(o=some (.v (.bool false))/\Zs C y st K)
theorem tP{C:Ctx}{o o':Option O}{x y:Code}{st:St}{K:Exit->St->Prop}(h:o=o'):ed C o x y st K=ed C o' x y st K:=by rw[h]
theorem CE(C:Ctx)(x y:Code)(st:St)(K:Exit->St->Prop):ed C (some (.v (.bool true))) x y st K=Zs C x st K:=by simp[ed]
theorem tQ(C:Ctx)(x y:Code)(st:St)(K:Exit->St->Prop):ed C (some (.v (.bool false))) x y st K=Zs C y st K:=by simp[ed]
def gW(C:Ctx)(b:Code)(K:Exit->St->Prop)(e:Exit)(st:St):Prop:=match e with
 | .normal=>Zs C b st K
 |e=>K e st
def Q9(id:Nat)(K:Exit->St->Prop)(e:Exit)(st:St):Prop:=match e with
 | .exit i=>if i=id then K .normal st else K (.exit i) st
 |e=>K e st
def vy(K:Exit->St->Prop)(st:St):Prop:=K .normal st
theorem rl(C:Ctx)(b:Code)(K:Exit->St->Prop)(st:St):gW C b K .normal st=Zs C b st K:=rfl
theorem GD(C:Ctx)(b:Code)(K:Exit->St->Prop)(st:St):gW C b K .ret st=K .ret st:=rfl
theorem CF(C:Ctx)(b:Code)(K:Exit->St->Prop)(i:Nat)(st:St):gW C b K (.exit i) st=K (.exit i) st:=rfl
theorem jW(id:Nat)(K:Exit->St->Prop)(st:St):Q9 id K .normal st=K .normal st:=rfl
theorem CG(id:Nat)(K:Exit->St->Prop)(st:St):Q9 id K .ret st=K .ret st:=rfl
theorem cP(id:Nat)(K:Exit->St->Prop)(st:St):Q9 id K (.exit id) st=K .normal st:=by simp[Q9]
theorem VM{C:Ctx}{code:Code}{st:St}{b:Exit}{a:St}(K:Exit->St->Prop)(h:qX C code st=some (b,a)):Zs C code st K=K b a:=by
 unfold Zs;apply propext;constructor
 ·rintro⟨e,c,f,d⟩;rw[h]at f;obtain⟨rfl,rfl⟩:b=e/\a=c:=by simpa using f
  exact d
 ·exact fun d=>⟨_,_,h,d⟩
theorem KS(C:Ctx)(st:St)(K:Exit->St->Prop):Zs C .skip st K=K .normal st:=VM K (by simp only[qX])
theorem LF(C:Ctx)(id:Nat)(st:St)(K:Exit->St->Prop):Zs C (.exit id) st K=K (.exit id) st:=VM K (by simp only[qX])
theorem RH(C:Ctx)(st:St)(K:Exit->St->Prop):Zs C .ret st K=K .ret st:=VM K (by simp only[qX])
theorem GF(C:Ctx)(l:Nat)(st:St)(K:Exit->St->Prop):Zs C (.label l) st K=K .normal st:=VM K (by simp only[qX])
theorem tS(C:Ctx)(i:Nat)(a:Array Oper)(d:Bool)(c st:St)(K:Exit->St->Prop)(g:tc (C.fz i) c=some st)(h:ZW (C.dyn i) st)(j:ZX (C.I5 i) st):Zs C (.region i a d) c K=gV C a a.toList st (vy K):=by
 unfold Zs gV vy;simp only[qX,g,h,j,zgV,qh];apply propext;constructor
 ·rintro⟨e,b,h,f⟩;split at h
  ·rename_i s hs;obtain⟨rfl,rfl⟩:Exit.normal=e/\s=b:=by simpa using h
   exact⟨_,hs,f⟩
  ·cases h
 ·rintro⟨b,h,f⟩;exact⟨.normal,b,by rw[h],f⟩
theorem vA(C:Ctx)(i:Nat)(a:Array Oper)(d:Bool)(st:St)(K:Exit->St->Prop)(h:ZW (C.dyn i) st)(b:ZX (C.I5 i) st)(c:C.fz i=[]:=by rfl):Zs C (.region i a d) st K=gV C a a.toList st (vy K):=
 tS C i a d st st K (by rw[c];rfl) h b
theorem QD(C:Ctx)(i:Nat)(a:Array Oper)(d:Bool)(st:St)(K:Exit->St->Prop)(h:C.dyn i=[])(b:C.I5 i=[])(c:C.fz i=[]:=by rfl):Zs C (.region i a d) st K=gV C a a.toList st (vy K):=vA C i a d st K (by rw[h];intro p Y;cases Y) (by rw[b];intro p Y;cases Y) c
theorem fJ(C:Ctx)(a b:Code)(st:St)(K:Exit->St->Prop):Zs C (.seq a b) st K=Zs C a st (gW C b K):=by
 unfold Zs;simp only[qX];apply propext;constructor
 ·rintro⟨e,c,h,d⟩;split at h
  ·rename_i s hs;exact⟨.normal,s,hs,e,c,h,d⟩
  ·rename_i r k;refine⟨e,c,h,?_⟩;cases e<;>simp_all[gW]
 ·rintro⟨e,c,h,d⟩;cases e
  case normal=>obtain⟨i,f,j,g⟩:=d;exact⟨i,f,by rw[h];exact j,g⟩
  all_goals exact⟨_,c,by rw[h],d⟩
theorem LG(C:Ctx)(c:Operand)(x y:Code)(st:St)(K:Exit->St->Prop):Zs C (.cond c x y) st K=ed C (get st.σ c) x y st K:=by
 unfold Zs ed;simp only[qX];apply propext;constructor
 ·rintro⟨e,a,h,d⟩;split at h
  ·rename_i b;exact .inl ⟨b,e,a,h,d⟩
  ·rename_i b;exact .inr ⟨b,e,a,h,d⟩
  ·cases h
 ·rintro (⟨b,e,a,h,d⟩|⟨b,e,a,h,d⟩)
  ·exact⟨e,a,by rw[b];exact h,d⟩
  ·exact⟨e,a,by rw[b];exact h,d⟩
theorem oo(C:Ctx)(id:Nat)(b:Code)(st:St)(K:Exit->St->Prop):Zs C (.block id b) st K=Zs C b st (Q9 id K):=by
 unfold Zs;simp only[qX];apply propext;constructor
 ·rintro⟨e,a,h,c⟩;split at h
  ·rename_i i s hs;refine⟨.exit i,s,hs,?_⟩;unfold Q9;split at h
   ·rename_i d;obtain⟨rfl,rfl⟩:Exit.normal=e/\s=a:=by simpa using h
    simp[d,c]
   ·rename_i d;obtain⟨rfl,rfl⟩:Exit.exit i=e/\s=a:=by simpa using h
    simp[d,c]
  ·rename_i r f;refine⟨e,a,h,?_⟩;cases e<;>simp_all[Q9]
 ·rintro⟨e,a,h,c⟩;cases e
  case exit i=>
   unfold Q9 at c;simp only[h];by_cases d:i=id
   ·simp only[d,qh]at c⊢;exact⟨_,_,rfl,c⟩
   ·simp only[d,qz]at c⊢;exact⟨_,_,rfl,c⟩
  all_goals exact⟨_,a,by rw[h],c⟩
def asgK(C:Ctx)(b:Code)(K:Exit->St->Prop)(e:Exit)(st:St):Prop:=match e with
 | .normal=>Zs C b st K
 |_=>False
def rngK(I:Nat->Hp->Nat->Prop)(k:Nat)(σ:Nat->O)(K:Exit->St->Prop)(e:Exit)(st:St):Prop:=match e with
 | .normal=>I (k+1) st.Y st.Z
 | .ret=>K .ret ⟨σ,st.Y,st.Z⟩
 | .exit i=>K (.exit i) ⟨σ,st.Y,st.Z⟩
 |_=>False
theorem GG{C:Ctx}{f:Operand}{s:Array Tmp}{a b:Code}{st:St}{K:Exit->St->Prop}{p:Tmp}{g:FuncId}{cap:zb}{it:ZV}{xs:zb}{Y1:Hp}
  (o:s.toList=[p]) (v:get st.σ f=some (.fn (.func g) [] cap)) (hit:C.it g=some it) (w:it cap st.Y=some (xs,Y1)) (I:Nat->Hp->Nat->Prop) (x:I 0 Y1 st.Z)
  (h:∀k Y Z (t:k<xs.length),I k Y Z->Zs C a ⟨zI st.σ p xs[k],Y,Z⟩ (asgK C b (rngK I k st.σ K))) (i:∀Y Z,I xs.length Y Z->K .normal ⟨st.σ,Y,Z⟩):Zs C (.rangeFunc f s a b) st K:=by
 have q:∀d k Y Z,xs.length-k=d->k<=xs.length->I k Y Z->∃e Y2 c,Jz (qX C a) (qX C b) st.σ p (xs.drop k) Y Z=some (e,Y2,c)/\K e ⟨st.σ,Y2,c⟩:=by
  intro d
  induction d with
  |zero=>
   intro k Y Z hd t r;obtain rfl:k=xs.length:=by omega
   exact⟨.normal,Y,Z,by rw[zp];rfl,i Y Z r⟩
  |succ d y=>
   intro k Y Z hd t r;have j:k<xs.length:=by omega
   obtain⟨z,D,l,m⟩:=h k Y Z j r;rw[zg j];simp only[Jz,l];cases z<;>try exact m.elim
   obtain⟨A,u,B,n⟩:=m;simp only[B];cases A<;>try exact n.elim
   ·exact y (k+1) u.Y u.Z (by omega) (by omega) n
   ·exact⟨_,_,_,rfl,n⟩
   ·exact⟨_,_,_,rfl,n⟩
 obtain⟨e,Y2,c,l,m⟩:=q _ 0 Y1 st.Z rfl (jS _) x;rw[w8]at l;exact⟨e,⟨st.σ,Y2,c⟩,by simp only[qX,o,v,hit,w,l],m⟩
theorem RI(C:Ctx)(a:Array Oper)(st:St)(K:St->Prop):gV C a [] st K=K st:=by simp[gV,vP]
def LH(C:Ctx)(a:Array Oper)(l:List Oper)(K:St->Prop)(st:St):Prop:=gV C a l st K
theorem LI(C:Ctx)(a:Array Oper)(l:List Oper)(K:St->Prop)(st:St):LH C a l K st=gV C a l st K:=rfl
theorem LJ(C:Ctx)(a:Array Oper)(o:Oper)(l:List Oper)(st:St)(K:St->Prop):gV C a (o::l) st K=Yt (yQ C a o st) (LH C a l K):=by
 unfold gV Yt LH gV;simp only[vP];apply propext;constructor
 ·rintro⟨b,h,c⟩;split at h
  ·rename_i s hs;exact⟨s,hs,b,h,c⟩
  ·cases h
 ·rintro⟨s,hs,b,h,c⟩;exact⟨b,by rw[hs];exact h,c⟩
theorem qx(C:Ctx)(b:Code)(st:St)(K:Exit->St->Prop):Zs C (.loop b) st K=Zs C b st (gW C (.loop b) K):=by
 unfold Zs;simp only[qX];rw[pW];apply propext;constructor
 ·rintro⟨e,a,h,c⟩;split at h
  ·rename_i s hs;exact⟨.normal,s,hs,e,a,by simpa only[qX]using h,c⟩
  ·rename_i r j;refine⟨e,a,h,?_⟩;cases e<;>simp_all[gW]
 ·rintro⟨e,a,h,c⟩;cases e
  case normal=>obtain⟨g,d,i,f⟩:=c;exact⟨g,d,by rw[h];simpa only[qX]using i,f⟩
  all_goals exact⟨_,a,by rw[h],c⟩
def rm(I:St->Prop)(a:St->Nat)(n:Nat)(K:Exit->St->Prop)(e:Exit)(st:St):Prop:=match e with
 | .normal=>I st/\a st<n
 |e=>K e st
theorem nj(I:St->Prop)(a:St->Nat)(n:Nat)(K:Exit->St->Prop)(st:St):rm I a n K .normal st=(I st/\a st<n):=rfl
theorem CH(I:St->Prop)(a:St->Nat)(n:Nat)(K:Exit->St->Prop)(st:St):rm I a n K .ret st=K .ret st:=rfl
theorem tT(I:St->Prop)(a:St->Nat)(n i:Nat)(K:Exit->St->Prop)(st:St):rm I a n K (.exit i) st=K (.exit i) st:=rfl
theorem Zs.mono{C:Ctx}{code:Code}{st:St}{K b:Exit->St->Prop}(h:Zs C code st K)(c:∀e st,K e st->b e st):Zs C code st b:=
 let⟨e,a,d,f⟩:=h
 ⟨e,a,d,c _ _ f⟩
theorem ba{C:Ctx}{b:Code}{st:St}{K:Exit->St->Prop}(I:St->Prop)(d:St->Nat)(h:I st)(a:∀st,I st->Zs C b st (rm I d (d st) K)):Zs C (.loop b) st K:=by
 have f:∀n st,d st=n->I st->Zs C (.loop b) st K:=by
  intro n
  induction n using Nat.strongRecOn with
  |_ n i=>
   intro st j k;rw[qx];refine(a st k).mono fun e c g=>?_
   cases e
   case normal=>exact i (d c) (j ▸ g.2) c rfl g.1
   all_goals exact g
 exact f _ st rfl h
def Xb(P:Program)(fn:Func)(R:O->Hp->Nat->Prop)(e:Exit)(st:St):Prop:=match e with
 | .normal|.ret=>Yt (xt P fn st) (fun x=>R x st.Y st.Z)
 |_=>False
theorem tU(P:Program)(fn:Func)(R:O->Hp->Nat->Prop)(st:St):Xb P fn R .normal st=Yt (xt P fn st) (fun x=>R x st.Y st.Z):=rfl
theorem LK(P:Program)(fn:Func)(R:O->Hp->Nat->Prop)(st:St):Xb P fn R .ret st=Yt (xt P fn st) (fun x=>R x st.Y st.Z):=rfl
theorem wB{C:Ctx}{fn:Func}{code:Code}{args:zb}{Y:Hp}{Z:Nat}{R:O->Hp->Nat->Prop}(d:fn.body=some code)
  (h:Zs C code ⟨kM args,Y,Z⟩ (Xb C.P fn R)):∃x Y' Z',yR C fn args Y Z=some (x,Y',Z')/\R x Y' Z':=by
 obtain⟨e,st,f,a⟩:=h;unfold yR;simp only[d,f];unfold Xb at a;split at a
 ·obtain⟨x,b,c⟩:=a;exact⟨x,st.Y,st.Z,by simp[b],c⟩
 ·obtain⟨x,b,c⟩:=a;exact⟨x,st.Y,st.Z,by simp[b],c⟩
 ·exact a.elim
def jB(r:O)(x:O)(Y:Hp)(_:Nat):Prop:=(freeze Y x).map (·.1)=some r
theorem zs{C:Ctx}{fn:Func}{code:Code}{args:zb}{r:O}(a:fn.body=some code)
  (h:Zs C code ⟨kM args,fun _=>none,0⟩ (Xb C.P fn (jB r))):zH C fn args=some r:=by
 obtain⟨x,Y',Z',b,c⟩:=wB a h;unfold zH;simp only[b];exact c
theorem ee(d:Option Tmp)(op:Op)(t:TypeId)(p:String)(a:Array Edge)(y:Nat->Option Bool):Region.wanted ⟨d,op,t,p,a,none⟩ y=true:=rfl
theorem LL(C:Ctx)(a:Array Oper)(d:Option Tmp)(op:Op)(t:TypeId)(p:String)(b:Array Edge)(st:St):yQ C a ⟨d,op,t,p,b,none⟩ st =
  (zS C (get st.σ) st.Y st.Z op).map fun r=>⟨put st.σ d r.1,r.2.1,r.2.2⟩:=by
 simp only[yQ,ee,qh];cases zS C (get st.σ) st.Y st.Z op<;>rfl
variable{dr:Prop}
section
variable{C:Ctx}{pf:FuncId->Bool}
def Z1(a:Array Bool)(k:Nat):Prop:=a.getD k false=true
theorem ef{i n:Nat}(h:i<n):List.range n=List.range i++i::List.range' (i+1) (n-i-1):=by
 have a:List.range n=List.range' 0 i++List.range' i (n-i):=by rw[List.range_eq_range',show List.range' 0 n=List.range' 0 (i+(n-i))from by rw[show i+(n-i)=n from by omega],<-List.range'_append_1];simp
 rw[a,List.range_eq_range'];congr 1;rw[show n-i=(n-i-1)+1 from by omega,List.range'_succ];simp
theorem LM{a:Array Oper}{cm:Oper->Oper->Bool}{A:St->Prop}(D:te C a cm A)(E:gI cm a=true):∀(fuel t:Nat) (listed:Array Bool) (st:St),A st->listed.size=a.size->XT a (Z1 listed) ->
  ((List.range a.size).filter fun i=>!listed.getD i true).length<=fuel ->
  ∀r:St,kn C a ((List.range a.size).filter fun i=>!listed.getD i true) st=some r->kn C a (Region.linearise.go .any a fuel t listed []) st=some r:=by
 intro fuel
 induction fuel with
 |zero=>intro t listed st _ _ _ Q r c;rw[wI (Nat.le_zero.1 Q)]at c;exact c
 |succ fuel ih=>
  intro t listed st R S F Q r c;simp only[Region.linearise.go];change kn C a (match(Region.ready .any a listed)[t % (Region.ready .any a listed).length]? with
   |some i=>Region.linearise.go .any a fuel (t/(Region.ready .any a listed).length) (listed.setIfInBounds i true) [i]
   |none=>[].reverse) st=some r
  have q:∀k,k<a.size->listed.getD k true=listed.getD k false:=fun k hk=>by
   have:k<listed.size:=by omega
   simp[this]
  have d:∀i,i∈Region.ready .any a listed↔i<a.size/\listed.getD i true=false/\∃o,a[i]?=some o/\oi (Z1 listed) o:=by
   intro i;unfold Region.ready;simp only[List.mem_filter,yK,zn,Ql];constructor
   ·rintro⟨G,T,h3⟩;refine⟨G,T,a[i],by simp[G],fun e s u=>?_⟩;simp only[G,jf,zY,vx]at h3;have:=WH.1 h3 e (by simpa using s);simpa[u,Z1]using this
   ·rintro⟨G,T,o,m,Y⟩;refine⟨G,T,?_⟩;simp only[m,zY,vx];refine WH.2 fun e s=>?_
    cases u:Region.binds .any e with
    |false=>rfl
    |true=>simpa[Z1]using Y e (by simpa using s) u
  cases U:(Region.ready .any a listed)[t % (Region.ready .any a listed).length]? with
  |none=>
   have H:Region.ready .any a listed=[]:=by
    cases c:Region.ready .any a listed with
    |nil=>rfl
    |cons x xs=>rw[c]at U;have w:t % (x::xs).length<(x::xs).length:=Nat.mod_lt _ (by simp);simp at U;simp at w;omega
   have I:∀n k,k<n->k<a.size->listed.getD k true=true:=by
    intro n
    induction n with
    |zero=>intro k hk;omega
    |succ n J=>
     intro k hk g;by_cases W:k<n
     ·exact J k W g
     ·have X:k=n:=by omega
      subst X;cases u:listed.getD k true with
      |true=>rfl
      |false=>
       have m:a[k]?=some a[k]:=by simp[g]
       have v:k∈Region.ready .any a listed:=(d k).2 ⟨g,u,a[k],m,fun e s hbe=>by have w:=(ec E k _ m).1 e s hbe;have:=J e.on w (by omega);rw[q e.on (by omega)]at this;exact this⟩
       rw[H]at v;cases v
   have:((List.range a.size).filter fun i=>!listed.getD i true)=[]:=by rw[List.filter_eq_nil_iff];intro k hk;have g:=yK.1 hk;rw[I (k+1) k (by omega) g];simp
   rw[this]at c;exact c
  |some i=>
   simp only[];obtain⟨K,hul,o,m,Y⟩:=(d i).1 (zE U);rw[linearise_go_acc,List.reverse_singleton,kh];have y:∀k,(listed.setIfInBounds i true).getD k true=if k=i then true else listed.getD k true:=by
    intro k;by_cases hk:k=i
    ·subst hk;have:k<listed.size:=by omega
     simp[this]
    ·rw[zj hk];simp[yi (fun h=>hk h.symm)]
   have hlf:∀k,Z1 (listed.setIfInBounds i true) k↔k=i\/Z1 listed k:=by
    intro k;unfold Z1;by_cases hk:k=i
    ·subst hk;have:k<listed.size:=by omega
     simp[this]
    ·simp[yi (fun h=>hk h.symm),hk]
   have f:((List.range a.size).filter fun k=>!listed.getD k true)=((List.range i).filter fun k=>!listed.getD k true)++i::((List.range' (i+1) (a.size-i-1)).filter fun k=>!listed.getD k true):=by rw[ef K,List.filter_append,List.filter_cons_of_pos (by rw[hul];rfl)]
   have b:((List.range a.size).filter fun k=>!(listed.setIfInBounds i true).getD k true)=((List.range i).filter fun k=>!listed.getD k true)++((List.range' (i+1) (a.size-i-1)).filter fun k=>!listed.getD k true):=by
    rw[ef K,List.filter_append,List.filter_cons_of_neg (by rw[y];simp)];congr 1
    ·exact List.filter_congr fun k hk=>by have:=yK.1 hk;rw[y,zj (by omega)]
    ·exact List.filter_congr fun k hk=>by have:=(List.mem_range'_1.1 hk).1;rw[y,zj (by omega)]
   have L:XT a (Z1 (listed.setIfInBounds i true)):=by
    intro k o' hk l e s u;rw[hlf]at hk⊢;rcases hk with rfl|hk
    ·rw[m]at l;injection l with l
     subst l;exact .inr (Y e s u)
    ·exact .inr (F k o' hk l e s u)
   have p:((List.range a.size).filter fun k=>!(listed.setIfInBounds i true).getD k true).length<=fuel:=by rw[b];rw[f]at Q;simp only[zt,ze]at Q⊢;omega
   have M:=fun st R=>ih (t/(Region.ready .any a listed).length) (listed.setIfInBounds i true) st R (by simpa using S) L p
   rw[f]at c;have c:=Xs D m _ _ _ r R (fun j hj=>by
    obtain⟨z,N⟩:=List.mem_filter.1 hj;have z:=yK.1 z;rcases(ec E i o m).2 j z with h|h
    ·have:=h (Z1 listed) F Y;unfold Z1 at this;rw[<-q j (by omega)]at this;rw[this]at N;cases N
    ·exact h) c
   simp only[kn,m]at c⊢;cases B:yQ C a o st with
   |none=>rw[B]at c;cases c
   |some P=>rw[B]at c;simp only[zW]at c⊢;exact M P (D.kO i o st P m R B) r (by rw[b];exact c)
theorem rn(a:Array Oper)(st:St):∀(l:List Oper) (i:Nat),(∀k,l[k]?=a[i+k]?)->i+l.length=a.size->kn C a (List.range' i l.length) st=vP C a l st:=by
 intro l
 induction l generalizing st with
 |nil=>intro i _ _;rfl
 |cons o l d=>
  intro i c e;have f:a[i]?=some o:=by have:=c 0;simpa using this.symm
  simp only[ze,List.range'_succ,kn,f,vP];cases hs:yQ C a o st with
  |none=>rfl
  |some b=>simp only[zW];exact d b (i+1) (fun k=>by have:=c (k+1);simpa[ziT,cz 1 k]using this) (by simp at e;omega)
theorem Xv(a:Array Oper)(st:St):kn C a (List.range a.size) st=vP C a a.toList st:=by have:=rn (C:=C) a st a.toList 0 (by simp) (by simp);rw[List.range_eq_range'];simpa using this
theorem RJ{a:Array Oper}{f:Oper->Oper->Bool}{A:St->Prop}(c:te C a f A)(d:gI f a=true)(t:Nat)(st r:St)(g:A st)(h:vP C a a.toList st=some r):kn C a (Region.linearise .any a t) st=some r:=by
 unfold Region.linearise;refine LM c d a.size t _ st g (by simp) (fun k o b=>by unfold Z1 at b;rw[wU,Qs]at b;split at b<;>simp at b) (zM (List.length_filter_le _ _) (by simp)) r ?_
 have:((List.range a.size).filter fun i=>!(Array.replicate a.size false).getD i true)=List.range a.size:=by rw[List.filter_eq_self];intro i e;have e:=yK.1 e;simp[e]
 rw[this,Xv];exact h
end
section
variable{C:Ctx}{pf:FuncId->Bool}{w0:World}{S0 L:Nat->Prop}{N Z0:Nat}{G0:Nat->GI}{n0:Nat}
theorem bb{w:World}{S:Nat->Prop}{G:Nat->GI}{Z:Nat}{f:Array Oper}{σ:Nat->O}{a:Act}(hs:∀t,qg w S G Z (σ t) (a.tmps.getD t undef)):yielded f a.tmps=xr f σ:=by
 funext j;unfold yielded xr;cases hd:(f[j]?).bind (·.dst)with
 |none=>rfl
 |some d=>
  simp only[zW];have k:=hs d;have m:∀b:Bool,a.tmps.getD d undef=.bool b->a.tmps[d]?=some (.bool b):=by
   intro b l;by_cases g:d<a.tmps.size
   ·simp[g]at l⊢;exact l
   ·simp[g]at l;simp[undef]at l
  cases i:σ d with
  |v x=>
   rw[i]at k;obtain⟨e,o⟩:=k.wZ;cases x with
   |bool b=>simp only[m b e]
   |_=>
    cases n:a.tmps[d]? with
    |none=>rfl
    |some y=>
     have:a.tmps.getD d undef=y:=by simp[n]
     rw[this]at e;subst e;rfl
  |_=>
   cases n:a.tmps[d]? with
   |none=>rfl
   |some y=>
    have:a.tmps.getD d undef=y:=by simp[n]
    rw[i,this]at k;cases y with
    |bool b=>cases k with
     |c h=>cases h
    |_=>rfl
def BP(F:Fence):Prop:=F=Fence.wide\/∃l,F=Fence.wide.inRound l
theorem BP.fn{F:Fence}(h:BP F)(f:FuncId):F.fn f:=by rcases h with rfl|⟨l,rfl⟩<;>trivial
theorem BP.deep{F:Fence}(h:BP F):F.depth=none:=by rcases h with rfl|⟨l,rfl⟩<;>rfl
theorem BP.calls{F:Fence}(h:BP F){n:Nat}{P:Program}{f:FuncId}{args:Array Value}{w:World}{R:Ending->World->Prop}(a:Calls P f args w R):CallsIn F n P f args w R:=by
 rcases h with rfl|⟨l,rfl⟩
 ·exact Xl.2 a
 ·exact(Xl.2 a:CallsIn Fence.wide n P f args w R)
theorem WI(k:∀g r,C.Γ g=some r->jl dr C.P g r){m:Array Oper}(u:∀(i:Nat) (o:Oper),m[i]?=some o->∀d,o.dst=some d->d<N){F:Fence}{n:Nat}(s:BP F){Q:Exit->Act->World->Prop} :
  ∀(l:List Nat) (st j:St) (a:Act) (w:World),kn C m l st=some j->fG dr C.P w0 S0 L N Z0 G0 n0 st a w->(∀T t,fG dr C.P w0 S0 L N Z0 G0 n0 j T t->Q .normal T t)->wpOpsIn F n C.P m Q l a w
 |[],st,j,a,w,h,hs,D=>by
  simp only[kn]at h;injection h with h
  subst h;exact D a w hs
 |i::l,st,j,a,w,h,hs,D=>by
  simp only[wpOpsIn];cases E:m[i]? with
  |none=>simp only[kn,E]at h;exact WI k u s l st j a w h hs D
  |some o=>
   simp only[kn,E]at h;cases b:yQ C m o st with
   |none=>rw[b]at h;cases h
   |some U=>
    rw[b]at h;simp only[zW]at h;obtain⟨S,G,z⟩:=hs;unfold yQ at b;simp only[];rw[bb z.vR];split at b
    ·rename_i H;rw[zl H];split at b
     ·rename_i x Y Z A;injection b with b
      subst b;have I:∀c,o.op≠.defer c:=by intro c J;rw[J]at A;simp[zS]at A
      refine⟨fun f _=>s.fn f,?_⟩;rw[Oper.semAt_eq _ _ _ I];have K:=aW k z.inv (a:=a.eval) (fun y pv W=>Yp z.vR W) (o:=o) A;rcases K with⟨v,t,S',G',B,M,R⟩|⟨g,vs,B,J⟩
      ·have p:fG dr C.P w0 S0 L N Z0 G0 n0 ⟨put st.σ o.dst x,Y,Z⟩ (a.put o.dst v) t:=⟨S',G',z.step M R (u i o E)⟩;have q:=WI (n:=n) k u s l _ j _ t h p D;rcases B with B|⟨B,rfl⟩
       ·rw[B];exact q
       ·rw[B];exact q
      ·rw[B];refine⟨fun h=>by simp[s.deep]at h,s.calls (J.mono fun e t X=>?_)⟩;obtain⟨v,S',G',rfl,M,R⟩:=X;have p:fG dr C.P w0 S0 L N Z0 G0 n0 ⟨put st.σ o.dst x,Y,Z⟩ (a.put o.dst v) t:=⟨S',G',z.step M R (u i o E)⟩;exact WI k u s l _ j _ t h p D
     ·cases b
    ·rename_i H;rw[zj H];injection b with b
     subst b;exact⟨fun f _=>s.fn f,WI k u s l _ j _ w h ⟨S,G,z.step (.refl z.inv) kA (u i o E)⟩ D⟩
def jI:Code->Bool
 | .seq a b=>jI a&&jI b
 | .cond _ a b=>jI a&&jI b
 | .block _ b=>jI b
 | .loop b=>jI b
 | .rangeFunc _ _ _ _=>false
 | .scope _=>false
 |_=>true
def vj(pf:FuncId->Bool)(c:Nat->List (Tmp×Tmp))(e:Nat->List Tmp)(f:FuncId->Bool)(N:Nat):Code->Bool
 | .region i g h=>g.all (fun o=>match o.dst with|some d=>decide (d<N)|none=>true)&&(!h||(gI (EP pf (c i) (e i) f g) g&&ri pf (c i) (e i) f g))
 | .seq a b=>vj pf c e f N a&&vj pf c e f N b
 | .cond _ a b=>vj pf c e f N a&&vj pf c e f N b
 | .block _ b=>vj pf c e f N b
 | .loop b=>vj pf c e f N b
 | .rangeFunc _ j a b=>j.all (fun p=>decide (p<N))&&jI a&&jI b&&vj pf c e f N a&&vj pf c e f N b
 |_=>true
theorem fG.drew{st:St}{a:Act}{w:World}(h:fG dr C.P w0 S0 L N Z0 G0 n0 st a w):fG dr C.P w0 S0 L N Z0 G0 n0 st a {w with drawn:=w.drawn+1}:=by obtain⟨S,G,c⟩:=h;refine⟨S,G,c.inv.same rfl,fun t=>(c.vR t).mono (fun b d=>⟨d,rfl⟩) (zk _) (fun _ _=>rfl),c.size,c.defers,c.s0,c.s1,c.own,c.fr.trans (Fr.drew w L) fun _ _ h=>h,c.up,c.loc⟩
theorem fG.top{st:St}{a:Act}{w:World}(h:fG dr C.P w0 S0 L N Z0 G0 n0 st a w):XW st.Y st.Z:=by obtain⟨S,G,b⟩:=h;exact b.inv.top
theorem fG.zgZ{st:St}{a:Act}{w:World}(h:fG dr C.P w0 S0 L N Z0 G0 n0 st a w){t:Nat}{y:O}{Y1:Hp}(f:z7 st.Y (st.σ t)=some (y,Y1)):fG dr C.P w0 S0 L N Z0 G0 n0 ⟨zI st.σ t y,Y1,st.Z⟩ a w:=by
 obtain⟨S,G,h⟩:=h;obtain⟨S',k,c,_,_⟩:=kP (dr:=dr) h.inv f (h.vR t);have d:∀b,jv st.Y G b->L b\/w0.heap.size<=b:=by rintro b ⟨id,blk,hid,rfl⟩;exact h.own id blk hid
 refine⟨S',G,k.inv,fun s=>?_,h.size,h.defers.step k,fun b e=>k.kO (dr:=dr) b (h.s0 b e),fun b e=>?_,fun id b e=>?_,h.fr,h.up,h.loc⟩
 ·show qg w S' G st.Z (zI st.σ t y s) _;by_cases hs:s=t
  ·subst hs;rw[qU];exact .c c
  ·rw[zc _ _ _ _ hs];exact(h.vR s).mono (k.same h.inv) (zk _) (fun _ _=>rfl)
 ·rcases k.from_ b e with h1|h1|h1
  ·exact h.s1 b h1
  ·exact .inr (d b h1)
  ·exact .inr (.inr (zM h.fr.size h1))
 ·rcases k.own id b e with h1|h1
  ·exact d _ h1
  ·exact .inr (zM h.fr.size h1)
theorem fG.tc{a:Act}{w:World}:∀{l:List Tmp} {st b:St},fG dr C.P w0 S0 L N Z0 G0 n0 st a w->AM.tc l st=some b->fG dr C.P w0 S0 L N Z0 G0 n0 b a w
 |[],st,b,h,e=>by
  simp only[AM.tc]at e;injection e with e
  rw[<-e];exact h
 |t::l,st,b,h,e=>by
  simp only[AM.tc]at e;split at e
  ·rename_i y Y1 c;exact fG.tc (h.zgZ c) e
  ·cases e
def KG(S:Nat->Prop)(G:Nat->GI)(Y:Hp)(b:Nat):Prop:=¬S b/\∀id blk,Y id=some blk->(G id).g≠b
theorem KG.step{P:Program}{Y Y':Hp}{Z Z':Nat}{S S':Nat->Prop}{G G':Nat->GI}{w d:World}{b:Nat}(h:KG S G Y b)(k:kd dr P Y Z S G w Y' Z' S' G' d)(f:b<w.heap.size):KG S' G' Y' b:=by
 refine⟨fun hs=>?_,fun id blk hid e=>?_⟩
 ·rcases k.from_ b hs with h1|⟨id,blk,h1,c⟩|h1
  ·exact h.1 h1
  ·exact h.2 id blk h1 c
  ·omega
 ·rcases k.own id blk hid with⟨id',a,h1,c⟩|h1
  ·exact h.2 id' a h1 (c.trans e)
  ·omega
theorem KG.same{P:Program}{Y Y':Hp}{Z Z':Nat}{S S':Nat->Prop}{G G':Nat->GI}{w a:World}{b:Nat}(h:KG S G Y b)(k:kd dr P Y Z S G w Y' Z' S' G' a)(c:b<w.heap.size):a.heap[b]?=w.heap[b]?:=
 k.fr.block b c fun⟨id,blk,d,e⟩=>h.2 id blk d e
section
variable{P:Program}{S:Nat->Prop}{G:Nat->GI}
theorem Inv.frame{w d:World}{Y:Hp}{Z:Nat}{B:Nat->Prop}(h:Inv P w S G Y Z)(e:Fr dr w B d)(f:∀b,B b->KG S G Y b):Inv P d S G Y Z:=by
 have g:∀b,S b->S b/\d.heap[b]?=w.heap[b]?:=fun b a=>⟨a,e.block b (h.st b a) fun c=>(f b c).1 a⟩
 exact⟨fun b a=>wV (h.st b a) e.size,h.top,fun id b a=>(h.live id b a).mono g (zk _) (fun _ _=>rfl) (e.block _ (h.live id b a).lt fun c=>(f _ c).2 id b a rfl),h.apart,h.inj,h.aH.mono g⟩
theorem Marks.frame{w a:World}{Y:Hp}{B:Nat->Prop}{ds:List Deferred}(h:Marks n0 w S Y G ds)(b:Fr dr w B a)(d:∀D,eU D∈ds->¬B D):Marks n0 a S Y G ds:=by obtain⟨f,g,e,i,j⟩:=h;refine⟨zM f b.size,g,e,i,fun D hd=>?_⟩;obtain⟨k,c,l⟩:=j D hd;exact⟨k,(b.block D (zU.1 c).1 (d D (by rw[e];exact List.mem_map_of_mem hd))).trans c,l⟩
theorem tV{D a:Nat}(h:eU D=eU a):D=a:=by
 unfold eU at h;injection h with h
 injection h
theorem Marks.at{w:World}{Y:Hp}{ds:List Deferred}(h:Marks n0 w S Y G ds){D:Nat}(hd:eU D∈ds):n0<=D/\w.heap[D]?=some (.deferred (some []))/\¬S D/\∀id b,Y id=some b->(G id).g≠D:=by obtain⟨f,i,rfl,j,a⟩:=h;obtain⟨c,d,e⟩:=zZ.1 hd;rw[<-tV e];exact a c d
theorem Qm.frame{st:St}{a:Act}{w e:World}{B:Nat->Prop}(h:Qm dr P w0 S0 L N Z0 G0 n0 st S G a w)(c:Fr dr w B e)(g:∀b,B b->KG S G st.Y b)(j:∀b,B b->L b\/w0.heap.size<=b)
  (k:∀D,eU D∈a.defers->¬B D):Qm dr P w0 S0 L N Z0 G0 n0 st S G a e:=by
 have l:∀b,S b->S b/\e.heap[b]?=w.heap[b]?:=fun b d=>⟨d,c.block b (h.inv.st b d) fun f=>(g b f).1 d⟩
 refine⟨h.inv.frame c g,fun t=>(h.vR t).mono l (zk _) (fun _ _=>rfl),h.size,h.defers.frame c k,h.s0,h.s1,h.own,h.fr.trans c fun b d m=>?_,h.up,h.loc⟩;rcases j b m with i|i
 ·exact i
 ·omega
theorem Qm.zat{st:St}{a:Act}{w d:World}{B:Nat->Prop}(h:Qm dr P w0 S0 L N Z0 G0 0 st S G a w)(e:Fr dr w B d)(g:∀b,B b->KG S G st.Y b)(i:∀D,eU D∈a.defers->¬B D):Qm dr P d S (jv st.Y G) N st.Z G 0 st S G a d:=by
 have j:∀b,S b->S b/\d.heap[b]?=w.heap[b]?:=fun b c=>⟨c,e.block b (h.inv.st b c) fun f=>(g b f).1 c⟩
 exact⟨h.inv.frame e g,fun t=>(h.vR t).mono j (zk _) (fun _ _=>rfl),h.size,h.defers.frame e i,fun _ h=>h,fun _ h=>.inl h,fun id b c=>.inl ⟨id,b,c,rfl⟩,Fr.refl _ _,zk _,fun _ _=>rfl⟩
theorem Qm.inner{st:St}{a:Act}{w:World}(h:Qm dr P w0 S0 L N Z0 G0 n0 st S G a w):Qm dr P w S (jv st.Y G) N st.Z G 0 st S G {a with defers:=[]} w:=
 ⟨h.inv,h.vR,h.size,.nil (jS _),fun _ h=>h,fun _ h=>.inl h,fun id b c=>.inl ⟨id,b,c,rfl⟩,Fr.refl _ _,zk _,fun _ _=>rfl⟩
theorem Qm.stp{Y:Hp}{Z:Nat}{S':Nat->Prop}{G':Nat->GI}{st:St}{a:Act}{w b:World}(h:Qm dr P w S (jv Y G) N Z G n0 st S' G' a b):kd dr P Y Z S G w st.Y st.Z S' G' b:=⟨h.inv,h.up,h.loc,h.s0,h.s1,h.own,h.fr⟩
end
def tW(dr:Prop)(P:Program)(g:FuncId)(it:ZV):Prop:=
 (∃fn,P.funcs[g]?=some fn/\(fn.name== "runtime.NumGoroutine")=false/\fn.body.isNone=false) /\
 ∀cap Y Z xs Y1,it cap Y=some (xs,Y1)->∃us:List Value,xs=us.map O.v/\(∀u∈us,lit u=true)/\(∀id b,Y1 id=some b->Y id=some b) /\
  ∀(w:World) (S:Nat->Prop) (G:Nat->GI) (vs:List Value),Inv P w S G Y Z->Zip (qg w S G Z) cap vs ->
   ∃B:Nat->Prop,(∀b,B b->jv Y G b/\KG S G Y1 b) /\
    ∀(n l:Nat) (J c:List Value->World->Prop),
     (∀pre W a,J pre W->Fr dr W B a->J pre a)->(∀pre W a,c pre W->Fr dr W B a->c pre a)->(∀pre W,J pre W->F6 P W fun b=>b<W.heap.size) ->
     (∀pre x W,J pre W->us[pre.length]?=some x->YieldAt Fence.wide n P l #[x] W fun e a=>(e=.returned (.bool true)/\J (pre++[x]) a/\(∀b,B b->a.heap[b]?=W.heap[b]?)/\W.heap.size<=a.heap.size)\/(e=.returned (.bool false)/\c (pre++[x]) a)) ->
     ∀W,J [] W->(∀b,B b->W.heap[b]?=w.heap[b]?)->w.heap.size<=W.heap.size ->
      CallsIn Fence.wide (n+1) P g (#[.func (.yield l) #[] #[]]++vs.toArray) W fun e a=>(∃v,e=.returned v)/\(J us a\/∃pre,c pre a)
abbrev GH:=tW True
theorem RL{w:World}{S:Nat->Prop}{G:Nat->GI}{Z:Nat}{u:Value}(h:lit u=true):qg w S G Z (.v u) u:=.c (.v h)
theorem CI{w:World}{l:Nat}(o:Obj)(B:Nat->Prop)(a:B l):Fr dr w B (w.putObj l o):=
 ⟨rfl,rfl,rfl,by simp,fun _=>zk _,fun k _ b=>zgW fun e=>b (e ▸ a)⟩
theorem gX(hΓ:∀g spec,C.Γ g=some spec->jl dr C.P g spec)(hpf:∀g spec,pf g=true->C.Γ g=some spec->Qt spec)(hbk:∀g spec,C.bk g=true->C.Γ g=some spec->QP spec)(hit:∀g it,C.it g=some it->tW dr C.P g it)(hm:C.P.follows .mixedOrders=true) :
  ∀(c:Code),vj pf C.dyn C.I5 C.bk N c=true->∀(F:Fence) (n:Nat),BP F->(F=Fence.wide\/jI c=true)->∀(w0:World) (S0 L:Nat->Prop) (Z0:Nat) (G0:Nat->GI) (n0:Nat) (st st':St) (e:Exit) (a:Act) (w:World) (Q:Exit->Act->World->Prop),n0<=w0.heap.size->qX C c st=some (e,st')->fG dr C.P w0 S0 L N Z0 G0 n0 st a w ->
   (∀a' w',fG dr C.P w0 S0 L N Z0 G0 n0 st' a' w'->Q e a' w')->c.wpIn F n C.P Q a w:=by
 intro c
 induction c with
 |skip=>
  intro _ F n hF _ w0 S0 L Z0 G0 n0 st st' e a w Q _ h hs hQ;simp only[qX]at h;injection h with h
  injection h with e1 e2;subst e1;subst e2;exact wpIn_skip (hQ a w hs)
 |region id ops draw=>
  intro hok F n hF _ w0 S0 L Z0 G0 n0 st st' e a w Q _ h hs hQ;simp only[vj,zn,qW,Ql]at hok;obtain⟨hN0,hdraw⟩:=hok;have hN:∀(i:Nat) (o:Oper),ops[i]?=some o->∀d,o.dst=some d->d<N:=by intro i o ho d hd;have:=WH.1 hN0 o (Yo ho);simpa[hd]using this
  simp only[qX]at h;split at h
  case h_2=>cases h
  rename_i st1 hth;have hs:=hs.tc hth;clear hth;generalize st1=st at h hs;split at h
  case isFalse=>cases h
  rename_i hA;split at h
  ·rename_i s hs1;injection h with h
   injection h with e1 e2;subst e1;subst e2;cases draw with
   |false=>exact wpIn_region (WI hΓ hN hF _ st s a w (by rw[Xv];exact hs1) hs hQ)
   |true=>
    have hd:gI (EP pf (C.dyn id) (C.I5 id) C.bk ops) ops=true/\ri pf (C.dyn id) (C.I5 id) C.bk ops=true:=by simpa using hdraw
    refine wpIn_region_draw fun t=>?_
    simp only[Region.schedule,hm,Bool.true_or,qh];exact WI hΓ hN hF _ st s a _ (RJ (LD hpf hbk hd.2) hd.1 _ _ _ ⟨hA,fun _=>hs.top⟩ hs1) hs.drew hQ
  ·cases h
 |seq x y ihx ihy=>
  intro hok F n hF hno w0 S0 L Z0 G0 n0 st st' e a w Q hn0 h hs hQ;simp only[vj,zn]at hok;have hnx:F=Fence.wide\/jI x=true:=hno.imp (fun h=>h) fun h=>by simp only[jI,zn]at h;exact h.1
  have hny:F=Fence.wide\/jI y=true:=hno.imp (fun h=>h) fun h=>by simp only[jI,zn]at h;exact h.2
  simp only[qX]at h;split at h
  ·rename_i s hx;exact wpIn_seq (ihx hok.1 F n hF hnx w0 S0 L Z0 G0 n0 st s .normal a w _ hn0 hx hs fun a' w' hs'=>ihy hok.2 F n hF hny w0 S0 L Z0 G0 n0 s st' e a' w' Q hn0 h hs' hQ)
  ·rename_i r hr;refine wpIn_seq (ihx hok.1 F n hF hnx w0 S0 L Z0 G0 n0 st st' e a w _ hn0 h hs fun a' w' hs'=>?_);have:=hQ a' w' hs';cases e<;>first
    |exact this
    |exact(hr _ h).elim
 |cond c x y ihx ihy=>
  intro hok F n hF hno w0 S0 L Z0 G0 n0 st st' e a w Q hn0 h hs hQ;simp only[vj,zn]at hok;have hnx:F=Fence.wide\/jI x=true:=hno.imp (fun h=>h) fun h=>by simp only[jI,zn]at h;exact h.1
  have hny:F=Fence.wide\/jI y=true:=hno.imp (fun h=>h) fun h=>by simp only[jI,zn]at h;exact h.2
  simp only[qX]at h;obtain⟨S,G,hS⟩:=hs;split at h
  ·rename_i hc;obtain⟨hv,_⟩:=(Yp hS.vR hc).wZ;exact wpIn_cond_true hv (ihx hok.1 F n hF hnx w0 S0 L Z0 G0 n0 st st' e a w Q hn0 h ⟨S,G,hS⟩ hQ)
  ·rename_i hc;obtain⟨hv,_⟩:=(Yp hS.vR hc).wZ;exact wpIn_cond_false hv (ihy hok.2 F n hF hny w0 S0 L Z0 G0 n0 st st' e a w Q hn0 h ⟨S,G,hS⟩ hQ)
  ·cases h
 |block id b ih=>
  intro hok F n hF hno w0 S0 L Z0 G0 n0 st st' e a w Q hn0 h hs hQ;simp only[vj]at hok;have hnb:F=Fence.wide\/jI b=true:=hno.imp (fun h=>h) fun h=>by simp only[jI]at h;exact h
  simp only[qX]at h;split at h
  ·rename_i i s hb;refine wpIn_block (ih hok F n hF hnb w0 S0 L Z0 G0 n0 st s (.exit i) a w _ hn0 hb hs fun a' w' hs'=>?_);unfold Exit.inBlock;split at h
   ·rename_i hi;injection h with h
    injection h with e1 e2;subst e1;subst e2;simp[hi,hQ a' w' hs']
   ·rename_i hi;injection h with h
    injection h with e1 e2;subst e1;subst e2;simp[hi,hQ a' w' hs']
  ·rename_i r hr;refine wpIn_block (ih hok F n hF hnb w0 S0 L Z0 G0 n0 st st' e a w _ hn0 h hs fun a' w' hs'=>?_);have:=hQ a' w' hs';cases e<;>first
    |exact this
    |exact(hr _ _ h).elim
 |loop b ih=>
  intro hok F n hF hno w0 S0 L Z0 G0 n0 st st' e a w Q hn0 h hs hQ;simp only[vj]at hok;have hnb:F=Fence.wide\/jI b=true:=hno.imp (fun h=>h) fun h=>by simp only[jI]at h;exact h
  simp only[qX]at h;obtain⟨m,hm'⟩:=QM h;refine wpIn_loop_rounds m ?_;clear h
  induction m generalizing st a w with
  |zero=>simp[iter]at hm'
  |succ m ihn=>
   rw[roundsIn_succ];simp only[iter]at hm';split at hm'
   ·rename_i s hb;exact ih hok F n hF hnb w0 S0 L Z0 G0 n0 st s .normal a w _ hn0 hb hs fun a' w' hs'=>ihn s a' w' hs' hm'
   ·rename_i r hr;refine ih hok F n hF hnb w0 S0 L Z0 G0 n0 st st' e a w _ hn0 hm' hs fun a' w' hs'=>?_
    have:=hQ a' w' hs';cases e<;>first
     |exact this
     |exact(hr _ hm').elim
 |rangeFunc f ps x y ihx ihy=>
  intro hok F n hF hno w0 S0 L Z0 G0 n0 st st' e a w Q hn0 h hs hQ;obtain rfl:F=Fence.wide:=hno.resolve_right (by simp[jI]);simp only[vj,zn]at hok;obtain⟨⟨⟨⟨hps,hnx⟩,hny⟩,hox⟩,hoy⟩:=hok;simp only[qX]at h;split at h
  case h_2=>cases h
  rename_i p g cap hpl hfg;split at h
  case h_2=>cases h
  rename_i it hIt;split at h
  case h_2=>cases h
  rename_i xs Y1 hx;split at h
  case h_2=>cases h
  rename_i e0 Y2 Xm hro;injection h with h
  injection h with e1 e2;subst e1;subst e2;obtain⟨S,G,hS⟩:=hs;obtain⟨⟨gfn,gf1,gf2,gf3⟩,hitS⟩:=hit g it hIt;obtain⟨us,rfl,hlit,hsub,hrun⟩:=hitS cap st.Y st.Z _ Y1 hx;obtain⟨aZ,vs,ev,l1,l2,r1,r2⟩:=(Yp hS.vR hfg).td;obtain rfl:aZ=#[]:=by simpa using l1.symm
  obtain⟨B,hB,hcalls⟩:=hrun w S G vs.toList hS.inv ⟨by simpa using l2,fun j pv u hj hu=>r2 j pv u hj (by simpa using hu)⟩;have hBlt:∀b,B b->b<w.heap.size:=fun b hb=>by obtain⟨id,blk,h1,rfl⟩:=(hB b hb).1;exact(hS.inv.live id blk h1).lt
  have hpN:p<N:=by have:=WH.1 hps p (by rw[<-Array.mem_toList_iff,hpl];simp);simpa using this
  have hps1:ps=#[p]:=by apply PQ.1;rw[hpl]
  subst hps1;refine wpIn_rangeFunc fun fn hfn=>?_
  obtain⟨rec,hrec⟩:∃rec:LoopState->Option Code->Loop,rec=fun s pe=>{state:=s,pending:=pe,fn,tmps:=a.tmps,params:=#[p],assign:=x,body:=y,defers:=w.heap.size}:=⟨_,rfl⟩
  obtain⟨W1,hW1⟩:=yb ((w.alloc (.deferred (some []))).alloc (.loop (rec .ready none)));have hL1:W1.heap[w.heap.size+1]?=some (.loop (rec .ready none)):=by rw[<-hW1];have:=World.alloc_heap_new (w.alloc (.deferred (some []))) (.loop (rec .ready none));rwa [World.size_alloc]at this
  have hK1:W1.heap[w.heap.size]?=some (.deferred (some [])):=by rw[<-hW1];exact(Below.heap_alloc _ _ _ (by simp)).trans (World.alloc_heap_new w _)
  have hsz1:W1.heap.size=w.heap.size+2:=by rw[<-hW1];simp
  have hold1:∀b,b<w.heap.size->W1.heap[b]?=w.heap[b]?:=fun b hb=>by rw[<-hW1];exact(Below.heap_alloc _ _ _ (by simp;omega)).trans (Below.heap_alloc w _ b hb)
  have fr1:Fr dr w (fun _=>False) W1:=⟨by rw[<-hW1];rfl,by rw[<-hW1];rfl,by rw[<-hW1];rfl,by omega,fun _=>by rw[<-hW1];exact zk _,fun k hk _=>hold1 k hk⟩;obtain⟨l,hl⟩:∃l,l=w.heap.size+1:=⟨_,rfl⟩;obtain⟨a1,ha1⟩:∃a1:Act,a1={a with defers:=eU w.heap.size::a.defers}:=⟨_,rfl⟩;have hfreshAway:∀b,w.heap.size<=b->KG S G Y1 b:=fun b hb=>⟨fun hs=>by have:=hS.inv.st b hs;omega,fun id blk hid he=>by have:=(hS.inv.live id blk (hsub id blk hid)).lt;omega⟩
  have hk0:Inv C.P W1 S G Y1 st.Z:=by have h1:Inv C.P w S G Y1 st.Z:=⟨hS.inv.st,fun id b hb=>hS.inv.top id b (hsub id b hb),fun id b hb=>hS.inv.live id b (hsub id b hb),fun id b hb=>hS.inv.apart id b (hsub id b hb),fun id id' b b' hb hb' he=>hS.inv.inj id id' b b' (hsub id b hb) (hsub id' b' hb') he,hS.inv.aH⟩;exact h1.frame fr1 (fun _ h=>h.elim)
  have hsim1:Qm dr C.P w0 S0 L N Z0 G0 n0 ⟨st.σ,Y1,st.Z⟩ S G a1 W1:=by
   subst ha1;obtain⟨hd0,Ds,hd1,hd2,hd3⟩:=hS.defers;refine⟨hk0,fun t=>(hS.vR t).mono (fun b hb=>⟨hb,hold1 b (hS.inv.st b hb)⟩) (zk _) (fun _ _=>rfl),hS.size,⟨by omega,w.heap.size::Ds,by simp[hd1],?_,?_⟩,hS.s0,hS.s1,fun id b hb=>hS.own id b (hsub id b hb),hS.fr.trans fr1 (fun _ _ h=>h.elim),hS.up,hS.loc⟩
   ·refine zbu.2 ⟨fun hm=>?_,hd2⟩;have:=(zU.1 (hd3 _ hm).2.1).1;omega
   ·intro D hD;rcases zx.1 hD with rfl|hD
    ·exact⟨hd0,hK1,(hfreshAway _ (zk _))⟩
    ·obtain⟨g1,g2,g4,g3⟩:=hd3 D hD;exact⟨g1,(hold1 D (zU.1 g2).1).trans g2,g4,fun id b hb=>g3 id b (hsub id b hb)⟩
  have hsmall:w0.heap.size<=w.heap.size:=hS.fr.size;have hBL:∀b,B b->L b\/w0.heap.size<=b:=fun b hb=>by obtain⟨id,blk,h1,rfl⟩:=(hB b hb).1;exact hS.own id blk h1
  have hmk:∀D,eU D∈a1.defers->¬B D/\¬D=l:=by
   intro D hD;subst ha1;rcases zx.1 hD with h1|h1
   ·obtain rfl:=tV h1;exact⟨fun hb=>by have:=hBlt _ hb;omega,by omega⟩
   ·obtain⟨g1,g2,_,g3⟩:=hS.defers.at h1;have:=(zU.1 g2).1;refine⟨fun hb=>?_,by omega⟩;obtain⟨id,blk,h2,h3⟩:=(hB D hb).1;exact g3 id blk h2 h3
  have hlB:¬B l:=fun hb=>by have:=hBlt l hb;omega
  obtain⟨Good,hGood⟩:∃Good:Hp->Nat->(Nat->Prop)->(Nat->GI)->LoopState->Option Code->World->Prop,Good=fun Y Z S G s pe W=>
    Qm dr C.P w0 S0 L N Z0 G0 n0 ⟨st.σ,Y,Z⟩ S G a1 W/\(∀b,B b->KG S G Y b)/\KG S G Y l/\W.heap[l]?=some (.loop (rec s pe))/\w.heap.size<=W.heap.size:=⟨_,rfl⟩
  have good_frame:∀{Y Z S G s pe W W'},Good Y Z S G s pe W->Fr dr W B W'->Good Y Z S G s pe W':=by intro Y Z S G s pe W W' hg fr;subst hGood;obtain⟨g1,g2,g3,g4,g5⟩:=hg;exact⟨g1.frame fr g2 hBL (fun D hD=>(hmk D hD).1),g2,g3,(fr.block l (zU.1 g4).1 hlB).trans g4,zM g5 fr.size⟩
  have good_put:∀{Y Z S G s pe W} (s':LoopState) (pe':Option Code),Good Y Z S G s pe W->Good Y Z S G s' pe' (W.putObj l (.loop (rec s' pe'))):=by intro Y Z S G s pe W s' pe' hg;subst hGood;obtain⟨g1,g2,g3,g4,g5⟩:=hg;refine⟨g1.frame (CI _ (fun b=>b=l) rfl) (fun b hb=>hb ▸ g3) (fun b hb=>.inr (by omega)) (fun D hD=>(hmk D hD).2),g2,g3,World.putObj_heap_same (zU.1 g4).1,by simpa using g5⟩
  have VK:∀{Y Z S G s pe W Y' Z' S' G' W'},Good Y Z S G s pe W->kd dr C.P Y Z S G W Y' Z' S' G' W'->Good Y' Z' S' G' s pe W'/\∀b,B b->W'.heap[b]?=W.heap[b]?:=by intro Y Z S G s pe W Y' Z' S' G' W' hg k;subst hGood;obtain⟨g1,g2,g3,g4,g5⟩:=hg;have hll:=(zU.1 g4).1;refine⟨⟨g1.step (dst:=none) k kA (fun _ h=>by cases h),fun b hb=>(g2 b hb).step k (wV (hBlt b hb) g5),g3.step k hll,(g3.same k hll).trans g4,zM g5 k.fr.size⟩,fun b hb=>(g2 b hb).same k (wV (hBlt b hb) g5)⟩
  obtain⟨J,hJ⟩:∃J:List Value->World->Prop,J=fun pre W=>∃Y Z S G,Good Y Z S G .ready none W/\Jz (qX C x) (qX C y) st.σ p ((us.drop pre.length).map O.v) Y Z=some (e0,Y2,Xm):=⟨_,rfl⟩
  obtain⟨Jx,hJx⟩:∃Jx:List Value->World->Prop,Jx=fun _ W=>∃c S G,Good Y2 Xm S G .done (some c) W/\(c=.ret/\e0=.ret\/∃i,c=.exit i/\e0=.exit i):=⟨_,rfl⟩
  have hJ0:J [] W1:=by subst hJ;refine⟨Y1,st.Z,S,G,?_,hro⟩;subst hGood;exact⟨hsim1,fun b hb=>(hB b hb).2,hfreshAway l (by omega),by rw[hl];exact hL1,by omega⟩
  have gf2':¬gfn.name= "runtime.NumGoroutine":=by simpa using gf2
  have gf3':¬gfn.body=none:=by intro h;simp[h]at gf3
  refine⟨l,[eU w.heap.size],W1,{target:=.fn (.func g) vs,args:=#[.func (.yield l) #[] #[]]},W1,g,#[.func (.yield l) #[] #[]]++vs,W1,?_,?_,?_,?_,(fun h=>by simp[Fence.wide]at h),?_⟩
  ·rw[hl,<-hW1,hrec];exact run_enterLoop_outer _ _ _ _ _
  ·simp only[resolve,ev];simp[go_sem]
  ·intro f' _;trivial
  ·simp[invoke,callFunc,gf1,gf2',gf3']
  ·have hround:∀pre u W,J pre W->us[pre.length]?=some u->YieldAt Fence.wide 0 C.P l #[u] W fun e W'=>(e=.returned (.bool true)/\J (pre++[u]) W'/\(∀b,B b->W'.heap[b]?=W.heap[b]?)/\W.heap.size<=W'.heap.size)\/(e=.returned (.bool false)/\Jx (pre++[u]) W'):=by
    intro pre u W hj hu;subst hJ;obtain⟨Y,Z,S1,G1,hg,hr⟩:=hj;obtain⟨hlt,hue⟩:=zd.1 hu;rw[zg hlt,hue]at hr;simp only[zG,Jz]at hr;split at hr
    case h_2=>cases hr
    rename_i s1 hfx;have hg1:=hg;rw[hGood]at hg1;obtain⟨g1,g2,g3,g4,g5⟩:=hg1;have hy:=run_yield (P:=C.P) (args:=#[u]) g4 (by rw[hrec];rfl);rw[hrec]at hy;refine⟨fn,_,x,y,hy,roundIn_of_wpIn (F:=Fence.wide) trivial ?_⟩;have hin:=(g1.step (dst:=some p) (u:=u) (.refl g1.inv) (RL (hlit u (zE hu))) (fun d hd=>by cases hd;exact hpN)).inner;have htm:(#[p].zip #[u]).foldl (fun tmps (t,a)=>tmps.setIfInBounds t a) a.tmps=a.tmps.setIfInBounds p u:=by simp
    rw[ha1]at hin;rw[htm];refine ihx hox (Fence.wide.inRound l) 0 (.inr ⟨l,rfl⟩) (.inr hnx) W S1 (jv Y G1) Z G1 0 _ s1 .normal _ W _ (jS _) hfx ⟨S1,G1,hin⟩ fun a2 w2 hs2=>?_
    obtain⟨S2,G2,h2⟩:=hs2;obtain⟨hg2,hb2⟩:=VK hg h2.stp;have hl2:w2.heap[l]?=some (.loop (rec .ready none)):=by rw[hGood]at hg2;exact hg2.2.2.2.1
    have hbr:=run_beginRound (P:=C.P) hl2 (by rw[hrec]);have hrb:({rec .ready none with state:=.busy}:Loop)=rec .busy none:=by rw[hrec]
    rw[hrb]at hbr;refine⟨_,hbr,?_⟩;have hg3:=good_put .busy none hg2;have hal2:KG S2 G2 s1.Y l:=by rw[hGood]at hg2;exact hg2.2.2.1
    have h3:=h2.zat (CI (.loop (rec .busy none)) (fun b=>b=l) rfl) (fun b hb=>hb ▸ hal2) (fun D hD e=>by have:=(h2.defers.at hD).2.1;rw[e,hl2]at this;cases this)
    cases hfy:qX C y s1 with
    |none=>rw[hfy]at hr;cases hr
    |some r2=>
     obtain⟨e2,s2⟩:=r2;rw[hfy]at hr;refine ihy hoy (Fence.wide.inRound l) 0 (.inr ⟨l,rfl⟩) (.inr hny) _ S2 (jv s1.Y G2) s1.Z G2 0 s1 s2 e2 a2 _ _ (jS _) hfy ⟨S2,G2,h3⟩ fun a4 w4 hs4=>?_
     obtain⟨S4,G4,h4⟩:=hs4;obtain⟨hg4,hb4⟩:=VK hg3 h4.stp;have hl4:w4.heap[l]?=some (.loop (rec .busy none)):=by rw[hGood]at hg4;exact hg4.2.2.2.1
     have hbb:∀b,B b->w4.heap[b]?=W.heap[b]?:=fun b hb=>(hb4 b hb).trans ((zgW (k:=b) (r:=l) (fun e=>hlB (by rw[<-e];exact hb))).trans (hb2 b hb))
     have hsz:W.heap.size<=w4.heap.size:=by have q1:=h2.fr.size;have q2:=h4.fr.size;rw[World.putObj_size]at q2;exact zM q1 q2
     cases e2 with
     |normal=>
      have he:=run_endRound (P:=C.P) none hl4;have hrr:({rec .busy none with state:=if(none:Option Code).isNone then .ready else .done,pending:=none}:Loop)=rec .ready none:=by rw[hrec];rfl
      rw[hrr]at he;refine⟨_,_,he,.inl ⟨rfl,⟨s2.Y,s2.Z,S4,G4,good_put .ready none hg4,by simpa using hr⟩,fun b hb=>(zgW (k:=b) (r:=l) (fun e=>hlB (by rw[<-e];exact hb))).trans (hbb b hb),by simpa using hsz⟩⟩
     |ret=>
      have he:=run_endRound (P:=C.P) (some .ret) hl4;have hrr:({rec .busy none with state:=if(some Code.ret:Option Code).isNone then .ready else .done,pending:=some .ret}:Loop)=rec .done (some .ret):=by rw[hrec];rfl
      rw[hrr]at he;simp only at hr;injection hr with hr
      injection hr with r1 hr;injection hr with r2 r3;subst r1;subst r2;subst r3;refine⟨_,_,he,.inr ⟨rfl,?_⟩⟩;rw[hJx];exact⟨.ret,S4,G4,good_put .done (some .ret) hg4,.inl ⟨rfl,rfl⟩⟩
     |exit i=>
      have he:=run_endRound (P:=C.P) (some (.exit i)) hl4;have hrr:({rec .busy none with state:=if(some (Code.exit i):Option Code).isNone then .ready else .done,pending:=some (.exit i)}:Loop)=rec .done (some (.exit i)):=by rw[hrec];rfl
      rw[hrr]at he;simp only at hr;injection hr with hr
      injection hr with r1 hr;injection hr with r2 r3;subst r1;subst r2;subst r3;refine⟨_,_,he,.inr ⟨rfl,?_⟩⟩;rw[hJx];exact⟨.exit i,S4,G4,good_put .done (some (.exit i)) hg4,.inr ⟨i,rfl,rfl⟩⟩
     |_=>cases hr
   have hcl:=hcalls 0 l J Jx (fun pre W W' hj fr=>by
     subst hJ;obtain⟨Y,Z,S1,G1,hg,hr⟩:=hj;exact⟨Y,Z,S1,G1,good_frame hg fr,hr⟩) (fun pre W W' hj fr=>by
     subst hJx;obtain⟨c,S1,G1,hg,hr⟩:=hj;exact⟨c,S1,G1,good_frame hg fr,hr⟩) (fun pre W hj=>by
     subst hJ;obtain⟨Y,Z,S1,G1,hg,hr⟩:=hj;rw[hGood]at hg;exact hg.1.inv.aH.mono fun b hb=>⟨hg.1.inv.st b hb,rfl⟩) hround W1 hJ0 (fun b hb=>hold1 b (hBlt b hb)) (by omega)
   refine Xl.2 ((Xl.1 hcl).mono ?_);rintro e W2 ⟨⟨v,rfl⟩,hj|⟨pre,hj⟩⟩
   ·rw[hJ]at hj;obtain⟨Y,Z,S1,G1,hg,hr⟩:=hj;rw[zp]at hr;simp only[ji,Jz]at hr;injection hr with hr
    injection hr with r1 hr;injection hr with r2 r3;subst r1;subst r2;subst r3;have hl2:W2.heap[l]?=some (.loop (rec .ready none)):=by rw[hGood]at hg;exact hg.2.2.2.1
    have he:=run_endLoop (P:=C.P) hl2 (by rw[hrec];simp);have hrr:({rec .ready none with state:=.exhausted}:Loop)=rec .exhausted none:=by rw[hrec]
    have hrp:(rec .ready none).pending=none:=by rw[hrec]
    rw[hrr,hrp]at he;have hg':=good_put .exhausted none hg;rw[hGood]at hg';have hq:=hQ a1 _ ⟨S1,G1,hg'.1⟩;rw[ha1]at hq;exact⟨none,_,he,hq⟩
   ·rw[hJx]at hj;obtain⟨c,S1,G1,hg,hc⟩:=hj;have hl2:W2.heap[l]?=some (.loop (rec .done (some c))):=by rw[hGood]at hg;exact hg.2.2.2.1
    have he:=run_endLoop (P:=C.P) hl2 (by rw[hrec];simp);have hrr:({rec .done (some c)with state:=.exhausted}:Loop)=rec .exhausted (some c):=by rw[hrec]
    have hrp:(rec .done (some c)).pending=some c:=by rw[hrec]
    rw[hrr,hrp]at he;have hg':=good_put .exhausted (some c) hg;rw[hGood]at hg';have hq:=hQ a1 _ ⟨S1,G1,hg'.1⟩;rw[ha1]at hq;refine⟨some c,_,he,?_⟩;rcases hc with⟨rfl,rfl⟩|⟨i,rfl,rfl⟩
    ·exact wpIn_ret hq
    ·exact wpIn_exit hq
 |exit id=>
  intro _ F n hF _ w0 S0 L Z0 G0 n0 st st' e a w Q _ h hs hQ;simp only[qX]at h;injection h with h
  injection h with e1 e2;subst e1;subst e2;exact wpIn_exit (hQ a w hs)
 |scope b _=>intro _ F n hF _ w0 S0 L Z0 G0 n0 st st' e a w Q _ h;simp[qX]at h
 |label l=>
  intro _ F n hF _ w0 S0 L Z0 G0 n0 st st' e a w Q _ h hs hQ;simp only[qX]at h;injection h with h
  injection h with e1 e2;subst e1;subst e2;exact wpIn_label (hQ a w hs)
 |goto l=>intro _ F n hF _ w0 S0 L Z0 G0 n0 st st' e a w Q _ h;simp[qX]at h
 |ret=>
  intro _ F n hF _ w0 S0 L Z0 G0 n0 st st' e a w Q _ h hs hQ;simp only[qX]at h;injection h with h
  injection h with e1 e2;subst e1;subst e2;exact wpIn_ret (hQ a w hs)
 |refuse why=>intro _ F n hF _ w0 S0 L Z0 G0 n0 st st' e a w Q _ h;simp[qX]at h
end
end Go.AM
