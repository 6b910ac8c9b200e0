/- Lemmas. -/
import Derived.Orders
import Derived.LoopNIn
import Derived.RangeFuncRecord
import Derived.RangeFuncSeq
import Derived.Test.YtmdpcoooleipcaaGreatDoorG2
set_option maxRecDepth 8000
open Go Proofs Proofs.YtmdpcoooleipcaaGreatDoor Proofs.Tryz RowKit AM SpanLaw Q Zz
namespace Go.AM
def kJ(pf:FuncId->Bool):Op->Nat
 | .move _|.assign _|.pick ..|.build ..|.binOp ..|.unOp ..|.convert ..|.makeFunc ..|.fieldAddr ..|.field ..|.index ..|.extract ..|.nilCheck _=>0
 | .load ..|.indexAddr ..|.slice ..=>1
 | .call c=>match c.callee with
  | .builtin .len|.builtin .min|.builtin .max=>0
  | .value (.func g)=>if pf g then 1 else 2
  |_=>2
 |_=>2
def xu(a:AM.Spec):Prop:=∀args Y Z r Y' Z',a args Y Z=some (r,Y',Z')->(Y'=Y/\Z'=Z)/\∀b,Y Z=none->a args (qb Y Z b) (Z+1)=some (r,qb Y Z b,Z+1)
section
variable{C:Ctx}{pf:FuncId->Bool}
theorem Wm{α:Type}{o:Option O}{Y Y':α}{Z Z':Nat}{x:O}(h:(o.map fun y=>(y,Y,Z))=some (x,Y',Z')):o=some x/\Y'=Y/\Z'=Z:=by obtain⟨y,b,a⟩:=zD h;injection a with c a;injection a with d e;subst c;subst d;subst e;exact⟨b,rfl,rfl⟩
theorem Bi(i:∀g a,pf g=true->C.Γ g=some a->xu a){op:Op}(e:kJ pf op<=1){X:Nat->O}{Y Y':Hp}{Z Z':Nat}{x:O}(h:zF C (get X) Y Z op=some (x,Y',Z')):Y'=Y/\Z'=Z:=by
 have d:∀{y:O},some (y,Y,Z)=some (x,Y',Z')->Y'=Y/\Z'=Z:=by
  intro y h;injection h with h
  injection h with _ h;injection h with n o;exact⟨n.symm,o.symm⟩
 cases op<;>simp only[kJ]at e<;>(try omega)<;>simp only[zF]at h
 case move=>exact(Wm h).2
 case assign=>exact(Wm h).2
 case pick=>split at h<;>first|exact(Wm h).2|cases h
 case build=>split at h<;>first|exact(Wm h).2|cases h
 case load=>split at h<;>first|exact(Wm h).2|cases h
 case nilCheck=>split at h<;>first|exact d h|cases h
 case binOp=>split at h<;>first|exact(Wm h).2|cases h
 case unOp=>split at h<;>first|exact(Wm h).2|cases h
 case convert=>split at h<;>first|exact(Wm h).2|cases h
 case makeFunc=>split at h<;>first|exact d h|cases h
 case slice t x s u p=>cases p<;>simp only at h<;>first|(split at h<;>first|exact(Wm h).2|cases h)|cases h
 case fieldAddr=>split at h<;>first|exact(Wm h).2|cases h
 case field=>split at h<;>first|exact(Wm h).2|cases h
 case indexAddr=>split at h<;>first|exact(Wm h).2|cases h
 case index=>split at h<;>first|exact(Wm h).2|cases h
 case extract=>split at h<;>first|exact(Wm h).2|cases h
 case call c=>
  unfold kH at h;split at h
  ·rename_i xs _;cases j:c.callee with
   |invoke r m=>rw[j]at h;cases h
   |builtin b=>
    rw[j]at e h;cases b<;>simp at e<;>simp only[wF]at h
    ·split at h<;>first|exact(Wm h).2|cases h
    ·exact(Wm h).2
    ·exact(Wm h).2
   |value f=>
    rw[j]at e h;cases f<;>simp at e;rename_i k;simp only[yF,get]at h;split at h
    ·rename_i a q;exact(i k a (by by_cases l:pf k=true;exact l;simp[l]at e) q _ _ _ _ _ _ h).1
    ·cases h
  ·cases h
theorem tG{op:Op}(d:kJ pf op=0){e:Operand->Option O}(Y Y2:Hp)(Z g:Nat):zF C e Y2 g op=(zF C e Y Z op).map fun r=>(r.1,Y2,g):=by
 cases op<;>simp only[kJ]at d<;>(try (exact absurd d (by omega)))<;>simp only[zF]
 case move x=>cases e x<;>rfl
 case assign x=>cases e x<;>rfl
 case pick c a b=>split<;>simp[jc,yx]
 case build t i=>split<;>simp[jc,yx]
 case nilCheck x=>split<;>rfl
 case binOp=>split<;>simp[jc,yx]
 case unOp=>split<;>simp[jc,yx]
 case convert=>split<;>simp[jc,yx]
 case makeFunc=>split<;>rfl
 case fieldAddr=>split<;>simp[jc,yx]
 case field=>split<;>simp[jc,yx]
 case index=>split<;>simp[jc,yx]
 case extract=>split<;>simp[jc,yx]
 case call c=>
  unfold kH;cases wz (c.args.toList.map e)with
  |none=>rfl
  |some xs=>
   simp only;cases h:c.callee with
   |value f=>rw[h]at d;cases f<;>simp at d;split at d<;>omega
   |invoke r m=>rfl
   |builtin b=>
    rw[h]at d;cases b<;>simp at d<;>simp only[wF]
    ·split<;>simp[jc,yx]
    ·simp[jc,yx]
    ·simp[jc,yx]
theorem Lb{op:Op}(c:kJ pf op=0){b:Operand->Option O}{Y Y':Hp}{Z Z':Nat}{x:O}(h:zF C b Y Z op=some (x,Y',Z'))(Y2:Hp)(a:Nat):zF C b Y2 a op=some (x,Y2,a):=by rw[tG c Y Y2 Z a,h];rfl
theorem Wn{b a:Operand->Option O}:∀{l:List (Nat×Operand)},(∀p∈l,b p.2=a p.2)->jG b l=jG a l
 |[],_=>rfl
 |(i,x)::l,h=>by simp only[jG];rw[h (i,x) (by simp),Wn (l:=l) fun p Y=>h p (by simp[Y])]
theorem gu{o e:Operand->Option O}{op:Op}{Y:Hp}{Z:Nat}(h:∀x∈op.operands.toList,o x=e x):zF C o Y Z op=zF C e Y Z op:=by
 cases op<;>simp only[Op.operands]at h<;>simp only[zF]
 case move x=>rw[h x (by simp)]
 case assign x=>rw[h x (by simp)]
 case pick c a b=>rw[h c (by simp),h a (by simp),h b (by simp)]
 case box t x=>rw[h x (by simp)]
 case build t q=>rw[Wn (l:=q.toList) fun p Y=>h p.2 (by simp only[zZ];exact⟨p,Y,rfl⟩)]
 case buildSlice t n q=>rw[Wn (l:=q.toList) fun p Y=>h p.2 (by simp only[zZ];exact⟨p,Y,rfl⟩)]
 case load t x=>rw[h x (by simp)]
 case store t a x=>rw[h a (by simp),h x (by simp)]
 case nilCheck x=>rw[h x (by simp)]
 case binOp op t x y E=>rw[h x (by simp),h y (by simp)]
 case unOp op t x=>rw[h x (by simp)]
 case convert s d x=>rw[h x (by simp)]
 case makeFunc f a b=>rw[zay (g:=e) fun x j=>h x (by simp at j⊢;exact .inl j),zay (l:=b.toList) (g:=e) fun x j=>h x (by simp at j⊢;exact .inr j)]
 case makeSlice t l c=>rw[h l (by simp),h c (by simp)]
 case slice t x u v A=>
  cases A with
  |some m=>rfl
  |none=>
   simp only;rw[h x (by simp)];have w:u.map o=u.map e:=by cases u with
    |none=>rfl
    |some y=>simp only[zO];rw[h y (by simp)]
   have z:v.map o=v.map e:=by cases v with
    |none=>rfl
    |some y=>simp only[zO];rw[h y (by simp)]
   rw[w,z]
 case fieldAddr t x f=>rw[h x (by simp)]
 case field t x f=>rw[h x (by simp)]
 case indexAddr t x i=>rw[h x (by simp),h i (by simp)]
 case index t x i=>rw[h x (by simp),h i (by simp)]
 case extract x i=>rw[h x (by simp)]
 case makeMap t r=>cases r<;>rfl
 case lookup t x i F=>rw[h x (by simp),h i (by simp)]
 case mapUpdate t m k x=>rw[h m (by simp),h k (by simp),h x (by simp)]
 case insert t m k x=>rw[h m (by simp),h k (by simp),h x (by simp)]
 case call c=>
  unfold kH;have B:c.args.toList.map o=c.args.toList.map e:=zay fun x j=>h x (by simp only[Call.operands,Array.toList_append,wg];exact .inr j)
  rw[B];cases wz (c.args.toList.map e)with
  |none=>rfl
  |some xs=>
   simp only;cases D:c.callee with
   |value f=>simp only;rw[h f (by simp[Call.operands,D])]
   |invoke r m=>rfl
   |builtin b=>rfl
def yY(C:Ctx)(a:Array Oper)(o:Oper)(X:Nat->O)(Y:Hp)(Z:Nat):Option (O×Hp×Nat):=
 if Region.wanted o (xB a X)=true then zF C (get X) Y Z o.op else some (.qS [],Y,Z)
theorem w9(a:Array Oper)(o:Oper)(st:St):w7 C a o st=(yY C a o st.X st.Y st.Z).map fun r=>⟨put st.X o.dst r.1,r.2.1,r.2.2⟩:=by
 unfold w7 yY;split
 ·cases zF C (get st.X) st.Y st.Z o.op<;>rfl
 ·rfl
theorem xD{a:Array Oper}{o:Oper}{X c:Nat->O}{Y:Hp}{Z:Nat}(h:∀t,t∈o.looksAt a->X t=c t):yY C a o X Y Z=yY C a o c Y Z:=by
 have e:Region.wanted o (xB a X)=Region.wanted o (xB a c):=by
  unfold Region.wanted;split
  ·rfl
  ·rename_i j b i;have:xB a X j=xB a c j:=by
    unfold xB;split
    ·rename_i d k;rw[h d (by simp[Oper.looksAt,i,k])]
    ·rfl
   rw[this]
 unfold yY;rw[e];split
 ·refine gu fun x l=>?_
  cases x with
  |tmp t=>simp only[get];rw[h t];simp only[Oper.looksAt,wg,List.mem_filterMap];exact .inl ⟨.tmp t,l,rfl⟩
  |const x=>rfl
  |global g=>rfl
  |func f=>rfl
 ·rfl
theorem ko{X:Nat->O}{d:Option Tmp}{x:O}{t:Nat}(h:∀e,d=some e->e≠t):put X d x t=X t:=by
 cases d with
 |none=>rfl
 |some e=>exact zc _ _ _ _ fun a=>h e rfl a.symm
theorem bG{X:Nat->O}{d e:Option Tmp}{x y:O}(h:∀k,d=some k->e≠some k):put (put X d x) e y=put (put X e y) d x:=by
 cases d with
 |none=>rfl
 |some k=>
  cases e with
  |none=>rfl
  |some m=>
   have a:m≠k:=fun b=>h k rfl (by rw[b])
   funext i;simp only[put,qb];by_cases c:i=m<;>by_cases f:i=k<;>simp_all
def Bj(pf:FuncId->Bool)(c:Array Oper)(a b:Oper):Bool:=
 a.apart c b&&(kJ pf a.op==0||kJ pf b.op==0||(decide (kJ pf a.op<=1)&&decide (kJ pf b.op<=1)))
theorem Kf{b:Array Oper}{o:Oper}{X:Nat->O}{Y Y':Hp}{Z Z':Nat}{x:O}(d:kJ pf o.op=0)(h:yY C b o X Y Z=some (x,Y',Z'))(Y2:Hp)(a:Nat):yY C b o X Y2 a=some (x,Y2,a):=by
 unfold yY at h⊢;split at h
 ·rename_i c;rw[zl c];exact Lb d h Y2 a
 ·rename_i c;rw[zg c];injection h with h
  injection h with e _;subst e;rfl
theorem ZL(b:∀g a,pf g=true->C.Γ g=some a->xu a){c:Array Oper}{o:Oper}{X:Nat->O}{Y Y':Hp}{Z Z':Nat}{x:O}(d:kJ pf o.op<=1)(h:yY C c o X Y Z=some (x,Y',Z')):Y'=Y/\Z'=Z:=by
 unfold yY at h;split at h
 ·exact Bi b d h
 ·injection h with h;injection h with _ h;injection h with e f;exact⟨e.symm,f.symm⟩
theorem lF{c:Array Oper}{a b:Oper}(j:kJ pf a.op=0)(p:∀d,a.dst=some d->d ∉ b.looksAt c)(q:∀d,a.dst=some d->b.dst≠some d)(s:∀d,b.dst=some d->d ∉ a.looksAt c)(st:St) :
  (w7 C c a st).bind (w7 C c b)=(w7 C c b st).bind (w7 C c a):=by
 have u:∀x Y Z,yY C c b (put st.X a.dst x) Y Z=yY C c b st.X Y Z:=fun x Y Z=>xD fun t k=>ko fun e l g=>p e l (g ▸ k)
 have o:∀x Y Z,yY C c a (put st.X b.dst x) Y Z=yY C c a st.X Y Z:=fun x Y Z=>xD fun t k=>ko fun e l g=>s e l (g ▸ k)
 have i:∀x y,put (put st.X a.dst x) b.dst y=put (put st.X b.dst y) a.dst x:=fun x y=>bG q
 rw[w9 c a st,w9 c b st];cases f:yY C c a st.X st.Y st.Z with
 |none=>
  cases m:yY C c b st.X st.Y st.Z with
  |none=>rfl
  |some r=>
   obtain⟨y,Y2,n⟩:=r;simp only[Z7,Option.bind_none,zO,zH];rw[w9];simp only[o];cases v:yY C c a st.X Y2 n with
   |none=>rfl
   |some w=>obtain⟨x,z,D⟩:=w;rw[Kf j v st.Y st.Z]at f;cases f
 |some r=>
  obtain⟨x,Y1,n1⟩:=r;have h:=Kf j f st.Y st.Z;rw[f]at h;injection h with h;injection h with _ h;injection h with A B;subst A;subst B;simp only[zO,zH];rw[w9];simp only[u];cases m:yY C c b st.X st.Y st.Z with
  |none=>rfl
  |some r=>obtain⟨y,Y2,n⟩:=r;simp only[zO,zH];rw[w9];simp only[o,Kf j f Y2 n,zO,i]
theorem tH(i:∀g f,pf g=true->C.Γ g=some f->xu f){c:Array Oper}{a b:Oper}(h:Bj pf c a b=true)(st:St) :
  (w7 C c a st).bind (w7 C c b)=(w7 C c b st).bind (w7 C c a):=by
 simp only[Bj,zs]at h;obtain⟨o,m⟩:=h;obtain⟨p,q,s⟩:=Oper.apart_spec o;simp only[qU,yJ,zs,qE]at m;rcases m with(h|h)|⟨A,w⟩
 ·exact lF h p q s st
 ·exact(lF h s (fun d B D=>q d D B) p st).symm
 ·have E:∀x Y Z,yY C c b (put st.X a.dst x) Y Z=yY C c b st.X Y Z:=fun x Y Z=>xD fun t u=>ko fun e v j=>p e v (j ▸ u)
  have z:∀x Y Z,yY C c a (put st.X b.dst x) Y Z=yY C c a st.X Y Z:=fun x Y Z=>xD fun t u=>ko fun e v j=>s e v (j ▸ u)
  have n:∀x y,put (put st.X a.dst x) b.dst y=put (put st.X b.dst y) a.dst x:=fun x y=>bG q
  rw[w9 c a st,w9 c b st];cases k:yY C c a st.X st.Y st.Z with
  |none=>
   cases l:yY C c b st.X st.Y st.Z with
   |none=>rfl
   |some r=>obtain⟨y,Y2,F⟩:=r;obtain⟨rfl,rfl⟩:=ZL i w l;simp only[Z7,Option.bind_none,zO,zH];rw[w9];simp only[z,k,Z7]
  |some r=>
   obtain⟨x,Y1,n1⟩:=r;obtain⟨rfl,rfl⟩:=ZL i A k;simp only[zO,zH];rw[w9];simp only[E];cases l:yY C c b st.X st.Y st.Z with
   |none=>rfl
   |some r=>obtain⟨y,Y2,F⟩:=r;obtain⟨rfl,rfl⟩:=ZL i w l;simp only[zO,zH];rw[w9];simp only[z,k,zO,n]
def jf(C:Ctx)(a:Array Oper):List Nat->St->Option St
 |[],st=>some st
 |i::l,st=>match a[i]? with
  |none=>jf C a l st
  |some o=>(w7 C a o st).bind (jf C a l)
def bH(acc:List Nat)(o:Oper):Nat:=o.after.toList.foldl (fun s e=>if Region.binds .any e then s||| 2 ^ e.on||| acc.getD e.on 0 else s) 0
def gv(c:Oper->Oper->Bool)(b:Array Oper):List Oper->Nat->List Nat->Bool
 |[],_,_=>true
 |o::l,i,a=>
  o.after.toList.all (fun e=>!Region.binds .any e||decide (e.on<i)) &&
  (List.range i).all (fun j=>(bH a o).testBit j||(match b[j]? with|some p=>c p o|none=>false)) &&
  gv c b l (i+1) (a++[bH a o])
def Kg(a:Array Oper)(L:Nat->Prop):Prop:=∀k o,L k->a[k]?=some o->∀e∈o.after.toList,Region.binds .any e=true->L e.on
def e8(L:Nat->Prop)(o:Oper):Prop:=∀e∈o.after.toList,Region.binds .any e=true->L e.on
theorem e9(acc:List Nat)(j:Nat):∀(l:List Edge) (s:Nat),(l.foldl (fun s e=>if Region.binds .any e then s||| 2 ^ e.on||| acc.getD e.on 0 else s) s).testBit j=true ->
  s.testBit j=true\/∃e∈l,Region.binds .any e=true/\(j=e.on\/(acc.getD e.on 0).testBit j=true)
 |[],s,h=>.inl h
 |e::l,s,h=>by
  simp only[List.foldl_cons]at h;rcases e9 acc j l _ h with h1|⟨c,h1,d,f⟩
  ·split at h1
   ·rename_i a;simp only[Nat.testBit_or,qU]at h1;rcases h1 with(h1|h1)|h1
    ·exact .inl h1
    ·refine .inr ⟨e,by simp,a,.inl ?_⟩;by_cases b:j=e.on
     ·exact b
     ·rw[Nat.testBit_two_pow_of_ne (fun h=>b h.symm)]at h1;cases h1
    ·exact .inr ⟨e,by simp,a,.inr h1⟩
   ·exact .inl h1
  ·exact .inr ⟨c,by simp[h1],d,f⟩
def V4(a:Array Oper)(b:List Nat):Prop:=∀(k m:Nat),b[k]?=some m->∀o,a[k]?=some o->∀L,Kg a L->e8 L o->∀j,m.testBit j=true->L j
theorem Jj{a:Array Oper}{b:List Nat}(n:V4 a b){o:Oper}(L:Nat->Prop)(k:Kg a L)(Y:e8 L o)(p:∀e∈o.after.toList,Region.binds .any e=true->e.on<a.size)(j:Nat)(h:(bH b o).testBit j=true):L j:=by
 rcases e9 b j _ 0 h with g|⟨e,g,l,c⟩
 ·simp at g
 ·have d:=Y e g l;rcases c with rfl|c
  ·exact d
  ·cases i:b[e.on]? with
   |none=>rw[Q9,i]at c;simp at c
   |some m=>rw[Q9,i]at c;have f:=p e g l;exact n e.on m i a[e.on] (by simp[f]) L k (k e.on _ d (by simp[f])) j c
theorem XN{y:Oper->Oper->Bool}{a:Array Oper}:∀{l:List Oper} {i:Nat} {b:List Nat},gv y a l i b=true->b.length=i->(∀k,l[k]?=a[i+k]?)->V4 a b ->
  ∀k o,l[k]?=some o->(∀e∈o.after.toList,Region.binds .any e=true->e.on<i+k)/\∀j,j<i+k->(∀L,Kg a L->e8 L o->L j)\/∃p,a[j]?=some p/\y p o=true
 |[],i,b,_,_,_,_,k,o,r=>by simp at r
 |o'::l,i,b,h,z,s,A,k,o,r=>by
  simp only[gv,zs,qc,qU,Qw,qE,vy]at h;obtain⟨⟨C,D⟩,E⟩:=h;have t:a[i]?=some o':=by have:=s 0;simpa using this.symm
  have G:i<a.size:=(qd.1 t).1;have B:∀e∈o'.after.toList,Region.binds .any e=true->e.on<i:=fun e v d=>by
   rcases C e v with h|h
   ·rw[d]at h;cases h
   ·exact h
  have u:∀L,Kg a L->e8 L o'->∀j,(bH b o').testBit j=true->L j:=fun L g Y j n=>Jj A L g Y (fun e v d=>by have:=B e v d;omega) j n
  cases k with
  |zero=>
   simp at r;subst r;refine⟨by simpa using B,fun j n=>?_⟩;rcases D j (by simpa using n)with h|h
   ·exact .inl fun L g Y=>u L g Y j h
   ·split at h
    ·rename_i p Y;exact .inr ⟨p,Y,h⟩
    ·cases h
  |succ k=>
   have w:V4 a (b++[bH b o']):=by
    intro q m f F c L g Y j n;by_cases x:q<b.length
    ·rw[yi x]at f;exact A q m f F c L g Y j n
    ·rw[qQ (by omega)]at f;have:q=i:=by have:=(ze.1 f).1;simp at this;omega
     subst this;rw[z]at f;simp at f;subst f;rw[t]at c;injection c with c
     subst c;exact u L g Y j n
   have:=XN E (by simp[z]) (fun q=>by have:=s (q+1);simpa[zaU,iW 1 q]using this) w k o (by simpa using r);rwa [show i+1+k=i+(k+1)from by omega]at this
def bI(b:Oper->Oper->Bool)(a:Array Oper):Bool:=gv b a a.toList 0 []
theorem XO{b:Oper->Oper->Bool}{a:Array Oper}(h:bI b a=true):∀i o,a[i]?=some o->(∀e∈o.after.toList,Region.binds .any e=true->e.on<i)/\∀j,j<i->(∀L,Kg a L->e8 L o->L j)\/∃p,a[j]?=some p/\b p o=true:=by intro i o c;have:=XN h rfl (by simp) (fun k m d=>by simp at d) i o (by simpa using c);simpa using this
structure iZ (C:Ctx) (ops:Array Oper) (cm:Oper->Oper->Bool) (A:St->Prop):Prop where
 Wa:∀(i:Nat) (o:Oper) (st st':St),ops[i]?=some o->A st->w7 C ops o st=some st'->A st'
 comm:∀(i j:Nat) (a b:Oper) (st st':St),ops[i]?=some a->ops[j]?=some b->cm a b=true->A st->(w7 C ops a st).bind (w7 C ops b)=some st'->(w7 C ops b st).bind (w7 C ops a)=some st'
theorem JW{a:Array Oper}{s:Oper->Oper->Bool}{A:St->Prop}(l:iZ C a s A){i:Nat}{o:Oper}(f:a[i]?=some o)(b:List Nat):∀(pre:List Nat) (st r:St),A st->(∀j∈pre,∃p,a[j]?=some p/\s p o=true) ->
  jf C a (pre++i::b) st=some r->jf C a (i::(pre++b)) st=some r
 |[],st,r,_,_,h=>h
 |j::pre,st,r,t,h,d=>by
  obtain⟨p,Y,m⟩:=h j (by simp);simp only[qg,jf,Y]at d;cases hs:w7 C a p st with
  |none=>rw[hs]at d;cases d
  |some c=>
   rw[hs,zH]at d;have e:=JW l f b pre c r (l.Wa j p st c Y t hs) (fun k v=>h k (by simp[v])) d;simp only[jf,f]at e;cases n:w7 C a o c with
   |none=>rw[n]at e;cases e
   |some q=>
    rw[n,zH]at e;have g:=l.comm j i p o st q Y f m t (by rw[hs,zH];exact n);simp only[jf,f,qg,Y];cases u:w7 C a o st with
    |none=>rw[u]at g;cases g
    |some w=>rw[u,zH]at g;rw[zH,g,zH];exact e
def xN(a:AM.Spec):Prop:=∀args Y Z r Y' Z',a args Y Z=some (r,Y',Z')->Z<=Z'/\∀id blk,id<Z->Y id=some blk->blk.arr=false->Y' id=some blk
def lG(L:List Tmp):Op->Bool
 | .load _ (.tmp a)=>L.contains a
 | .indexAddr _ (.tmp a) _=>L.contains a
 |_=>false
def ixB(L:List Tmp):Op->Bool
 | .indexAddr _ (.tmp a) _=>L.contains a
 |_=>false
def bJ(a:FuncId->Bool):Op->Bool
 | .call ⟨.value (.func g),_,_⟩=>a g
 | .call ⟨.builtin .append,_,_⟩=>true
 | .buildSlice _ _ _=>true
 | .alloc _=>true
 |_=>false
def Lc:Op->Bool
 | .store _ _ _=>true
 |_=>false
def bK(D:List (Tmp×Tmp)):Op->Op->Bool
 | .load _ (.tmp a),.store _ (.tmp b) _=>D.contains (a,b)
 |_,_=>false
def Fg(D:List (Tmp×Tmp))(L:List Tmp)(a:FuncId->Bool)(p o:Op):Bool:=bK D p o||(lG L p&&bJ a o)||(ixB L p&&Lc o)
def H2(D:List (Tmp×Tmp))(L:List Tmp)(b:FuncId->Bool)(a:Array Oper)(p o:Oper):Bool:=
 p.apart a o&&o.apart a p&&p.guard.isNone&&o.guard.isNone&&(Fg D L b p.op o.op||Fg D L b o.op p.op)
def tI(L:List Tmp):Bool:=L.any fun s=>decide (zB<=s)
def Jk(L:List Tmp):Op->Bool
 | .buildSlice _ _ a=>a.toList.all fun p=>match p.2 with
  | .tmp z=>L.contains (z+zB)
  |_=>false
 |_=>false
def KT:Op->Bool
 | .load _ (.tmp _)=>true
 | .indexAddr _ (.tmp _) _=>true
 |_=>false
def V5(pf:FuncId->Bool):Op->Bool
 | .call ⟨.value (.func g),_,_⟩=>pf g
 |_=>false
def Bm:Op->Bool
 | .alloc _=>true
 |_=>false
def Fh(pf:FuncId->Bool)(L:List Tmp)(a:Array Oper)(p o:Oper):Bool:=tI L&&p.apart a o&&p.guard.isNone&&o.guard.isNone&&(KT p.op||V5 pf p.op)&&(Jk L o.op||Bm o.op)
def sj(pf:FuncId->Bool)(D:List (Tmp×Tmp))(L:List Tmp)(b:FuncId->Bool)(a:Array Oper)(p o:Oper):Bool:=Bj pf a p o||H2 D L b a p o||Fh pf L a p o
def Ld(pf:FuncId->Bool)(o:Op):Bool:=decide (kJ pf o<=1)||match o with
 | .store _ _ _=>true
 | .call ⟨.builtin .append,_,_⟩=>true
 | .buildSlice _ _ _=>true
 | .alloc _=>true
 |_=>false
def oO(pf:FuncId->Bool)(L:List Tmp)(ops:Array Oper):Bool:=!tI L||ops.all fun o=>Ld pf o.op&&L.all fun s=>decide (s<zB)||o.dst != some (s-zB)||(o.guard.isNone&&match o.op with
 | .move (.tmp b)=>L.contains (b+zB)
 | .build _ a=>a.toList.all fun p=>match p.2 with
  | .tmp z=>L.contains (z+zB)
  |_=>false
 |_=>false)
def gw(pf:FuncId->Bool)(D:List (Tmp×Tmp))(L:List Tmp)(a:FuncId->Bool)(ops:Array Oper):Bool:=(D.isEmpty&&L.isEmpty)||ops.all fun o=>D.all (fun p=>o.dst != some p.2&&(o.dst != some p.1||match o.op with
    | .fieldAddr _ (.tmp s) _=>D.contains (s,p.2)
    | .indexAddr _ (.tmp s) _=>D.contains (s,p.2)&&L.contains s
    | .move (.tmp s)=>D.contains (s,p.2)
    | .nilCheck (.tmp s)=>D.contains (s,p.2)
    |_=>false)) &&
 L.all (fun s=>o.dst != some s||match o.op with
  | .fieldAddr _ (.tmp b) _=>L.contains b
  | .indexAddr _ (.tmp b) _=>L.contains b
  |_=>false) &&
 (decide (kJ pf o.op<=1)||match o.op with
  | .store _ _ _=>true
  | .call ⟨.value (.func g),_,_⟩=>D.all (fun p=>L.contains p.2)&&a g
  | .call ⟨.builtin .append,_,_⟩=>D.all (fun p=>L.contains p.2)
  | .buildSlice _ _ _=>D.all (fun p=>L.contains p.2)
  | .alloc _=>D.all (fun p=>L.contains p.2)
  |_=>false)
def gx(pf:FuncId->Bool)(D:List (Tmp×Tmp))(L:List Tmp)(b:FuncId->Bool)(a:Array Oper):Bool:=oO pf L a&&gw pf D L b a
end
section
variable{C:Ctx}{pf:FuncId->Bool}
theorem Yt{Y Y1:Hp}{x y:O}(h:qh Y x=some (y,Y1)){id:Nat}{b:Blk}(c:Y id=some b)(e:b.arr=false):Y1 id=some b:=by
 unfold qh at h;split at h
 ·split at h
  ·rename_i f a;split at h
   ·rename_i d;injection h with h
    injection h with _ h;subst h;rw[zc]
    ·exact c
    ·rintro rfl;rw[c]at a;injection a with a;subst a;rw[e]at d;cases d.1
   ·cases h
  ·cases h
 all_goals first
  |(injection h with h;injection h with _ h;subst h;exact c)
  |(split at h<;>first|(injection h with h;injection h with _ h;subst h;exact c)|cases h)
  |cases h
theorem W9:∀{xs ys:zb} {Y Y1:Hp},qe Y xs=some (ys,Y1)->∀{id:Nat} {b:Blk},Y id=some b->b.arr=false->Y1 id=some b
 |[],ys,Y,Y1,h,id,b,a,c=>by simp only[qe]at h;injection h with h;injection h with _ h;subst h;exact a
 |x::l,ys,Y,Y1,h,id,b,a,c=>by
  simp only[qe]at h;split at h
  ·rename_i y Y2 d;split at h
   ·rename_i r e f;injection h with h;injection h with _ h;subst h
    exact W9 f (Yt d a c) c
   ·cases h
  ·cases h
theorem QA{Y Y1:Hp}{x y:O}(h:zS Y x=some (y,Y1)){id:Nat}{b:Blk}(a:Y id=some b)(c:b.arr=false):Y1 id=some b:=by
 unfold zS at h;split at h
 ·split at h
  ·rename_i l e d;injection h with h;injection h with _ h;subst h
   exact W9 d a c
  ·cases h
 ·exact Yt h a c
theorem tJ{P:Program}{Y Y':Hp}{t:TypeId}{p x:O}(h:kG P Y t p x=some Y'){id:Nat}{b:Blk}(e:Y id=some b)(d:b.arr=false):∃f,Y' id=some f/\f.arr=false:=by
 unfold kG at h;split at h
 ·rename_i id' i j;split at h
  ·rename_i m l;split at h
   ·rename_i y Y1 c;have g:Y1 id=some b:=by
     split at c
     ·exact QA c e d
     ·injection c with c;injection c with _ c;subst c;exact e
    split at h
    ·rename_i o n a _;split at h
     ·split at h
      ·injection h with h;subst h;by_cases k:id=id'
       ·subst k;rw[g]at a;injection a with a
        subst a;exact⟨_,q9 _ _ _,d⟩
       ·exact⟨b,by rw[zc _ _ _ _ k];exact g,d⟩
      ·cases h
     ·cases h
    ·cases h
   ·cases h
  ·cases h
 ·cases h
theorem oP{P:Program}{Y Y':Hp}{t:TypeId}{id i j:Nat}{x:O}{b:Blk}(h:kG P Y t (.ref id i j) x=some Y')(a:Y id=some b)(c:b.arr=false){k:Nat}(d:k≠id):Y' k=Y k:=by
 simp only[kG,a,c]at h;simp only[zq,qf]at h;split at h
 ·split at h
  ·split at h
   ·injection h with h;subst h;exact zc _ _ _ _ d
   ·cases h
  ·cases h
 ·cases h
theorem KU{a:Array Oper}{l c:Oper}(m:l.apart a c=true){st:St}(n:∀Y Z y Y' Z',yY C a l st.X Y Z=some (y,Y',Z')->Y'=Y/\Z'=Z)
  (d:∀z Y' Z',yY C a c st.X st.Y st.Z=some (z,Y',Z')->(yY C a l st.X Y' Z').map (·.1)=(yY C a l st.X st.Y st.Z).map (·.1)) :
  (w7 C a l st).bind (w7 C a c)=(w7 C a c st).bind (w7 C a l):=by
 obtain⟨x,A,B⟩:=Oper.apart_spec m;have cs:∀y Y Z,yY C a c (put st.X l.dst y) Y Z=yY C a c st.X Y Z:=fun y Y Z=>xD fun u o=>ko fun e p f=>x e p (f ▸ o)
 have v:∀y Y Z,yY C a l (put st.X c.dst y) Y Z=yY C a l st.X Y Z:=fun y Y Z=>xD fun u o=>ko fun e p f=>B e p (f ▸ o)
 have g:∀y z,put (put st.X l.dst y) c.dst z=put (put st.X c.dst z) l.dst y:=fun y z=>bG A
 rw[w9 a l st,w9 a c st];cases s:yY C a c st.X st.Y st.Z with
 |none=>
  cases h:yY C a l st.X st.Y st.Z with
  |none=>rfl
  |some q=>obtain⟨y,Y1,t⟩:=q;obtain⟨rfl,rfl⟩:=n _ _ _ _ _ h;simp only[zO,Z7,zH,Option.bind_none];rw[w9];simp only[cs,s,Z7]
 |some q=>
  obtain⟨z,Y',Z'⟩:=q;have b:=d z Y' Z' s;cases h:yY C a l st.X st.Y st.Z with
  |none=>
   rw[h]at b;have D:yY C a l st.X Y' Z'=none:=by
    cases j:yY C a l st.X Y' Z' with
    |none=>rfl
    |some r=>rw[j]at b;cases b
   simp only[zO,Z7,zH,Option.bind_none];rw[w9];simp only[v,D,Z7]
  |some q=>
   obtain⟨y,Y1,t⟩:=q;obtain⟨rfl,rfl⟩:=n _ _ _ _ _ h;rw[h]at b;obtain⟨k,i,w⟩:∃k,yY C a l st.X Y' Z'=some k/\k.1=y:=by
    cases j:yY C a l st.X Y' Z' with
    |none=>rw[j]at b;cases b
    |some r=>rw[j]at b;injection b with b;exact⟨r,rfl,b⟩
   obtain⟨F,Y2,E⟩:=k;simp only at w;subst w;obtain⟨rfl,rfl⟩:=n _ _ _ _ _ i;simp only[zO,zH];rw[w9,w9];simp only[cs,s,v,i,zO,g]
theorem yP{a:Array Oper}{o:Oper}(g:o.guard=none)(X:Nat->O)(Y:Hp)(Z:Nat):yY C a o X Y Z=zF C (get X) Y Z o.op:=by
 have w:Region.wanted o (xB a X)=true:=by unfold Region.wanted;rw[g]
 simp only[yY,w,qa]
theorem QB{P:Program}{Y Y':Hp}{t:TypeId}{p:O}(a:∀id o n,p≠.own id o n)(q:O):qi P Y' t p q=qi P Y t p q:=by
 cases q with
 |v y=>
  cases y with
  |int w i=>
   cases p with
   |own id o n=>exact absurd rfl (a id o n)
   |_=>
    simp only[qi];cases w5 P t with
    |none=>rfl
    |some e=>simp only;cases qF P e<;>rfl
  |_=>simp only[qi]
 |_=>simp only[qi]
theorem tK{L:List Tmp}{op:Op}(b:lG L op=true){st:St}(f:vW L st){Y':Hp}{Z Z':Nat}(h:∀id blk,id<st.Z->st.Y id=some blk->blk.arr=false->Y' id=some blk) :
  (zF C (get st.X) Y' Z' op).map (·.1)=(zF C (get st.X) st.Y Z op).map (·.1):=by
 unfold lG at b;split at b
 ·rename_i t a;obtain⟨⟨c,d⟩,_⟩:=f a (by simpa using b);have:kx C.P Y' t (st.X a)=kx C.P st.Y t (st.X a):=by
   cases e:st.X a with
   |ref id i j=>obtain⟨k,blk,g,l⟩:=d id i j e;simp only[kx,h id blk k g l,g]
   |_=>rfl
  simp only[zF,get,this];cases kx C.P st.Y t (st.X a)<;>rfl
 ·rename_i t a i;obtain⟨⟨c,d⟩,_⟩:=f a (by simpa using b);have:∀q,qi C.P Y' t (st.X a) q=qi C.P st.Y t (st.X a) q:=by exact fun q=>QB c q
  simp only[zF,show get st.X (.tmp a)=some (st.X a)from rfl];cases get st.X i with
  |none=>rfl
  |some q=>simp only[this];cases qi C.P st.Y t (st.X a) q<;>rfl
 ·cases b
theorem Kh{op:Op}{X:Nat->O}{Y Y':Hp}{Z Z':Nat}{y:O}(b:(∃t a,op=.load t (.tmp a))\/∃t a i,op=.indexAddr t (.tmp a) i)(h:zF C (get X) Y Z op=some (y,Y',Z')):Y'=Y/\Z'=Z:=by
 rcases b with⟨t,a,rfl⟩|⟨t,a,i,rfl⟩
 ·simp only[zF,get]at h;exact(Wm h).2
 ·simp only[zF,get]at h;split at h
  ·exact(Wm h).2
  ·cases h
theorem Bn{L:List Tmp}{op:Op}(h:lG L op=true):(∃t a,op=.load t (.tmp a))\/∃t a i,op=.indexAddr t (.tmp a) i:=by
 unfold lG at h;split at h
 ·exact .inl ⟨_,_,rfl⟩
 ·exact .inr ⟨_,_,_,rfl⟩
 ·cases h
theorem Ya:∀{e a:List (Nat×O)} {Y Y1:Hp},zr Y e=some (a,Y1)->∀{id:Nat} {b:Blk},Y id=some b->b.arr=false->Y1 id=some b
 |[],a,Y,Y1,h,id,b,c,d=>by simp only[zr]at h;injection h with h;injection h with _ h;subst h;exact c
 |(i,x)::l,a,Y,Y1,h,id,b,c,d=>by
  simp only[zr]at h;split at h
  ·rename_i y Y2 f;split at h
   ·rename_i r g j;injection h with h;injection h with _ h;subst h
    exact Ya j (QA f c d) d
   ·cases h
  ·cases h
theorem lH{P:Program}{Y Y':Hp}{Z Z':Nat}{t u:TypeId}{s x y:O}(h:yM P Y Z t u s x=some (y,Y',Z')):Z<=Z'/\∀id blk,id<Z->Y id=some blk->blk.arr=false->Y' id=some blk:=by
 unfold yM at h;split at h
 ·split at h
  ·split at h
   ·split at h
    ·split at h
     ·split at h
      ·injection h with h;injection h with _ h;injection h with d f;subst d;subst f;exact⟨zi _,fun _ _ _ c _=>c⟩
      ·injection h with h;injection h with _ h;injection h with d f;subst d;subst f;exact⟨by omega,fun id blk hid c _=>by rw[zc _ _ _ _ (by omega)];exact c⟩
     ·cases h
    ·split at h
     ·rename_i b a;split at h
      ·rename_i g;injection h with h;injection h with _ h;injection h with d f
       subst d;subst f;refine⟨by omega,fun id blk hid c i=>?_⟩;rw[zc _ _ _ _ (by omega),zc _ _ _ _ (fun e=>by
        subst e;rw[c]at a;injection a with a
        subst a;rw[i]at g;cases g.1)]
       exact c
      ·cases h
     ·cases h
    ·cases h
   ·cases h
  ·cases h
 ·cases h
theorem V6{t:TypeId}{X:Nat->O}{Y Y':Hp}{Z Z':Nat}{z:O}(h:zF C (get X) Y Z (.alloc t)=some (z,Y',Z')):∃b,Y'=qb Y Z b/\Z'=Z+1:=by
 simp only[zF]at h;split at h
 ·split at h
  ·injection h with h;injection h with _ h;injection h with a c;exact⟨_,a.symm,c.symm⟩
  ·cases h
 ·cases h
theorem bL{k:FuncId->Bool}(c:∀g a,k g=true->C.Γ g=some a->xN a){op:Op}(b:bJ k op=true){X:Nat->O}{Y Y':Hp}{Z Z':Nat}{z:O}(h:zF C (get X) Y Z op=some (z,Y',Z')) :
  Z<=Z'/\∀id blk,id<Z->Y id=some blk->blk.arr=false->Y' id=some blk:=by
 unfold bJ at b;split at b
 ·rename_i g l ts;simp only[zF,kH]at h;split at h
  ·simp only[get,yF]at h;split at h
   ·rename_i a hs;exact c g a b hs _ _ _ _ _ _ h
   ·cases h
  ·cases h
 ·rename_i l ts;simp only[zF,kH]at h;split at h
  ·simp only[wF]at h;split at h
   ·exact lH h
   ·cases h
  ·cases h
 ·rename_i t len d;simp only[zF]at h;split at h
  ·rename_i p m;unfold zu at h;split at h
   ·split at h
    ·rename_i n q r Y1 _ _ e;split at h
     ·split at h
      ·injection h with h;injection h with _ h;injection h with f i;subst f;subst i;refine⟨by omega,fun id blk hid j o=>?_⟩;rw[zc _ _ _ _ (by omega)];exact Ya e j o
      ·cases h
     ·cases h
    ·cases h
   ·cases h
  ·cases h
 ·rename_i t;obtain⟨s,f,i⟩:=V6 h;subst f;subst i;refine⟨by omega,fun id blk hid j _=>?_⟩;rw[zc _ _ _ _ (by omega)];exact j
 ·cases b
theorem fa{G:FuncId->Bool}(w:∀g m,G g=true->C.Γ g=some m->xN m){D:List (Tmp×Tmp)}{L:List Tmp}{d:Array Oper}{l c:Oper}(H:Fg D L G l.op c.op=true)(e:l.guard=none)(I:c.guard=none)(n:l.apart d c=true){st:St}(M:xz D st)(J:vW L st) :
  (w7 C d l st).bind (w7 C d c)=(w7 C d c st).bind (w7 C d l):=by
 simp only[Fg,qU,zs]at H;rcases H with(f|⟨r,A⟩)|⟨k,N⟩
 ·unfold bK at f;split at f
  ·rename_i t a t' b x s Q;refine KU n (fun Y Z y Y' Z' h=>?_) (fun z Y' Z' h=>?_)
   ·rw[yP e,s]at h;exact Kh (.inl ⟨_,_,rfl⟩) h
   ·rw[yP I,Q]at h;rw[yP e,yP e,s];simp only[zF,get]at h;have o:kx C.P Y' t (st.X a)=kx C.P st.Y t (st.X a):=by
     cases B:st.X a with
     |ref id i j=>
      obtain⟨id',i',j',blk,R,E,S,u⟩:=M (a,b) (by simpa using f) id i j B;rw[R]at h;split at h
      ·rename_i p q K T;simp only[qu]at K;subst K;obtain⟨W,U,v⟩:=zD h;injection v with _ v
       injection v with v _;subst v;simp only[kx,oP U S u E]
      ·cases h
     |_=>rfl
    simp only[zF,get,o];cases kx C.P st.Y t (st.X a)<;>rfl
  ·cases f
 ·refine KU n (fun Y Z y Y' Z' h=>?_) (fun z Y' Z' h=>?_)
  ·rw[yP e]at h;exact Kh (Bn r) h
  ·rw[yP I]at h;rw[yP e,yP e];exact tK r J (bL w A h).2
 ·unfold ixB at k;split at k
  ·rename_i t a i s;refine KU n (fun Y Z y Y' Z' h=>?_) (fun z Y' Z' h=>?_)
   ·rw[yP e,s]at h;exact Kh (.inr ⟨_,_,_,rfl⟩) h
   ·rw[yP e,yP e,s];obtain⟨⟨F,_⟩,_⟩:=J a (by simpa using k);have:∀q,qi C.P Y' t (st.X a) q=qi C.P st.Y t (st.X a) q:=by exact fun q=>QB F q
    simp only[zF,show get st.X (.tmp a)=some (st.X a)from rfl];cases get st.X i with
    |none=>rfl
    |some q=>simp only[this];cases qi C.P st.Y t (st.X a) q<;>rfl
  ·cases k
theorem Yu{P:Program}{t:TypeId}{f:Nat}{p:O}{id i j:Nat}(h:ye P t f p=some (.ref id i j)):∃a b,p=.ref id a b:=by
 unfold ye at h;split at h
 ·split at h
  ·split at h
   ·cases h
   ·injection h with h;cases h
  ·cases h
 ·split at h
  ·split at h
   ·cases h
   ·injection h with h;injection h with c _ _;subst c;exact⟨_,_,rfl⟩
  ·cases h
 ·cases h
theorem bM{P:Program}{t:TypeId}{f:Nat}{p:O}{id o n:Nat}(h:ye P t f p=some (.own id o n)):False:=by
 unfold ye at h;split at h
 ·split at h
  ·split at h
   ·cases h
   ·injection h with h;cases h
  ·cases h
 ·split at h
  ·split at h
   ·cases h
   ·injection h with h;cases h
  ·cases h
 ·cases h
theorem Yv{P:Program}{Y:Hp}{t:TypeId}{p q:O}{id i j:Nat}(h:qi P Y t p q=some (.ref id i j))(a:∀id o n,p≠.own id o n):∃b c,p=.ref id b c:=by
 unfold qi at h;split at h
 ·split at h
  ·split at h
   ·split at h
    ·obtain⟨z,_,e⟩:=zD h;cases e
    ·cases h
   ·exact absurd rfl (a _ _ _)
   ·cases h
  ·unfold kW at h;split at h
   ·split at h
    ·split at h
     ·split at h
      ·injection h with h;cases h
      ·injection h with h;injection h with d _ _;subst d;exact⟨_,_,rfl⟩
      ·cases h
     ·cases h
    ·cases h
   ·cases h
 ·cases h
theorem bN{P:Program}{Y:Hp}{t:TypeId}{p q:O}{id o n:Nat}(h:qi P Y t p q=some (.own id o n)):False:=by
 unfold qi at h;split at h
 ·split at h
  ·split at h
   ·split at h
    ·obtain⟨z,_,e⟩:=zD h;cases e
    ·cases h
   ·split at h
    ·split at h
     ·injection h with h;cases h
     ·cases h
    ·cases h
   ·cases h
  ·unfold kW at h;split at h
   ·split at h
    ·split at h
     ·split at h
      ·injection h with h;cases h
      ·injection h with h;cases h
      ·cases h
     ·cases h
    ·cases h
   ·cases h
 ·cases h
theorem bO{x:O}(h:x.Zs=true)(Y:Hp):qh Y x=some (x,Y):=by cases x<;>first|rfl|cases h
theorem bP:∀{cs:zb},cs.all O.Zs=true->∀Y:Hp,qe Y cs=some (cs,Y)
 |[],_,_=>rfl
 |x::cs,h,Y=>by simp only[wC,zs]at h;simp only[qe,bO h.1,bP h.2]
theorem Bo{x:O}(h:x.shut=true)(a:∀cs,x≠.agg cs):x.Zs=true:=by cases x<;>first|exact absurd rfl (a _)|exact h
theorem Bp{x:O}(h:x.shut=true)(Y:Hp):zS Y x=some (x,Y):=by
 by_cases a:∀cs,x≠.agg cs
 ·have b:=bO (Bo h a) Y;unfold zS;split
  ·exact absurd rfl (a _)
  ·exact b
 ·have:∃cs,x=.agg cs:=Classical.byContradiction fun c=>a fun cs e=>c ⟨cs,e⟩
  obtain⟨cs,rfl⟩:=this;simp only[zS,bP (cs:=cs) h]
theorem tL{x:O}(h:x.Z8=true)(a:∀cs,x≠.qS cs):x.shut=true:=by cases x<;>first|exact absurd rfl (a _)|exact h
theorem tM{x y:O}(h:x.Z8=true){Y Y1:Hp}(a:zS Y x=some (y,Y1)):Y1=Y:=by
 by_cases b:∀cs,x≠.qS cs
 ·rw[Bp (tL h b)]at a;injection a with a
  injection a with _ a;exact a.symm
 ·exfalso;apply b;rintro cs rfl;cases a
theorem bQ:∀{b a:List (Nat×O)} {Y Y1:Hp},(∀p∈b,p.2.Z8=true)->zr Y b=some (a,Y1)->Y1=Y
 |[],a,Y,Y1,_,h=>by injection h with h;injection h with _ h;exact h.symm
 |(i,x)::l,a,Y,Y1,hs,h=>by
  simp only[zr]at h;split at h
  ·rename_i y Y2 c;split at h
   ·rename_i r d e;injection h with h;injection h with _ h;subst h
    rw[bQ (fun p Y=>hs p (by simp[Y])) e,tM (hs (i,x) (by simp)) c]
   ·cases h
  ·cases h
theorem gy{x:O}(h:x.Z8=true)(a:x.cells.all O.we=true):x.cells.all O.Zs=true:=by
 cases x with
 |agg cs=>exact h
 |qS cs=>simp[O.cells,O.we]at a
 |_=>simpa[O.cells,O.Z8,O.shut]using h
theorem lI{v:Value}{p:O}(h:VZ v=some p):p.Zs=true:=by unfold VZ at h;split at h<;>first|(injection h with h;subst h;rfl)|cases h
theorem KV:∀{l:List Value} {a:zb},jE l=some a->a.all O.Zs=true
 |[],a,h=>by injection h with h;subst h;rfl
 |x::l,a,h=>by
  simp only[jE]at h;split at h
  ·rename_i p r b c;injection h with h
   subst h;rw[wC,lI b,KV c];rfl
  ·cases h
theorem bR{P:Program}{t:TypeId}{z:zb}(h:y9 P t=some z):z.all O.Zs=true:=by
 unfold y9 at h;cases a:(P.info? t).bind (·.zero)with
 |none=>rw[a]at h;cases h
 |some q=>rw[a]at h;exact KV h
theorem JX:∀{xs cs:zb} {off:Nat},cs.all O.Zs=true->xs.all O.Zs=true->(wW cs off xs).all O.Zs=true
 |[],cs,off,h,_=>h
 |x::xs,cs,off,h,a=>by
  simp only[wC,zs]at a;simp only[wW];refine JX ?_ a.2;rw[qc]at h⊢;intro y b;rcases rX b with b|rfl
  ·exact h y b
  ·exact a.1
theorem Ki{b:Nat->Option (Nat×Nat)}:∀{c:List (Nat×O)} {cs r:zb},cs.all O.Zs=true->(∀p∈c,p.2.Z8=true)->qn b cs c=some r->r.all O.Zs=true
 |[],cs,r,h,_,a=>by injection a with a;subst a;exact h
 |(i,x)::l,cs,r,h,Y,a=>by
  simp only[qn]at a;split at a
  ·split at a
   ·rename_i d;exact Ki (JX h (gy (Y (i,x) (by simp)) d.2.2)) (fun p Y'=>Y p (by simp[Y'])) a
   ·cases a
  ·cases a
theorem lJ{P:Program}{t:TypeId}{c:List (Nat×O)}{y:O}(Y:∀p∈c,p.2.Z8=true)(h:zU P t c=some y):y.shut=true:=by
 unfold zU at h;split at h
 ·rename_i d z _ a;obtain⟨r,b,rfl⟩:=zD h;exact Ki (bR a) Y b
 ·rename_i z _ a;split at h
  ·split at h
   ·obtain⟨r,b,rfl⟩:=zD h;exact Ki (bR a) Y b
   ·cases h
  ·cases h
 ·cases h
theorem bS{b:Operand->Option O}:∀{l:List (Nat×Operand)} {a:List (Nat×O)},jG b l=some a->∀p∈a,∃q∈l,b q.2=some p.2
 |[],a,h,p,Y=>by injection h with h;subst h;cases Y
 |(i,x)::l,a,h,p,Y=>by
  simp only[jG]at h;split at h
  ·rename_i y r c d;injection h with h
   subst h;rcases zJ.1 Y with rfl|Y
   ·exact⟨(i,x),by simp,c⟩
   ·obtain⟨q,f,e⟩:=bS d p Y;exact⟨q,by simp[f],e⟩
  ·cases h
theorem sk{L:List Tmp}{st:St}(h:vW L st){z:Tmp}(a:L.contains (z+zB)=true):(st.X z).Z8=true:=by have:=(h (z+zB) (by simpa using a)).2 (Nat.le_add_left _ _);simpa using this
theorem bT{L:List Tmp}{st:St}(h:vW L st){a:List (Nat×Operand)}(Y:(a.all fun p=>match p.2 with|.tmp z=>L.contains (z+zB)|_=>false)=true){c:List (Nat×O)}(hs:jG (get st.X) a=some c):∀p∈c,p.2.Z8=true:=by
 intro p b;obtain⟨q,d,e⟩:=bS hs p b;have:=qc.1 Y q d;split at this
 ·rename_i z f;rw[f]at e;simp only[get,qu]at e;rw[<-e];exact sk h this
 ·cases this
theorem Le{x:O}(h:x.shut=true):x.Z8=true:=by cases x<;>first|rfl|exact h
def Kj(Y:Hp)(Z:Nat):Prop:=∀id b,Y id=some b->id<Z
theorem Yw{Y Y1:Hp}{x y:O}(h:qh Y x=some (y,Y1)){id:Nat}{b:Blk}(a:Y1 id=some b):Y id=some b:=by
 unfold qh at h;split at h
 ·rename_i k off n;split at h
  ·rename_i d c;split at h
   ·injection h with h;injection h with _ h;subst h;by_cases e:id=k
    ·subst e;rw[q9]at a;cases a
    ·rwa [zc _ _ _ _ e]at a
   ·cases h
  ·cases h
 all_goals first
  |(injection h with h;injection h with _ h;subst h;exact a)
  |(split at h<;>first|(injection h with h;injection h with _ h;subst h;exact a)|cases h)
  |cases h
theorem Yb:∀{xs ys:zb} {Y Y1:Hp},qe Y xs=some (ys,Y1)->∀{id:Nat} {b:Blk},Y1 id=some b->Y id=some b
 |[],ys,Y,Y1,h,id,b,a=>by simp only[qe]at h;injection h with h;injection h with _ h;subst h;exact a
 |x::l,ys,Y,Y1,h,id,b,a=>by
  simp only[qe]at h;split at h
  ·rename_i y Y2 c;split at h
   ·rename_i r d e;injection h with h;injection h with _ h;subst h
    exact Yw c (Yb e a)
   ·cases h
  ·cases h
theorem JY{Y Y1:Hp}{x y:O}(h:zS Y x=some (y,Y1)){id:Nat}{b:Blk}(a:Y1 id=some b):Y id=some b:=by
 unfold zS at h;split at h
 ·split at h
  ·rename_i l d c;injection h with h;injection h with _ h;subst h
   exact Yb c a
  ·cases h
 ·exact Yw h a
theorem Yc:∀{d a:List (Nat×O)} {Y Y1:Hp},zr Y d=some (a,Y1)->∀{id:Nat} {b:Blk},Y1 id=some b->Y id=some b
 |[],a,Y,Y1,h,id,b,c=>by simp only[zr]at h;injection h with h;injection h with _ h;subst h;exact c
 |(i,x)::l,a,Y,Y1,h,id,b,c=>by
  simp only[zr]at h;split at h
  ·rename_i y Y2 e;split at h
   ·rename_i r f g;injection h with h;injection h with _ h;subst h
    exact JY e (Yc g c)
   ·cases h
  ·cases h
theorem gz{Y:Hp}{Z:Nat}(h:∀id b,Y id=some b->id<Z)(x:Blk):Kj (qb Y Z (some x)) (Z+1):=by
 intro id b a;by_cases e:id=Z
 ·omega
 ·rw[zc _ _ _ _ e]at a;have:=h id b a;omega
theorem tN{P:Program}{Y Y':Hp}{t:TypeId}{p x:O}(h:kG P Y t p x=some Y'){Z:Nat}(f:Kj Y Z):Kj Y' Z:=by
 unfold kG at h;split at h
 ·rename_i k i j;split at h
  ·rename_i g d;split at h
   ·rename_i y Y1 a;have l:∀id b,Y1 id=some b->Y id=some b:=fun id b c=>by
     split at a
     ·exact JY a c
     ·injection a with a;injection a with _ a;subst a;exact c
    split at h
    ·split at h
     ·split at h
      ·injection h with h;subst h;intro id b c;by_cases e:id=k
       ·subst e;exact f id g d
       ·rw[zc _ _ _ _ e]at c;exact f id b (l id b c)
      ·cases h
     ·cases h
    ·cases h
   ·cases h
  ·cases h
 ·cases h
theorem oQ{P:Program}{Y Y':Hp}{Z Z':Nat}{t u:TypeId}{s x y:O}(h:yM P Y Z t u s x=some (y,Y',Z'))(e:Kj Y Z):Kj Y' Z':=by
 unfold yM at h;split at h
 ·split at h
  ·split at h
   ·split at h
    ·split at h
     ·split at h
      ·injection h with h;injection h with _ h;injection h with a c;subst a;subst c;exact e
      ·injection h with h;injection h with _ h;injection h with a c;subst a;subst c;exact gz e _
     ·cases h
    ·split at h
     ·rename_i k _ _ b f;split at h
      ·injection h with h;injection h with _ h;injection h with a c;subst a;subst c;refine gz (fun id g d=>?_) _;unfold qb at d;split at d
       ·cases d
       ·exact e id g d
      ·cases h
     ·cases h
    ·cases h
   ·cases h
  ·cases h
 ·cases h
theorem tO{P:Program}{Y Y':Hp}{Z Z':Nat}{t:TypeId}{len:Nat}{c:List (Nat×O)}{y:O}(h:zu P Y Z t len c=some (y,Y',Z'))(d:Kj Y Z):Kj Y' Z':=by
 unfold zu at h;split at h
 ·split at h
  ·rename_i n i j Y1 _ _ a;split at h
   ·split at h
    ·injection h with h;injection h with _ h;injection h with e f;subst e;subst f;exact gz (fun id b g=>d id b (Yc a g)) _
    ·cases h
   ·cases h
  ·cases h
 ·cases h
theorem tP(f:∀g a,pf g=true->C.Γ g=some a->xu a){op:Op}(c:Ld pf op=true){X:Nat->O}{Y Y':Hp}{Z Z':Nat}{y:O}(h:zF C (get X) Y Z op=some (y,Y',Z'))(e:Kj Y Z):Kj Y' Z':=by
 simp only[Ld,qU,qE]at c;rcases c with c|c
 ·obtain⟨rfl,rfl⟩:=Bi f c h;exact e
 ·split at c
  ·simp only[zF]at h;split at h
   ·obtain⟨l,i,d⟩:=zD h;injection d with _ d;injection d with d k;subst d;subst k;exact tN i e
   ·cases h
  ·simp only[zF,kH]at h;split at h
   ·simp only[wF]at h;split at h
    ·exact oQ h e
    ·cases h
   ·cases h
  ·simp only[zF]at h;split at h
   ·exact tO h e
   ·cases h
  ·obtain⟨m,i,d⟩:=V6 h;subst i;subst d;intro id b j;unfold qb at j;split at j
   ·omega
   ·have:=e id b j;omega
  ·cases c
theorem tQ{P:Program}{Y Y':Hp}{t:TypeId}{p y:O}(hs:∀id b,Y id=some b->Y' id=some b)(h:kx P Y t p=some y):kx P Y' t p=some y:=by
 cases p with
 |ref id i j=>
  simp only[kx]at h⊢;cases a:Y id with
  |none=>rw[a]at h;cases h
  |some b=>rw[a]at h;rw[hs id b a];exact h
 |_=>exact h
theorem bU{P:Program}{Y Y':Hp}{t:TypeId}{p q y:O}(hs:∀id b,Y id=some b->Y' id=some b)(h:qi P Y t p q=some y):qi P Y' t p q=some y:=by
 by_cases a:∀id o n,p≠.own id o n
 ·rw[QB (Y:=Y) a];exact h
 ·have:∃id o n,p=.own id o n:=by refine Classical.byContradiction fun g=>a fun id o n e=>g ⟨id,o,n,e⟩
  obtain⟨id,o,n,rfl⟩:=this;cases q with
  |v z=>
   cases z with
   |int k i=>
    simp only[qi]at h⊢;cases d:w5 P t with
    |none=>rw[d]at h;exact h
    |some e=>
     rw[d]at h;simp only at h⊢;cases f:qF P e with
     |none=>rw[f]at h;cases h
     |some m=>
      rw[f]at h;simp only at h⊢;cases c:Y id with
      |none=>rw[c]at h;cases h
      |some b=>rw[c]at h;rw[hs id b c];exact h
   |_=>cases h
  |_=>cases h
theorem tR{op:Op}(d:KT op=true){X:Nat->O}{Y Y':Hp}{Z Z':Nat}{y:O}{g:Hp}{n1:Nat}(hs:∀id b,Y id=some b->Y' id=some b)(h:zF C (get X) Y Z op=some (y,g,n1)):zF C (get X) Y' Z' op=some (y,Y',Z'):=by
 unfold KT at d;split at d
 ·rename_i t a;simp only[zF,get]at h⊢;obtain⟨z,e,c⟩:=zD h;injection c with c _
  subst c;rw[tQ hs e];rfl
 ·rename_i t a i;simp only[zF,show get X (.tmp a)=some (X a)from rfl]at h⊢;cases f:get X i with
  |none=>rw[f]at h;cases h
  |some q=>
   rw[f]at h;obtain⟨z,e,c⟩:=zD h;injection c with c _
   subst c;simp only[bU hs e];rfl
 ·cases d
theorem oR{op:Op}(h:KT op=true):(∃t a,op=.load t (.tmp a))\/∃t a i,op=.indexAddr t (.tmp a) i:=by
 unfold KT at h;split at h
 ·exact .inl ⟨_,_,rfl⟩
 ·exact .inr ⟨_,_,_,rfl⟩
 ·cases h
theorem tS{L:List Tmp}{t:TypeId}{len:Nat}{a:Array (Nat×Operand)}{st:St}(g:vW L st)(c:Jk L (.buildSlice t len a)=true){Y':Hp}{Z':Nat}{z:O}(h:zF C (get st.X) st.Y st.Z (.buildSlice t len a)=some (z,Y',Z')):∃b,Y'=qb st.Y st.Z b/\Z'=st.Z+1:=by
 simp only[Jk]at c;simp only[zF]at h;split at h
 ·rename_i l e;have d:=bT g c e;unfold zu at h;split at h
  ·split at h
   ·rename_i n m o Y1 _ _ f;have i:=bQ d f;subst i;split at h
    ·split at h
     ·injection h with h;injection h with _ h;injection h with j k;exact⟨_,j.symm,k.symm⟩
     ·cases h
    ·cases h
   ·cases h
  ·cases h
 ·cases h
theorem Bq(r:∀g m,pf g=true->C.Γ g=some m->xu m){L:List Tmp}{n:Array Oper}{l c:Oper}(I:Fh pf L n l c=true){st s:St}(M:vW L st)(J:Kj st.Y st.Z)(hs:(w7 C n l st).bind (w7 C n c)=some s):(w7 C n c st).bind (w7 C n l)=some s:=by
 simp only[Fh,zs,Option.isNone_iff_eq_none]at I;obtain⟨⟨⟨⟨⟨_,B⟩,x⟩,N⟩,d⟩,f⟩:=I;have D:kJ pf l.op<=1:=by
  rcases Bool.or_eq_true_iff.1 d with d|d
  ·rcases oR d with⟨t,a,e⟩|⟨t,a,i,e⟩<;>simp[e,kJ]
  ·unfold V5 at d;split at d
   ·rename_i g E ts j;simp[j,kJ,d]
   ·cases d
 have F:st.Y st.Z=none:=by
  cases P:st.Y st.Z with
  |none=>rfl
  |some b=>have:=J _ b P;omega
 cases k:yY C n l st.X st.Y st.Z with
 |none=>rw[w9,k]at hs;cases hs
 |some q=>
  obtain⟨y,Q,n1⟩:=q;rw[<-KU B (fun Y Z y Y' Z' h=>ZL r D h) (fun z Y' Z' h=>?_)]
  ·exact hs
  ·rw[yP N]at h;have u:∃b,Y'=qb st.Y st.Z b/\Z'=st.Z+1:=by
    rcases Bool.or_eq_true_iff.1 f with f|f
    ·have o:=f;unfold Jk at f;split at f
     ·rename_i t len G j;rw[j]at h o;exact tS M o h
     ·cases f
    ·unfold Bm at f;split at f
     ·rename_i t j;rw[j]at h;exact V6 h
     ·cases f
   obtain⟨b,rfl,rfl⟩:=u;rcases Bool.or_eq_true_iff.1 d with d|d
   ·have v:∀id A,st.Y id=some A->qb st.Y st.Z b id=some A:=fun id A K=>by rw[zc _ _ _ _ (by have:=J id A K;omega)];exact K
    rw[yP x]at k⊢;rw[yP x,k,tR d v k];rfl
   ·unfold V5 at d;split at d
    ·rename_i g E ts j;rw[yP x,j]at k⊢;rw[yP x,j,k];have H:zF C (get st.X) (qb st.Y st.Z b) (st.Z+1) (.call ⟨.value (.func g),E,ts⟩)=some (y,qb st.Y st.Z b,st.Z+1):=by
      simp only[zF,kH]at k⊢;cases w:wz (E.toList.map (get st.X))with
      |none=>rw[w]at k;cases k
      |some xs=>
       rw[w]at k;simp only[get,yF]at k⊢;cases p:C.Γ g with
       |none=>rw[p]at k;cases k
       |some m=>rw[p]at k;exact(r g m d p _ _ _ _ _ _ k).2 b F
     rw[H];rfl
    ·cases d
def U2(D:List (Tmp×Tmp))(L:List Tmp)(st:St):Prop:=(xz D st/\vW L st)/\(tI L=true->Kj st.Y st.Z)
theorem oS(hpf:∀g l,pf g=true->C.Γ g=some l->xu l){bk:FuncId->Bool}(hbk:∀g l,bk g=true->C.Γ g=some l->xN l){D:List (Tmp×Tmp)}{L:List Tmp}{I:Array Oper}(hpl:gw pf D L bk I=true){i:Nat}{o:Oper}{st J:St}(ho:I[i]?=some o)(B:xz D st/\HX L st)(hs:w7 C I o st=some J):xz D J/\HX L J:=by
  simp only[gw,qU,zs]at hpl;rcases hpl with⟨hD,hL⟩|hpl
  ·have hD:D=[]:=by simpa using hD
   have hL:L=[]:=by simpa using hL
   subst hD;subst hL;exact⟨(fun p Y=>(by cases Y)),(fun s hs=>(by cases hs))⟩
  have h0:=JS.1 hpl o (ae ho);simp only[zs,qU,qE]at h0;obtain⟨⟨W,hld⟩,hk⟩:=h0;rw[w9]at hs;obtain⟨r,a,AW⟩:=zD hs;obtain⟨y,Y1,Q⟩:=r;subst AW;have A:(∀id blk,st.Y id=some blk->blk.arr=false->D.all (fun p=>L.contains p.2)=false\/id<st.Z->∃K,Y1 id=some K/\K.arr=false)/\st.Z<=Q:=by
   have k:∀{op:Op},o.op=op->bJ bk op=true->D.all (fun p=>L.contains p.2)=true->(∀id blk,st.Y id=some blk->blk.arr=false->D.all (fun p=>L.contains p.2)=false\/id<st.Z->∃K,Y1 id=some K/\K.arr=false)/\st.Z<=Q:=by
    intro op c hf M;unfold yY at a;split at a
    ·rw[c]at a;obtain⟨h,d⟩:=bL hbk hf a;refine⟨fun id blk v w h3=>?_,h⟩;rcases h3 with h3|h3
     ·rw[M]at h3;cases h3
     ·exact⟨blk,d id blk h3 v w,w⟩
    ·injection a with a;injection a with _ a;injection a with h d;subst h;subst d;exact⟨fun id blk v w _=>⟨blk,v,w⟩,zi _⟩
   rcases hk with hk|hk
   ·obtain⟨rfl,rfl⟩:=ZL hpf hk a;exact⟨fun id blk v w _=>⟨blk,v,w⟩,zi _⟩
   ·split at hk
    ·rename_i t q x c;unfold yY at a;split at a
     ·rw[c]at a;simp only[zF]at a;split at a
      ·obtain⟨w,h,d⟩:=zD a;injection d with _ d;injection d with d E;subst d;subst E;exact⟨fun id blk v w _=>tJ h v w,zi _⟩
      ·cases a
     ·injection a with a;injection a with _ a;injection a with h d;subst h;subst d;exact⟨fun id blk v w _=>⟨blk,v,w⟩,zi _⟩
    ·rename_i g aZ ts c;simp only[zs]at hk;exact k c (by simpa[bJ]using hk.2) hk.1
    ·rename_i aZ ts c;exact k c rfl hk
    ·rename_i t n ps c;exact k c rfl hk
    ·rename_i t c;exact k c rfl hk
    ·cases hk
  refine⟨fun p Y=>?_,fun s R=>?_⟩
  rotate_left
  ·have hl:=qc.1 hld s R;simp only[qU,bne_iff_ne]at hl;have H:(∀id o' n,put st.X o.dst y s≠.own id o' n)/\∀id i' j',put st.X o.dst y s=.ref id i' j'->id<st.Z/\∃blk,st.Y id=some blk/\blk.arr=false:=by
    by_cases m:o.dst=some s
    ·have u:put st.X o.dst y s=y:=by rw[m];exact q9 _ _ _
     rw[u];rcases hl with hl|hl
     ·exact absurd m hl
     ·split at hl
      ·rename_i t b f c;obtain⟨F,G⟩:=B.2 b (by simpa using hl);unfold yY at a;split at a
       ·rw[c]at a;simp only[zF,get]at a;obtain⟨z,h,d⟩:=zD a;injection d with d _
        subst d;refine⟨fun id o' n e=>?_,fun id i' j' e=>?_⟩
        ·subst e;exact bM h
        ·subst e;obtain⟨i0,j0,E⟩:=Yu h;exact G _ _ _ E
       ·injection a with a;injection a with a _;subst a;exact⟨(fun _ _ _ e=>by cases e),(fun _ _ _ e=>by cases e)⟩
      ·rename_i t b ix c;obtain⟨F,G⟩:=B.2 b (by simpa using hl);unfold yY at a;split at a
       ·rw[c]at a;simp only[zF,get]at a;split at a
        ·rename_i p0 q0 S hq0;simp only[qu]at S;subst S;obtain⟨z,h,d⟩:=zD a;injection d with d _
         subst d;refine⟨fun id o' n e=>?_,fun id i' j' e=>?_⟩
         ·subst e;exact bN h
         ·subst e;obtain⟨i0,j0,E⟩:=Yv h F;exact G _ _ _ E
        ·cases a
       ·injection a with a;injection a with a _;subst a;exact⟨(fun _ _ _ e=>by cases e),(fun _ _ _ e=>by cases e)⟩
      ·cases hl
    ·have u:put st.X o.dst y s=st.X s:=ko (fun e T=>by rintro rfl;exact m T);rw[u];exact B.2 s R
   refine⟨H.1,fun id i' j' e=>?_⟩;obtain⟨v,blk,w,h3⟩:=H.2 id i' j' e;exact⟨q8 v A.2,A.1 id blk w h3 (.inr v)⟩
  ·have W:=qc.1 W p Y;simp only[zs,qU,bne_iff_ne]at W;obtain⟨hd2,hd1⟩:=W;have hpb:put st.X o.dst y p.2=st.X p.2:=ko (fun e T=>by rintro rfl;exact hd2 T);have N:∀id i j,put st.X o.dst y p.1=.ref id i j->∃id' i' j' blk,st.X p.2=.ref id' i' j'/\id≠id'/\st.Y id'=some blk/\blk.arr=false:=by
    intro id i j e;by_cases m:o.dst=some p.1
    ·have u:put st.X o.dst y p.1=y:=by rw[m];exact q9 _ _ _
     rw[u]at e;subst e;rcases hd1 with hd1|hd1
     ·exact absurd m hd1
     ·split at hd1
      ·rename_i t b f c;unfold yY at a;split at a
       ·rw[c]at a;simp only[zF,get]at a;obtain⟨z,h,d⟩:=zD a;injection d with d _
        subst d;obtain⟨i0,j0,E⟩:=Yu h;exact B.1 (b,p.2) (by simpa using hd1) _ _ _ E
       ·injection a with a;injection a with a _;cases a
      ·rename_i t b ix c;simp only[zs]at hd1;obtain⟨F,G⟩:=B.2 b (by simpa using hd1.2);unfold yY at a;split at a
       ·rw[c]at a;simp only[zF,get]at a;split at a
        ·rename_i p0 q0 S hq0;simp only[qu]at S;subst S;obtain⟨z,h,d⟩:=zD a;injection d with d _
         subst d;obtain⟨i0,j0,E⟩:=Yv h F;exact B.1 (b,p.2) (by simpa using hd1.1) _ _ _ E
        ·cases a
       ·injection a with a;injection a with a _;cases a
      ·rename_i b c;unfold yY at a;split at a
       ·rw[c]at a;simp only[zF,get]at a;obtain⟨z,h,d⟩:=zD a;injection d with d _
        subst d;injection h with h
        exact B.1 (b,p.2) (by simpa using hd1) _ _ _ h
       ·injection a with a;injection a with a _;cases a
      ·rename_i b c;unfold yY at a;split at a
       ·rw[c]at a;simp only[zF,get]at a;split at a
        ·rename_i h;injection a with a
         injection a with a _;injection a with v w h3;subst v;injection h with h;exact B.1 (b,p.2) (by simpa using hd1) _ _ _ h
        all_goals first
         |cases a
         |(injection a with a;injection a with a _;cases a)
       ·injection a with a;injection a with a _;cases a
      ·cases hd1
    ·have u:put st.X o.dst y p.1=st.X p.1:=ko (fun e T=>by rintro rfl;exact m T);rw[u]at e;exact B.1 p Y id i j e
   intro id i j e;obtain⟨id',i',j',blk,eb,hne,HG,U⟩:=N id i j e;have P:D.all (fun p=>L.contains p.2)=false\/id'<st.Z:=by
    cases M:D.all (fun p=>L.contains p.2)
    ·exact .inl rfl
    ·refine .inr ?_;have:=qc.1 M p Y;exact((B.2 p.2 (by simpa using this)).2 id' i' j' eb).1
   obtain⟨K,lr,hb2⟩:=A.1 id' blk HG U P;exact⟨id',i',j',K,by show put st.X o.dst y p.2=_;rw[hpb];exact eb,hne,lr,hb2⟩
theorem Lf(v:∀g f,pf g=true->C.Γ g=some f->xu f){L:List Tmp}{h:Array Oper}(G:oO pf L h=true)(J:tI L=true){i:Nat}{o:Oper}{st d:St}(K:h[i]?=some o)(w:vW L st)(H:Kj st.Y st.Z)(hs:w7 C h o st=some d) :
  (∀s∈L,zB<=s->(d.X (s-zB)).Z8=true)/\Kj d.Y d.Z:=by
 simp only[oO,J,Bool.not_true,Bool.false_or]at G;have I:=JS.1 G o (ae K);simp only[zs]at I;obtain⟨l,m⟩:=I;rw[w9]at hs;obtain⟨r,a,x⟩:=zD hs;obtain⟨y,Y1,A⟩:=r;subst x;refine⟨fun s n p=>?_,?_⟩
 ·have c:=qc.1 m s n;simp only[qU,qE,bne_iff_ne,zs,Option.isNone_iff_eq_none]at c;by_cases B:o.dst=some (s-zB)
  ·have j:put st.X o.dst y (s-zB)=y:=by rw[B];exact q9 _ _ _
   show(put st.X o.dst y (s-zB)).Z8=true;rw[j];rcases c with(c|c)|⟨M,c⟩
   ·exact absurd c (Nat.not_lt.2 p)
   ·exact absurd B c
   ·rw[yP M]at a;split at c
    ·rename_i b k;rw[k]at a;simp only[zF,get,zO]at a;injection a with a
     injection a with a _;rw[<-a];exact sk w c
    ·rename_i t D k;rw[k]at a;simp only[zF]at a;split at a
     ·rename_i P q;obtain⟨z,E,u⟩:=zD a;injection u with u _
      subst u;exact Le (lJ (bT w c q) E)
     ·cases a
    ·cases c
  ·have j:put st.X o.dst y (s-zB)=st.X (s-zB):=ko (fun e N F=>B (by rw[N,F]));show(put st.X o.dst y (s-zB)).Z8=true;rw[j];exact(w s n).2 p
 ·show Kj Y1 A;unfold yY at a;split at a
  ·exact tP v l a H
  ·injection a with a;injection a with _ a;injection a with E u;subst E;subst u;exact H
theorem Br(k:∀g d,pf g=true->C.Γ g=some d->xu d){r:FuncId->Bool}(m:∀g d,r g=true->C.Γ g=some d->xN d){D:List (Tmp×Tmp)}{L:List Tmp}{n:Array Oper}(l:gx pf D L r n=true):iZ C n (sj pf D L r n) (U2 D L):=by
 simp only[gx,zs]at l;obtain⟨B,l⟩:=l;refine⟨fun i o st t w f hs=>?_,fun i j a b st t H I c f hs=>?_⟩
 ·obtain⟨x,y⟩:=oS k m l w ⟨f.1.1,fun s hs=>(f.1.2 s hs).1⟩ hs;cases q:tI L
  ·refine⟨⟨x,fun s h=>⟨y s h,fun E=>?_⟩⟩,fun e=>by rw[q]at e;cases e⟩;have:=List.any_eq_false.1 q s h;simp at this;omega
  ·obtain⟨F,G⟩:=Lf k B q w f.1.2 (f.2 q) hs;exact⟨⟨x,fun s h=>⟨y s h,F s h⟩⟩,fun _=>G⟩
 ·simp only[sj,qU]at c;rcases c with(c|c)|c
  ·rw[<-tH k c st];exact hs
  ·simp only[H2,zs,qU,Option.isNone_iff_eq_none]at c;obtain⟨⟨⟨⟨u,p⟩,z⟩,A⟩,hm⟩:=c;rcases hm with hm|hm
   ·rw[<-fa m hm z A u f.1.1 f.1.2];exact hs
   ·rw[fa m hm A z p f.1.1 f.1.2];exact hs
  ·have v:tI L=true:=by simp only[Fh,zs]at c;exact c.1.1.1.1.1
   exact Bq k c f.1.2 (f.2 v) hs
end
def vB(C:Ctx)(code:Code)(st:St)(K:Exit->St->Prop):Prop:=∃e a,qx C code st=some (e,a)/\K e a
def bV(C:Ctx)(b:Array Oper)(l:List Oper)(st:St)(K:St->Prop):Prop:=∃a,kh C b l st=some a/\K a
def Yx{α:Type}(o:Option α)(K:α->Prop):Prop:=∃x,o=some x/\K x
theorem lK{α:Type}{o o':Option α}(K:α->Prop)(h:o=o'):Yx o K=Yx o' K:=by rw[h]
theorem oT{α:Type}(x:α)(K:α->Prop):Yx (some x) K=K x:=by simp[Yx]
def XP(C:Ctx)(o:Option O)(x y:Code)(st:St)(K:Exit->St->Prop):Prop:=(o=some (.v (.bool true))/\vB C x st K)\/(o=some (.v (.bool false))/\vB C y st K)
theorem lL{C:Ctx}{o o':Option O}{x y:Code}{st:St}{K:Exit->St->Prop}(h:o=o'):XP C o x y st K=XP C o' x y st K:=by rw[h]
theorem oU(C:Ctx)(x y:Code)(st:St)(K:Exit->St->Prop):XP C (some (.v (.bool true))) x y st K=vB C x st K:=by simp[XP]
theorem lM(C:Ctx)(x y:Code)(st:St)(K:Exit->St->Prop):XP C (some (.v (.bool false))) x y st K=vB C y st K:=by simp[XP]
def bW(C:Ctx)(b:Code)(K:Exit->St->Prop)(e:Exit)(st:St):Prop:=match e with
 | .normal=>vB C b st K
 |e=>K e st
def Zf(id:Nat)(K:Exit->St->Prop)(e:Exit)(st:St):Prop:=match e with
 | .exit i=>if i=id then K .normal st else K (.exit i) st
 |e=>K e st
def Zo(K:Exit->St->Prop)(st:St):Prop:=K .normal st
theorem gA(C:Ctx)(b:Code)(K:Exit->St->Prop)(st:St):bW C b K .normal st=vB C b st K:=rfl
theorem tT(C:Ctx)(b:Code)(K:Exit->St->Prop)(st:St):bW C b K .ret st=K .ret st:=rfl
theorem oV(C:Ctx)(b:Code)(K:Exit->St->Prop)(i:Nat)(st:St):bW C b K (.exit i) st=K (.exit i) st:=rfl
theorem ej(id:Nat)(K:Exit->St->Prop)(st:St):Zf id K .normal st=K .normal st:=rfl
theorem oW(id:Nat)(K:Exit->St->Prop)(st:St):Zf id K .ret st=K .ret st:=rfl
theorem V7(id:Nat)(K:Exit->St->Prop)(st:St):Zf id K (.exit id) st=K .normal st:=by simp[Zf]
theorem Jl{C:Ctx}{code:Code}{st:St}{b:Exit}{a:St}(K:Exit->St->Prop)(h:qx C code st=some (b,a)):vB C code st K=K b a:=by
 unfold vB;apply propext;constructor
 ·rintro⟨e,c,f,d⟩;rw[h]at f;obtain⟨rfl,rfl⟩:b=e/\a=c:=by simpa using f
  exact d
 ·exact fun d=>⟨_,_,h,d⟩
theorem Bs(C:Ctx)(st:St)(K:Exit->St->Prop):vB C .skip st K=K .normal st:=Jl K (by simp only[qx])
theorem Bt(C:Ctx)(id:Nat)(st:St)(K:Exit->St->Prop):vB C (.exit id) st K=K (.exit id) st:=Jl K (by simp only[qx])
theorem Fi(C:Ctx)(st:St)(K:Exit->St->Prop):vB C .ret st K=K .ret st:=Jl K (by simp only[qx])
theorem tU(C:Ctx)(l:Nat)(st:St)(K:Exit->St->Prop):vB C (.label l) st K=K .normal st:=Jl K (by simp only[qx])
theorem lN(C:Ctx)(i:Nat)(a:Array Oper)(d:Bool)(c st:St)(K:Exit->St->Prop)(g:iX (C.fz i) c=some st)(h:xz (C.dyn i) st)(j:vW (C.AV i) st):vB C (.region i a d) c K=bV C a a.toList st (Zo K):=by
 unfold vB bV Zo;simp only[qx,g,h,j,and_self,qa];apply propext;constructor
 ·rintro⟨e,b,h,f⟩;split at h
  ·rename_i s hs;obtain⟨rfl,rfl⟩:Exit.normal=e/\s=b:=by simpa using h
   exact⟨_,hs,f⟩
  ·cases h
 ·rintro⟨b,h,f⟩;exact⟨.normal,b,by rw[h],f⟩
theorem kK(C:Ctx)(i:Nat)(a:Array Oper)(d:Bool)(st:St)(K:Exit->St->Prop)(h:xz (C.dyn i) st)(b:vW (C.AV i) st)(c:C.fz i=[]:=by rfl):vB C (.region i a d) st K=bV C a a.toList st (Zo K):=
 lN C i a d st st K (by rw[c];rfl) h b
theorem xE(C:Ctx)(i:Nat)(a:Array Oper)(d:Bool)(st:St)(K:Exit->St->Prop)(h:C.dyn i=[])(b:C.AV i=[])(c:C.fz i=[]:=by rfl):vB C (.region i a d) st K=bV C a a.toList st (Zo K):=kK C i a d st K (by rw[h];intro p Y;cases Y) (by rw[b];intro p Y;cases Y) c
theorem gB(C:Ctx)(a b:Code)(st:St)(K:Exit->St->Prop):vB C (.seq a b) st K=vB C a st (bW C b K):=by
 unfold vB;simp only[qx];apply propext;constructor
 ·rintro⟨e,c,h,d⟩;split at h
  ·rename_i s hs;exact⟨.normal,s,hs,e,c,h,d⟩
  ·rename_i r k;refine⟨e,c,h,?_⟩;cases e<;>simp_all[bW]
 ·rintro⟨e,c,h,d⟩;cases e
  case normal=>obtain⟨i,f,j,g⟩:=d;exact⟨i,f,by rw[h];exact j,g⟩
  all_goals exact⟨_,c,by rw[h],d⟩
theorem Bu(C:Ctx)(c:Operand)(x y:Code)(st:St)(K:Exit->St->Prop):vB C (.cond c x y) st K=XP C (get st.X c) x y st K:=by
 unfold vB XP;simp only[qx];apply propext;constructor
 ·rintro⟨e,a,h,d⟩;split at h
  ·rename_i b;exact .inl ⟨b,e,a,h,d⟩
  ·rename_i b;exact .inr ⟨b,e,a,h,d⟩
  ·cases h
 ·rintro (⟨b,e,a,h,d⟩|⟨b,e,a,h,d⟩)
  ·exact⟨e,a,by rw[b];exact h,d⟩
  ·exact⟨e,a,by rw[b];exact h,d⟩
theorem fb(C:Ctx)(id:Nat)(b:Code)(st:St)(K:Exit->St->Prop):vB C (.block id b) st K=vB C b st (Zf id K):=by
 unfold vB;simp only[qx];apply propext;constructor
 ·rintro⟨e,a,h,c⟩;split at h
  ·rename_i i s hs;refine⟨.exit i,s,hs,?_⟩;unfold Zf;split at h
   ·rename_i d;obtain⟨rfl,rfl⟩:Exit.normal=e/\s=a:=by simpa using h
    simp[d,c]
   ·rename_i d;obtain⟨rfl,rfl⟩:Exit.exit i=e/\s=a:=by simpa using h
    simp[d,c]
  ·rename_i r f;refine⟨e,a,h,?_⟩;cases e<;>simp_all[Zf]
 ·rintro⟨e,a,h,c⟩;cases e
  case exit i=>
   unfold Zf at c;simp only[h];by_cases d:i=id
   ·simp only[d,qa]at c⊢;exact⟨_,_,rfl,c⟩
   ·simp only[d,qf]at c⊢;exact⟨_,_,rfl,c⟩
  all_goals exact⟨_,a,by rw[h],c⟩
def Ph(C:Ctx)(b:Code)(K:Exit->St->Prop)(e:Exit)(st:St):Prop:=match e with
 | .normal=>vB C b st K
 |_=>False
def Lg(I:Nat->Hp->Nat->Prop)(k:Nat)(X:Nat->O)(K:Exit->St->Prop)(e:Exit)(st:St):Prop:=match e with
 | .normal=>I (k+1) st.Y st.Z
 | .ret=>K .ret ⟨X,st.Y,st.Z⟩
 | .exit i=>K (.exit i) ⟨X,st.Y,st.Z⟩
 |_=>False
theorem tV{C:Ctx}{f:Operand}{t:Array Tmp}{a b:Code}{st:St}{K:Exit->St->Prop}{p:Tmp}{g:FuncId}{cap:zb}{it:vV}{xs:zb}{Y1:Hp}
  (o:t.toList=[p]) (w:get st.X f=some (.fn (.func g) [] cap)) (q:C.it g=some it) (x:it cap st.Y=some (xs,Y1)) (I:Nat->Hp->Nat->Prop) (y:I 0 Y1 st.Z)
  (h:∀k Y Z (u:k<xs.length),I k Y Z->vB C a ⟨qb st.X p xs[k],Y,Z⟩ (Ph C b (Lg I k st.X K))) (i:∀Y Z,I xs.length Y Z->K .normal ⟨st.X,Y,Z⟩):vB C (.rangeFunc f t a b) st K:=by
 have r:∀d k Y Z,xs.length-k=d->k<=xs.length->I k Y Z->∃e Y2 c,We (qx C a) (qx C b) st.X p (xs.drop k) Y Z=some (e,Y2,c)/\K e ⟨st.X,Y2,c⟩:=by
  intro d
  induction d with
  |zero=>
   intro k Y Z z u s;obtain rfl:k=xs.length:=by omega
   exact⟨.normal,Y,Z,by rw[zE];rfl,i Y Z s⟩
  |succ d A=>
   intro k Y Z z u s;have j:k<xs.length:=by omega
   obtain⟨B,F,l,m⟩:=h k Y Z j s;rw[zj j];simp only[We,l];cases B<;>try exact m.elim
   obtain⟨D,v,E,n⟩:=m;simp only[E];cases D<;>try exact n.elim
   ·exact A (k+1) v.Y v.Z (by omega) (by omega) n
   ·exact⟨_,_,_,rfl,n⟩
   ·exact⟨_,_,_,rfl,n⟩
 obtain⟨e,Y2,c,l,m⟩:=r _ 0 Y1 st.Z rfl (kj _) y;rw[jd]at l;exact⟨e,⟨st.X,Y2,c⟩,by simp only[qx,o,w,q,x,l],m⟩
theorem Fj(C:Ctx)(a:Array Oper)(st:St)(K:St->Prop):bV C a [] st K=K st:=by simp[bV,kh]
def Bv(C:Ctx)(a:Array Oper)(l:List Oper)(K:St->Prop)(st:St):Prop:=bV C a l st K
theorem Bw(C:Ctx)(a:Array Oper)(l:List Oper)(K:St->Prop)(st:St):Bv C a l K st=bV C a l st K:=rfl
theorem Bx(C:Ctx)(a:Array Oper)(o:Oper)(l:List Oper)(st:St)(K:St->Prop):bV C a (o::l) st K=Yx (w7 C a o st) (Bv C a l K):=by
 unfold bV Yx Bv bV;simp only[kh];apply propext;constructor
 ·rintro⟨b,h,c⟩;split at h
  ·rename_i s hs;exact⟨s,hs,b,h,c⟩
  ·cases h
 ·rintro⟨s,hs,b,h,c⟩;exact⟨b,by rw[hs];exact h,c⟩
theorem zY(C:Ctx)(b:Code)(st:St)(K:Exit->St->Prop):vB C (.loop b) st K=vB C b st (bW C (.loop b) K):=by
 unfold vB;simp only[qx];rw[gh];apply propext;constructor
 ·rintro⟨e,a,h,c⟩;split at h
  ·rename_i s hs;exact⟨.normal,s,hs,e,a,by simpa only[qx]using h,c⟩
  ·rename_i r j;refine⟨e,a,h,?_⟩;cases e<;>simp_all[bW]
 ·rintro⟨e,a,h,c⟩;cases e
  case normal=>obtain⟨g,d,i,f⟩:=c;exact⟨g,d,by rw[h];simpa only[qx]using i,f⟩
  all_goals exact⟨_,a,by rw[h],c⟩
def gC(I:St->Prop)(a:St->Nat)(n:Nat)(K:Exit->St->Prop)(e:Exit)(st:St):Prop:=match e with
 | .normal=>I st/\a st<n
 |e=>K e st
theorem ek(I:St->Prop)(a:St->Nat)(n:Nat)(K:Exit->St->Prop)(st:St):gC I a n K .normal st=(I st/\a st<n):=rfl
theorem oX(I:St->Prop)(a:St->Nat)(n:Nat)(K:Exit->St->Prop)(st:St):gC I a n K .ret st=K .ret st:=rfl
theorem lO(I:St->Prop)(a:St->Nat)(n i:Nat)(K:Exit->St->Prop)(st:St):gC I a n K (.exit i) st=K (.exit i) st:=rfl
theorem vB.mono{C:Ctx}{code:Code}{st:St}{K b:Exit->St->Prop}(h:vB C code st K)(c:∀e st,K e st->b e st):vB C code st b:=
 let⟨e,a,d,f⟩:=h
 ⟨e,a,d,c _ _ f⟩
theorem lP{C:Ctx}{b:Code}{st:St}{K:Exit->St->Prop}(I:St->Prop)(d:St->Nat)(h:I st)(a:∀st,I st->vB C b st (gC I d (d st) K)):vB C (.loop b) st K:=by
 have f:∀n st,d st=n->I st->vB C (.loop b) st K:=by
  intro n
  induction n using Nat.strongRecOn with
  |_ n i=>
   intro st j k;rw[zY];refine(a st k).mono fun e c g=>?_
   cases e
   case normal=>exact i (d c) (j ▸ g.2) c rfl g.1
   all_goals exact g
 exact f _ st rfl h
def KW(P:Program)(fn:Func)(R:O->Hp->Nat->Prop)(e:Exit)(st:St):Prop:=match e with
 | .normal|.ret=>Yx (kI P fn st) (fun x=>R x st.Y st.Z)
 |_=>False
theorem lQ(P:Program)(fn:Func)(R:O->Hp->Nat->Prop)(st:St):KW P fn R .normal st=Yx (kI P fn st) (fun x=>R x st.Y st.Z):=rfl
theorem Bz(P:Program)(fn:Func)(R:O->Hp->Nat->Prop)(st:St):KW P fn R .ret st=Yx (kI P fn st) (fun x=>R x st.Y st.Z):=rfl
theorem wX{C:Ctx}{fn:Func}{code:Code}{args:zb}{Y:Hp}{Z:Nat}{R:O->Hp->Nat->Prop}(d:fn.body=some code)
  (h:vB C code ⟨ka args,Y,Z⟩ (KW C.P fn R)):∃x Y' Z',yd C fn args Y Z=some (x,Y',Z')/\R x Y' Z':=by
 obtain⟨e,st,f,a⟩:=h;unfold yd;simp only[d,f];unfold KW at a;split at a
 ·obtain⟨x,b,c⟩:=a;exact⟨x,st.Y,st.Z,by simp[b],c⟩
 ·obtain⟨x,b,c⟩:=a;exact⟨x,st.Y,st.Z,by simp[b],c⟩
 ·exact a.elim
def ja(r:O)(x:O)(Y:Hp)(_:Nat):Prop:=(freeze Y x).map (·.1)=some r
theorem zw{C:Ctx}{fn:Func}{code:Code}{args:zb}{r:O}(a:fn.body=some code)
  (h:vB C code ⟨ka args,fun _=>none,0⟩ (KW C.P fn (ja r))):zM C fn args=some r:=by
 obtain⟨x,Y',Z',b,c⟩:=wX a h;unfold zM;simp only[b];exact c
theorem XQ(d:Option Tmp)(op:Op)(t:TypeId)(p:String)(a:Array Edge)(y:Nat->Option Bool):Region.wanted ⟨d,op,t,p,a,none⟩ y=true:=rfl
theorem BA(C:Ctx)(a:Array Oper)(d:Option Tmp)(op:Op)(t:TypeId)(p:String)(b:Array Edge)(st:St):w7 C a ⟨d,op,t,p,b,none⟩ st =
  (zF C (get st.X) st.Y st.Z op).map fun r=>⟨put st.X d r.1,r.2.1,r.2.2⟩:=by
 simp only[w7,XQ,qa];cases zF C (get st.X) st.Y st.Z op<;>rfl
variable{dr:Prop}
section
variable{C:Ctx}{pf:FuncId->Bool}
def v8(a:Array Bool)(k:Nat):Prop:=a.getD k false=true
theorem XR{i n:Nat}(h:i<n):List.range n=List.range i++i::List.range' (i+1) (n-i-1):=by
 have a:List.range n=List.range' 0 i++List.range' i (n-i):=by rw[List.range_eq_range',show List.range' 0 n=List.range' 0 (i+(n-i))from by rw[show i+(n-i)=n from by omega],<-List.range'_append_1];simp
 rw[a,List.range_eq_range'];congr 1;rw[show n-i=(n-i-1)+1 from by omega,List.range'_succ];simp
theorem BB{a:Array Oper}{cm:Oper->Oper->Bool}{A:St->Prop}(D:iZ C a cm A)(E:bI cm a=true):∀(fuel t:Nat) (listed:Array Bool) (st:St),A st->listed.size=a.size->Kg a (v8 listed) ->
  ((List.range a.size).filter fun i=>!listed.getD i true).length<=fuel ->
  ∀r:St,jf C a ((List.range a.size).filter fun i=>!listed.getD i true) st=some r->jf C a (Region.linearise.go .any a fuel t listed []) st=some r:=by
 intro fuel
 induction fuel with
 |zero=>intro t listed st _ _ _ Q r c;rw[yh (Nat.le_zero.1 Q)]at c;exact c
 |succ fuel ih=>
  intro t listed st R S F Q r c;simp only[Region.linearise.go];change jf C a (match(Region.ready .any a listed)[t % (Region.ready .any a listed).length]? with
   |some i=>Region.linearise.go .any a fuel (t/(Region.ready .any a listed).length) (listed.setIfInBounds i true) [i]
   |none=>[].reverse) st=some r
  have q:∀k,k<a.size->listed.getD k true=listed.getD k false:=fun k hk=>by
   have:k<listed.size:=by omega
   simp[this]
  have d:∀i,i∈Region.ready .any a listed↔i<a.size/\listed.getD i true=false/\∃o,a[i]?=some o/\e8 (v8 listed) o:=by
   intro i;unfold Region.ready;simp only[List.mem_filter,vy,zs,Qw];constructor
   ·rintro⟨G,T,h3⟩;refine⟨G,T,a[i],by simp[G],fun e s u=>?_⟩;simp only[G,jO,zO,aV]at h3;have:=JS.1 h3 e (by simpa using s);simpa[u,v8]using this
   ·rintro⟨G,T,o,m,Y⟩;refine⟨G,T,?_⟩;simp only[m,zO,aV];refine JS.2 fun e s=>?_
    cases u:Region.binds .any e with
    |false=>rfl
    |true=>simpa[v8]using Y e (by simpa using s) u
  cases U:(Region.ready .any a listed)[t % (Region.ready .any a listed).length]? with
  |none=>
   have H:Region.ready .any a listed=[]:=by
    cases c:Region.ready .any a listed with
    |nil=>rfl
    |cons x xs=>rw[c]at U;have w:t % (x::xs).length<(x::xs).length:=Nat.mod_lt _ (by simp);simp at U;simp at w;omega
   have I:∀n k,k<n->k<a.size->listed.getD k true=true:=by
    intro n
    induction n with
    |zero=>intro k hk;omega
    |succ n J=>
     intro k hk g;by_cases W:k<n
     ·exact J k W g
     ·have SD:k=n:=by omega
      subst SD;cases u:listed.getD k true with
      |true=>rfl
      |false=>
       have m:a[k]?=some a[k]:=by simp[g]
       have v:k∈Region.ready .any a listed:=(d k).2 ⟨g,u,a[k],m,fun e s hbe=>by have w:=(XO E k _ m).1 e s hbe;have:=J e.on w (by omega);rw[q e.on (by omega)]at this;exact this⟩
       rw[H]at v;cases v
   have:((List.range a.size).filter fun i=>!listed.getD i true)=[]:=by rw[List.filter_eq_nil_iff];intro k hk;have g:=vy.1 hk;rw[I (k+1) k (by omega) g];simp
   rw[this]at c;exact c
  |some i=>
   simp only[];obtain⟨K,hul,o,m,Y⟩:=(d i).1 (zI U);rw[linearise_go_acc,List.reverse_singleton,List.singleton_append];have y:∀k,(listed.setIfInBounds i true).getD k true=if k=i then true else listed.getD k true:=by
    intro k;by_cases hk:k=i
    ·subst hk;have:k<listed.size:=by omega
     simp[this]
    ·rw[zg hk];simp[XH (fun h=>hk h.symm)]
   have hlf:∀k,v8 (listed.setIfInBounds i true) k↔k=i\/v8 listed k:=by
    intro k;unfold v8;by_cases hk:k=i
    ·subst hk;have:k<listed.size:=by omega
     simp[this]
    ·simp[XH (fun h=>hk h.symm),hk]
   have f:((List.range a.size).filter fun k=>!listed.getD k true)=((List.range i).filter fun k=>!listed.getD k true)++i::((List.range' (i+1) (a.size-i-1)).filter fun k=>!listed.getD k true):=by rw[XR K,List.filter_append,List.filter_cons_of_pos (by rw[hul];rfl)]
   have b:((List.range a.size).filter fun k=>!(listed.setIfInBounds i true).getD k true)=((List.range i).filter fun k=>!listed.getD k true)++((List.range' (i+1) (a.size-i-1)).filter fun k=>!listed.getD k true):=by
    rw[XR K,List.filter_append,List.filter_cons_of_neg (by rw[y];simp)];congr 1
    ·exact List.filter_congr fun k hk=>by have:=vy.1 hk;rw[y,zg (by omega)]
    ·exact List.filter_congr fun k hk=>by have:=(List.mem_range'_1.1 hk).1;rw[y,zg (by omega)]
   have L:Kg a (v8 (listed.setIfInBounds i true)):=by
    intro k o' hk l e s u;rw[hlf]at hk⊢;rcases hk with rfl|hk
    ·rw[m]at l;injection l with l
     subst l;exact .inr (Y e s u)
    ·exact .inr (F k o' hk l e s u)
   have p:((List.range a.size).filter fun k=>!(listed.setIfInBounds i true).getD k true).length<=fuel:=by rw[b];rw[f]at Q;simp only[qK,zd]at Q⊢;omega
   have M:=fun st R=>ih (t/(Region.ready .any a listed).length) (listed.setIfInBounds i true) st R (by simpa using S) L p
   rw[f]at c;have c:=JW D m _ _ _ r R (fun j hj=>by
    obtain⟨z,N⟩:=List.mem_filter.1 hj;have z:=vy.1 z;rcases(XO E i o m).2 j z with h|h
    ·have:=h (v8 listed) F Y;unfold v8 at this;rw[<-q j (by omega)]at this;rw[this]at N;cases N
    ·exact h) c
   simp only[jf,m]at c⊢;cases B:w7 C a o st with
   |none=>rw[B]at c;cases c
   |some P=>rw[B]at c;simp only[zH]at c⊢;exact M P (D.Wa i o st P m R B) r (by rw[b];exact c)
theorem gD(a:Array Oper)(st:St):∀(l:List Oper) (i:Nat),(∀k,l[k]?=a[i+k]?)->i+l.length=a.size->jf C a (List.range' i l.length) st=kh C a l st:=by
 intro l
 induction l generalizing st with
 |nil=>intro i _ _;rfl
 |cons o l d=>
  intro i c e;have f:a[i]?=some o:=by have:=c 0;simpa using this.symm
  simp only[zd,List.range'_succ,jf,f,kh];cases hs:w7 C a o st with
  |none=>rfl
  |some b=>simp only[zH];exact d b (i+1) (fun k=>by have:=c (k+1);simpa[zaU,iW 1 k]using this) (by simp at e;omega)
theorem JZ(a:Array Oper)(st:St):jf C a (List.range a.size) st=kh C a a.toList st:=by have:=gD (C:=C) a st a.toList 0 (by simp) (by simp);rw[List.range_eq_range'];simpa using this
theorem Fk{a:Array Oper}{f:Oper->Oper->Bool}{A:St->Prop}(c:iZ C a f A)(d:bI f a=true)(t:Nat)(st r:St)(g:A st)(h:kh C a a.toList st=some r):jf C a (Region.linearise .any a t) st=some r:=by
 unfold Region.linearise;refine BB c d a.size t _ st g (by simp) (fun k o b=>by unfold v8 at b;rw[Qx,Array.getElem?_replicate]at b;split at b<;>simp at b) (qm (List.length_filter_le _ _) (by simp)) r ?_
 have:((List.range a.size).filter fun i=>!(Array.replicate a.size false).getD i true)=List.range a.size:=by rw[List.filter_eq_self];intro i e;have e:=vy.1 e;simp[e]
 rw[this,JZ];exact h
end
section
variable{C:Ctx}{pf:FuncId->Bool}{w0:World}{S0 L:Nat->Prop}{N Z0:Nat}{G0:Nat->GI}{n0:Nat}
theorem bX{w:World}{S:Nat->Prop}{G:Nat->GI}{Z:Nat}{f:Array Oper}{X:Nat->O}{a:Act}(hs:∀t,zR w S G Z (X t) (a.tmps.getD t undef)):yielded f a.tmps=xB f X:=by
 funext j;unfold yielded xB;cases o:(f[j]?).bind (·.dst)with
 |none=>rfl
 |some d=>
  simp only[zH];have k:=hs d;have m:∀b:Bool,a.tmps.getD d undef=.bool b->a.tmps[d]?=some (.bool b):=by
   intro b l;by_cases g:d<a.tmps.size
   ·simp[g]at l⊢;exact l
   ·simp[g]at l;simp[undef]at l
  cases i:X d with
  |v x=>
   rw[i]at k;obtain⟨e,p⟩:=k.wj;cases x with
   |bool b=>simp only[m b e]
   |_=>
    cases n:a.tmps[d]? with
    |none=>rfl
    |some y=>
     have:a.tmps.getD d undef=y:=by simp[n]
     rw[this]at e;subst e;rfl
  |_=>
   cases n:a.tmps[d]? with
   |none=>rfl
   |some y=>
    have:a.tmps.getD d undef=y:=by simp[n]
    rw[i,this]at k;cases y with
    |bool b=>cases k with
     |c h=>cases h
    |_=>rfl
def oc(F:Fence):Prop:=F=Fence.wide\/∃l,F=Fence.wide.inRound l
theorem oc.fn{F:Fence}(h:oc F)(f:FuncId):F.fn f:=by rcases h with rfl|⟨l,rfl⟩<;>trivial
theorem oc.deep{F:Fence}(h:oc F):F.depth=none:=by rcases h with rfl|⟨l,rfl⟩<;>rfl
theorem oc.calls{F:Fence}(h:oc F){n:Nat}{P:Program}{f:FuncId}{args:Array Value}{w:World}{R:Ending->World->Prop}(a:Calls P f args w R):CallsIn F n P f args w R:=by
 rcases h with rfl|⟨l,rfl⟩
 ·exact ec.2 a
 ·exact(ec.2 a:CallsIn Fence.wide n P f args w R)
theorem ZD(k:∀g r,C.Γ g=some r->yU dr C.P g r){m:Array Oper}(u:∀(i:Nat) (o:Oper),m[i]?=some o->∀d,o.dst=some d->d<N){F:Fence}{n:Nat}(s:oc F){Q:Exit->Act->World->Prop} :
  ∀(l:List Nat) (st j:St) (a:Act) (w:World),jf C m l st=some j->aW dr C.P w0 S0 L N Z0 G0 n0 st a w->(∀T t,aW dr C.P w0 S0 L N Z0 G0 n0 j T t->Q .normal T t)->wpOpsIn F n C.P m Q l a w
 |[],st,j,a,w,h,hs,D=>by
  simp only[jf]at h;injection h with h
  subst h;exact D a w hs
 |i::l,st,j,a,w,h,hs,D=>by
  simp only[wpOpsIn];cases E:m[i]? with
  |none=>simp only[jf,E]at h;exact ZD k u s l st j a w h hs D
  |some o=>
   simp only[jf,E]at h;cases b:w7 C m o st with
   |none=>rw[b]at h;cases h
   |some U=>
    rw[b]at h;simp only[zH]at h;obtain⟨S,G,z⟩:=hs;unfold w7 at b;simp only[];rw[bX z.vT];split at b
    ·rename_i H;rw[zl H];split at b
     ·rename_i x Y Z A;injection b with b
      subst b;have I:∀c,o.op≠.defer c:=by intro c J;rw[J]at A;simp[zF]at A
      refine⟨fun f _=>s.fn f,?_⟩;rw[Oper.semAt_eq _ _ _ I];have K:=KS k z.inv (a:=a.eval) (fun y pv W=>Wf z.vT W) (o:=o) A;rcases K with⟨v,t,S',G',B,M,R⟩|⟨g,vs,B,J⟩
      ·have p:aW dr C.P w0 S0 L N Z0 G0 n0 ⟨put st.X o.dst x,Y,Z⟩ (a.put o.dst v) t:=⟨S',G',z.step M R (u i o E)⟩;have q:=ZD (n:=n) k u s l _ j _ t h p D;rcases B with B|⟨B,rfl⟩
       ·rw[B];exact q
       ·rw[B];exact q
      ·rw[B];refine⟨fun h=>by simp[s.deep]at h,s.calls (J.mono fun e t hh=>?_)⟩;obtain⟨v,S',G',rfl,M,R⟩:=hh;have p:aW dr C.P w0 S0 L N Z0 G0 n0 ⟨put st.X o.dst x,Y,Z⟩ (a.put o.dst v) t:=⟨S',G',z.step M R (u i o E)⟩;exact ZD k u s l _ j _ t h p D
     ·cases b
    ·rename_i H;rw[zg H];injection b with b
     subst b;exact⟨fun f _=>s.fn f,ZD k u s l _ j _ w h ⟨S,G,z.step (.refl z.inv) jn (u i o E)⟩ D⟩
def yG:Code->Bool
 | .seq a b=>yG a&&yG b
 | .cond _ a b=>yG a&&yG b
 | .block _ b=>yG b
 | .loop b=>yG b
 | .rangeFunc _ _ _ _=>false
 | .scope _=>false
 |_=>true
def jS(pf:FuncId->Bool)(c:Nat->List (Tmp×Tmp))(e:Nat->List Tmp)(f:FuncId->Bool)(N:Nat):Code->Bool
 | .region i g h=>g.all (fun o=>match o.dst with|some d=>decide (d<N)|none=>true)&&(!h||(bI (sj pf (c i) (e i) f g) g&&gx pf (c i) (e i) f g))
 | .seq a b=>jS pf c e f N a&&jS pf c e f N b
 | .cond _ a b=>jS pf c e f N a&&jS pf c e f N b
 | .block _ b=>jS pf c e f N b
 | .loop b=>jS pf c e f N b
 | .rangeFunc _ j a b=>j.all (fun p=>decide (p<N))&&yG a&&yG b&&jS pf c e f N a&&jS pf c e f N b
 |_=>true
theorem aW.drew{st:St}{a:Act}{w:World}(h:aW dr C.P w0 S0 L N Z0 G0 n0 st a w):aW dr C.P w0 S0 L N Z0 G0 n0 st a {w with drawn:=w.drawn+1}:=by obtain⟨S,G,c⟩:=h;refine⟨S,G,c.inv.same rfl,fun t=>(c.vT t).mono (fun b d=>⟨d,rfl⟩) (zi _) (fun _ _=>rfl),c.size,c.defers,c.s0,c.s1,c.own,c.fr.trans (Fr.drew w L) fun _ _ h=>h,c.up,c.loc⟩
theorem aW.top{st:St}{a:Act}{w:World}(h:aW dr C.P w0 S0 L N Z0 G0 n0 st a w):Kj st.Y st.Z:=by obtain⟨S,G,b⟩:=h;exact b.inv.top
theorem aW.SH{st:St}{a:Act}{w:World}(h:aW dr C.P w0 S0 L N Z0 G0 n0 st a w){t:Nat}{y:O}{Y1:Hp}(f:zS st.Y (st.X t)=some (y,Y1)):aW dr C.P w0 S0 L N Z0 G0 n0 ⟨qb st.X t y,Y1,st.Z⟩ a w:=by
 obtain⟨S,G,h⟩:=h;obtain⟨S',k,c,_,_⟩:=jy (dr:=dr) h.inv f (h.vT t);have d:∀b,yu st.Y G b->L b\/w0.heap.size<=b:=by rintro b ⟨id,blk,hid,rfl⟩;exact h.own id blk hid
 refine⟨S',G,k.inv,fun s=>?_,h.size,h.defers.step k,fun b e=>k.Wa (dr:=dr) b (h.s0 b e),fun b e=>?_,fun id b e=>?_,h.fr,h.up,h.loc⟩
 ·show zR w S' G st.Z (qb st.X t y s) _;by_cases hs:s=t
  ·subst hs;rw[q9];exact .c c
  ·rw[zc _ _ _ _ hs];exact(h.vT s).mono (k.same h.inv) (zi _) (fun _ _=>rfl)
 ·rcases k.from_ b e with h1|h1|h1
  ·exact h.s1 b h1
  ·exact .inr (d b h1)
  ·exact .inr (.inr (qm h.fr.size h1))
 ·rcases k.own id b e with h1|h1
  ·exact d _ h1
  ·exact .inr (qm h.fr.size h1)
theorem aW.iX{a:Act}{w:World}:∀{l:List Tmp} {st b:St},aW dr C.P w0 S0 L N Z0 G0 n0 st a w->AM.iX l st=some b->aW dr C.P w0 S0 L N Z0 G0 n0 b a w
 |[],st,b,h,e=>by
  simp only[AM.iX]at e;injection e with e
  rw[<-e];exact h
 |t::l,st,b,h,e=>by
  simp only[AM.iX]at e;split at e
  ·rename_i y Y1 c;exact aW.iX (h.SH c) e
  ·cases e
def Ym(S:Nat->Prop)(G:Nat->GI)(Y:Hp)(b:Nat):Prop:=¬S b/\∀id blk,Y id=some blk->(G id).g≠b
theorem Ym.step{P:Program}{Y Y':Hp}{Z Z':Nat}{S S':Nat->Prop}{G G':Nat->GI}{w d:World}{b:Nat}(h:Ym S G Y b)(k:jN dr P Y Z S G w Y' Z' S' G' d)(f:b<w.heap.size):Ym S' G' Y' b:=by
 refine⟨fun hs=>?_,fun id blk hid e=>?_⟩
 ·rcases k.from_ b hs with h1|⟨id,blk,h1,c⟩|h1
  ·exact h.1 h1
  ·exact h.2 id blk h1 c
  ·omega
 ·rcases k.own id blk hid with⟨id',a,h1,c⟩|h1
  ·exact h.2 id' a h1 (c.trans e)
  ·omega
theorem Ym.same{P:Program}{Y Y':Hp}{Z Z':Nat}{S S':Nat->Prop}{G G':Nat->GI}{w a:World}{b:Nat}(h:Ym S G Y b)(k:jN dr P Y Z S G w Y' Z' S' G' a)(c:b<w.heap.size):a.heap[b]?=w.heap[b]?:=
 k.fr.block b c fun⟨id,blk,d,e⟩=>h.2 id blk d e
section
variable{P:Program}{S:Nat->Prop}{G:Nat->GI}
theorem Inv.frame{w d:World}{Y:Hp}{Z:Nat}{B:Nat->Prop}(h:Inv P w S G Y Z)(e:Fr dr w B d)(f:∀b,B b->Ym S G Y b):Inv P d S G Y Z:=by
 have g:∀b,S b->S b/\d.heap[b]?=w.heap[b]?:=fun b a=>⟨a,e.block b (h.st b a) fun c=>(f b c).1 a⟩
 exact⟨fun b a=>q8 (h.st b a) e.size,h.top,fun id b a=>(h.live id b a).mono g (zi _) (fun _ _=>rfl) (e.block _ (h.live id b a).lt fun c=>(f _ c).2 id b a rfl),h.apart,h.inj,h.KJ.mono g⟩
theorem Marks.frame{w a:World}{Y:Hp}{B:Nat->Prop}{ds:List Deferred}(h:Marks n0 w S Y G ds)(b:Fr dr w B a)(f:∀D,aj D∈ds->¬B D):Marks n0 a S Y G ds:=by obtain⟨g,i,e,j,k⟩:=h;refine⟨qm g b.size,i,e,j,fun D c=>?_⟩;obtain⟨l,d,m⟩:=k D c;exact⟨l,(b.block D (qd.1 d).1 (f D (by rw[e];exact List.mem_map_of_mem c))).trans d,m⟩
theorem lR{D a:Nat}(h:aj D=aj a):D=a:=by
 unfold aj at h;injection h with h
 injection h
theorem Marks.at{w:World}{Y:Hp}{ds:List Deferred}(h:Marks n0 w S Y G ds){D:Nat}(a:aj D∈ds):n0<=D/\w.heap[D]?=some (.deferred (some []))/\¬S D/\∀id b,Y id=some b->(G id).g≠D:=by obtain⟨i,j,rfl,k,c⟩:=h;obtain⟨d,e,f⟩:=zZ.1 a;rw[<-lR f];exact c d e
theorem xo.frame{st:St}{a:Act}{w e:World}{B:Nat->Prop}(h:xo dr P w0 S0 L N Z0 G0 n0 st S G a w)(c:Fr dr w B e)(g:∀b,B b->Ym S G st.Y b)(j:∀b,B b->L b\/w0.heap.size<=b)
  (k:∀D,aj D∈a.defers->¬B D):xo dr P w0 S0 L N Z0 G0 n0 st S G a e:=by
 have l:∀b,S b->S b/\e.heap[b]?=w.heap[b]?:=fun b d=>⟨d,c.block b (h.inv.st b d) fun f=>(g b f).1 d⟩
 refine⟨h.inv.frame c g,fun t=>(h.vT t).mono l (zi _) (fun _ _=>rfl),h.size,h.defers.frame c k,h.s0,h.s1,h.own,h.fr.trans c fun b d m=>?_,h.up,h.loc⟩;rcases j b m with i|i
 ·exact i
 ·omega
theorem xo.HH{st:St}{a:Act}{w d:World}{B:Nat->Prop}(h:xo dr P w0 S0 L N Z0 G0 0 st S G a w)(e:Fr dr w B d)(g:∀b,B b->Ym S G st.Y b)(i:∀D,aj D∈a.defers->¬B D):xo dr P d S (yu st.Y G) N st.Z G 0 st S G a d:=by
 have j:∀b,S b->S b/\d.heap[b]?=w.heap[b]?:=fun b c=>⟨c,e.block b (h.inv.st b c) fun f=>(g b f).1 c⟩
 exact⟨h.inv.frame e g,fun t=>(h.vT t).mono j (zi _) (fun _ _=>rfl),h.size,h.defers.frame e i,fun _ h=>h,fun _ h=>.inl h,fun id b c=>.inl ⟨id,b,c,rfl⟩,Fr.refl _ _,zi _,fun _ _=>rfl⟩
theorem xo.inner{st:St}{a:Act}{w:World}(h:xo dr P w0 S0 L N Z0 G0 n0 st S G a w):xo dr P w S (yu st.Y G) N st.Z G 0 st S G {a with defers:=[]} w:=
 ⟨h.inv,h.vT,h.size,.nil (kj _),fun _ h=>h,fun _ h=>.inl h,fun id b c=>.inl ⟨id,b,c,rfl⟩,Fr.refl _ _,zi _,fun _ _=>rfl⟩
theorem xo.stp{Y:Hp}{Z:Nat}{S':Nat->Prop}{G':Nat->GI}{st:St}{a:Act}{w b:World}(h:xo dr P w S (yu Y G) N Z G n0 st S' G' a b):jN dr P Y Z S G w st.Y st.Z S' G' b:=⟨h.inv,h.up,h.loc,h.s0,h.s1,h.own,h.fr⟩
end
def lS(dr:Prop)(P:Program)(g:FuncId)(it:vV):Prop:=
 (∃fn,P.funcs[g]?=some fn/\(fn.name== "runtime.NumGoroutine")=false/\fn.body.isNone=false) /\
 ∀cap Y Z xs Y1,it cap Y=some (xs,Y1)->∃us:List Value,xs=us.map O.v/\(∀u∈us,lit u=true)/\(∀id b,Y1 id=some b->Y id=some b) /\
  ∀(w:World) (S:Nat->Prop) (G:Nat->GI) (vs:List Value),Inv P w S G Y Z->Zip (zR w S G Z) cap vs ->
   ∃B:Nat->Prop,(∀b,B b->yu Y G b/\Ym S G Y1 b) /\
    ∀(n l:Nat) (J c:List Value->World->Prop),
     (∀pre W a,J pre W->Fr dr W B a->J pre a)->(∀pre W a,c pre W->Fr dr W B a->c pre a)->(∀pre W,J pre W->tm P W fun b=>b<W.heap.size) ->
     (∀pre x W,J pre W->us[pre.length]?=some x->YieldAt Fence.wide n P l #[x] W fun e a=>(e=.returned (.bool true)/\J (pre++[x]) a/\(∀b,B b->a.heap[b]?=W.heap[b]?)/\W.heap.size<=a.heap.size)\/(e=.returned (.bool false)/\c (pre++[x]) a)) ->
     ∀W,J [] W->(∀b,B b->W.heap[b]?=w.heap[b]?)->w.heap.size<=W.heap.size ->
      CallsIn Fence.wide (n+1) P g (#[.func (.yield l) #[] #[]]++vs.toArray) W fun e a=>(∃v,e=.returned v)/\(J us a\/∃pre,c pre a)
abbrev tW:=lS True
theorem Fl{w:World}{S:Nat->Prop}{G:Nat->GI}{Z:Nat}{u:Value}(h:lit u=true):zR w S G Z (.v u) u:=.c (.v h)
theorem oY{w:World}{l:Nat}(o:Obj)(B:Nat->Prop)(a:B l):Fr dr w B (w.putObj l o):=
 ⟨rfl,rfl,rfl,by simp,fun _=>zi _,fun k _ b=>SA fun e=>b (e ▸ a)⟩
theorem bY(hΓ:∀g spec,C.Γ g=some spec->yU dr C.P g spec)(hpf:∀g spec,pf g=true->C.Γ g=some spec->xu spec)(hbk:∀g spec,C.bk g=true->C.Γ g=some spec->xN spec)(hit:∀g it,C.it g=some it->lS dr C.P g it)(hm:C.P.follows .mixedOrders=true) :
  ∀(c:Code),jS pf C.dyn C.AV C.bk N c=true->∀(F:Fence) (n:Nat),oc F->(F=Fence.wide\/yG c=true)->∀(w0:World) (S0 L:Nat->Prop) (Z0:Nat) (G0:Nat->GI) (n0:Nat) (st st':St) (e:Exit) (a:Act) (w:World) (Q:Exit->Act->World->Prop),n0<=w0.heap.size->qx C c st=some (e,st')->aW dr C.P w0 S0 L N Z0 G0 n0 st a w ->
   (∀a' w',aW dr C.P w0 S0 L N Z0 G0 n0 st' a' w'->Q e a' w')->c.wpIn F n C.P Q a w:=by
 intro c
 induction c with
 |skip=>
  intro _ F n hF _ w0 S0 L Z0 G0 n0 st st' e a w Q _ h hs hQ;simp only[qx]at h;injection h with h
  injection h with e1 e2;subst e1;subst e2;exact wpIn_skip (hQ a w hs)
 |region id ops draw=>
  intro hok F n hF _ w0 S0 L Z0 G0 n0 st st' e a w Q _ h hs hQ;simp only[jS,zs,qU,Qw]at hok;obtain⟨hN0,hdraw⟩:=hok;have hN:∀(i:Nat) (o:Oper),ops[i]?=some o->∀d,o.dst=some d->d<N:=by intro i o ho d hd;have:=JS.1 hN0 o (ae ho);simpa[hd]using this
  simp only[qx]at h;split at h
  case h_2=>cases h
  rename_i st1 hth;have hs:=hs.iX hth;clear hth;generalize st1=st at h hs;split at h
  case isFalse=>cases h
  rename_i hA;split at h
  ·rename_i s hs1;injection h with h
   injection h with e1 e2;subst e1;subst e2;cases draw with
   |false=>exact wpIn_region (ZD hΓ hN hF _ st s a w (by rw[JZ];exact hs1) hs hQ)
   |true=>
    have hd:bI (sj pf (C.dyn id) (C.AV id) C.bk ops) ops=true/\gx pf (C.dyn id) (C.AV id) C.bk ops=true:=by simpa using hdraw
    refine wpIn_region_draw fun t=>?_
    simp only[Region.schedule,hm,Bool.true_or,qa];exact ZD hΓ hN hF _ st s a _ (Fk (Br hpf hbk hd.2) hd.1 _ _ _ ⟨hA,fun _=>hs.top⟩ hs1) hs.drew hQ
  ·cases h
 |seq x y ihx ihy=>
  intro hok F n hF hno w0 S0 L Z0 G0 n0 st st' e a w Q hn0 h hs hQ;simp only[jS,zs]at hok;have hnx:F=Fence.wide\/yG x=true:=hno.imp (fun h=>h) fun h=>by simp only[yG,zs]at h;exact h.1
  have hny:F=Fence.wide\/yG y=true:=hno.imp (fun h=>h) fun h=>by simp only[yG,zs]at h;exact h.2
  simp only[qx]at h;split at h
  ·rename_i s hx;exact wpIn_seq (ihx hok.1 F n hF hnx w0 S0 L Z0 G0 n0 st s .normal a w _ hn0 hx hs fun a' w' hs'=>ihy hok.2 F n hF hny w0 S0 L Z0 G0 n0 s st' e a' w' Q hn0 h hs' hQ)
  ·rename_i r hr;refine wpIn_seq (ihx hok.1 F n hF hnx w0 S0 L Z0 G0 n0 st st' e a w _ hn0 h hs fun a' w' hs'=>?_);have:=hQ a' w' hs';cases e<;>first
    |exact this
    |exact(hr _ h).elim
 |cond c x y ihx ihy=>
  intro hok F n hF hno w0 S0 L Z0 G0 n0 st st' e a w Q hn0 h hs hQ;simp only[jS,zs]at hok;have hnx:F=Fence.wide\/yG x=true:=hno.imp (fun h=>h) fun h=>by simp only[yG,zs]at h;exact h.1
  have hny:F=Fence.wide\/yG y=true:=hno.imp (fun h=>h) fun h=>by simp only[yG,zs]at h;exact h.2
  simp only[qx]at h;obtain⟨S,G,hS⟩:=hs;split at h
  ·rename_i hc;obtain⟨hv,_⟩:=(Wf hS.vT hc).wj;exact wpIn_cond_true hv (ihx hok.1 F n hF hnx w0 S0 L Z0 G0 n0 st st' e a w Q hn0 h ⟨S,G,hS⟩ hQ)
  ·rename_i hc;obtain⟨hv,_⟩:=(Wf hS.vT hc).wj;exact wpIn_cond_false hv (ihy hok.2 F n hF hny w0 S0 L Z0 G0 n0 st st' e a w Q hn0 h ⟨S,G,hS⟩ hQ)
  ·cases h
 |block id b ih=>
  intro hok F n hF hno w0 S0 L Z0 G0 n0 st st' e a w Q hn0 h hs hQ;simp only[jS]at hok;have hnb:F=Fence.wide\/yG b=true:=hno.imp (fun h=>h) fun h=>by simp only[yG]at h;exact h
  simp only[qx]at h;split at h
  ·rename_i i s hb;refine wpIn_block (ih hok F n hF hnb w0 S0 L Z0 G0 n0 st s (.exit i) a w _ hn0 hb hs fun a' w' hs'=>?_);unfold Exit.inBlock;split at h
   ·rename_i hi;injection h with h
    injection h with e1 e2;subst e1;subst e2;simp[hi,hQ a' w' hs']
   ·rename_i hi;injection h with h
    injection h with e1 e2;subst e1;subst e2;simp[hi,hQ a' w' hs']
  ·rename_i r hr;refine wpIn_block (ih hok F n hF hnb w0 S0 L Z0 G0 n0 st st' e a w _ hn0 h hs fun a' w' hs'=>?_);have:=hQ a' w' hs';cases e<;>first
    |exact this
    |exact(hr _ _ h).elim
 |loop b ih=>
  intro hok F n hF hno w0 S0 L Z0 G0 n0 st st' e a w Q hn0 h hs hQ;simp only[jS]at hok;have hnb:F=Fence.wide\/yG b=true:=hno.imp (fun h=>h) fun h=>by simp only[yG]at h;exact h
  simp only[qx]at h;obtain⟨m,hm'⟩:=xK h;refine wpIn_loop_rounds m ?_;clear h
  induction m generalizing st a w with
  |zero=>simp[iter]at hm'
  |succ m ihn=>
   rw[roundsIn_succ];simp only[iter]at hm';split at hm'
   ·rename_i s hb;exact ih hok F n hF hnb w0 S0 L Z0 G0 n0 st s .normal a w _ hn0 hb hs fun a' w' hs'=>ihn s a' w' hs' hm'
   ·rename_i r hr;refine ih hok F n hF hnb w0 S0 L Z0 G0 n0 st st' e a w _ hn0 hm' hs fun a' w' hs'=>?_
    have:=hQ a' w' hs';cases e<;>first
     |exact this
     |exact(hr _ hm').elim
 |rangeFunc f ps x y ihx ihy=>
  intro hok F n hF hno w0 S0 L Z0 G0 n0 st st' e a w Q hn0 h hs hQ;obtain rfl:F=Fence.wide:=hno.resolve_right (by simp[yG]);simp only[jS,zs]at hok;obtain⟨⟨⟨⟨hps,hnx⟩,hny⟩,hox⟩,hoy⟩:=hok;simp only[qx]at h;split at h
  case h_2=>cases h
  rename_i p g cap hpl hfg;split at h
  case h_2=>cases h
  rename_i it hIt;split at h
  case h_2=>cases h
  rename_i xs Y1 hx;split at h
  case h_2=>cases h
  rename_i e0 Y2 HI hro;injection h with h
  injection h with e1 e2;subst e1;subst e2;obtain⟨S,G,hS⟩:=hs;obtain⟨⟨gfn,gf1,gf2,gf3⟩,hitS⟩:=hit g it hIt;obtain⟨us,rfl,hlit,hsub,hrun⟩:=hitS cap st.Y st.Z _ Y1 hx;obtain⟨aZ,vs,ev,l1,l2,r1,r2⟩:=(Wf hS.vT hfg).iY;obtain rfl:aZ=#[]:=by simpa using l1.symm
  obtain⟨B,hB,hcalls⟩:=hrun w S G vs.toList hS.inv ⟨by simpa using l2,fun j pv u hj hu=>r2 j pv u hj (by simpa using hu)⟩;have hBlt:∀b,B b->b<w.heap.size:=fun b hb=>by obtain⟨id,blk,h1,rfl⟩:=(hB b hb).1;exact(hS.inv.live id blk h1).lt
  have hpN:p<N:=by have:=JS.1 hps p (by rw[<-Array.mem_toList_iff,hpl];simp);simpa using this
  have hps1:ps=#[p]:=by apply Ev.1;rw[hpl]
  subst hps1;refine wpIn_rangeFunc fun fn hfn=>?_
  obtain⟨rec,hrec⟩:∃rec:LoopState->Option Code->Loop,rec=fun s pe=>{state:=s,pending:=pe,fn,tmps:=a.tmps,params:=#[p],assign:=x,body:=y,defers:=w.heap.size}:=⟨_,rfl⟩
  obtain⟨W1,hW1⟩:=yX ((w.alloc (.deferred (some []))).alloc (.loop (rec .ready none)));have hL1:W1.heap[w.heap.size+1]?=some (.loop (rec .ready none)):=by rw[<-hW1];have:=World.alloc_heap_new (w.alloc (.deferred (some []))) (.loop (rec .ready none));rwa [World.size_alloc]at this
  have hK1:W1.heap[w.heap.size]?=some (.deferred (some [])):=by rw[<-hW1];exact(Below.heap_alloc _ _ _ (by simp)).trans (World.alloc_heap_new w _)
  have hsz1:W1.heap.size=w.heap.size+2:=by rw[<-hW1];simp
  have hold1:∀b,b<w.heap.size->W1.heap[b]?=w.heap[b]?:=fun b hb=>by rw[<-hW1];exact(Below.heap_alloc _ _ _ (by simp;omega)).trans (Below.heap_alloc w _ b hb)
  have fr1:Fr dr w (fun _=>False) W1:=⟨by rw[<-hW1];rfl,by rw[<-hW1];rfl,by rw[<-hW1];rfl,by omega,fun _=>by rw[<-hW1];exact zi _,fun k hk _=>hold1 k hk⟩;obtain⟨l,hl⟩:∃l,l=w.heap.size+1:=⟨_,rfl⟩;obtain⟨a1,ha1⟩:∃a1:Act,a1={a with defers:=aj w.heap.size::a.defers}:=⟨_,rfl⟩;have hfreshAway:∀b,w.heap.size<=b->Ym S G Y1 b:=fun b hb=>⟨fun hs=>by have:=hS.inv.st b hs;omega,fun id blk hid he=>by have:=(hS.inv.live id blk (hsub id blk hid)).lt;omega⟩
  have hk0:Inv C.P W1 S G Y1 st.Z:=by have h1:Inv C.P w S G Y1 st.Z:=⟨hS.inv.st,fun id b hb=>hS.inv.top id b (hsub id b hb),fun id b hb=>hS.inv.live id b (hsub id b hb),fun id b hb=>hS.inv.apart id b (hsub id b hb),fun id id' b b' hb hb' he=>hS.inv.inj id id' b b' (hsub id b hb) (hsub id' b' hb') he,hS.inv.KJ⟩;exact h1.frame fr1 (fun _ h=>h.elim)
  have hsim1:xo dr C.P w0 S0 L N Z0 G0 n0 ⟨st.X,Y1,st.Z⟩ S G a1 W1:=by
   subst ha1;obtain⟨hd0,Ds,hd1,hd2,hd3⟩:=hS.defers;refine⟨hk0,fun t=>(hS.vT t).mono (fun b hb=>⟨hb,hold1 b (hS.inv.st b hb)⟩) (zi _) (fun _ _=>rfl),hS.size,⟨by omega,w.heap.size::Ds,by simp[hd1],?_,?_⟩,hS.s0,hS.s1,fun id b hb=>hS.own id b (hsub id b hb),hS.fr.trans fr1 (fun _ _ h=>h.elim),hS.up,hS.loc⟩
   ·refine List.nodup_cons.2 ⟨fun hm=>?_,hd2⟩;have:=(qd.1 (hd3 _ hm).2.1).1;omega
   ·intro D hD;rcases zJ.1 hD with rfl|hD
    ·exact⟨hd0,hK1,(hfreshAway _ (zi _))⟩
    ·obtain⟨g1,g2,g4,g3⟩:=hd3 D hD;exact⟨g1,(hold1 D (qd.1 g2).1).trans g2,g4,fun id b hb=>g3 id b (hsub id b hb)⟩
  have hsmall:w0.heap.size<=w.heap.size:=hS.fr.size;have hBL:∀b,B b->L b\/w0.heap.size<=b:=fun b hb=>by obtain⟨id,blk,h1,rfl⟩:=(hB b hb).1;exact hS.own id blk h1
  have hmk:∀D,aj D∈a1.defers->¬B D/\¬D=l:=by
   intro D hD;subst ha1;rcases zJ.1 hD with h1|h1
   ·obtain rfl:=lR h1;exact⟨fun hb=>by have:=hBlt _ hb;omega,by omega⟩
   ·obtain⟨g1,g2,_,g3⟩:=hS.defers.at h1;have:=(qd.1 g2).1;refine⟨fun hb=>?_,by omega⟩;obtain⟨id,blk,h2,h3⟩:=(hB D hb).1;exact g3 id blk h2 h3
  have hlB:¬B l:=fun hb=>by have:=hBlt l hb;omega
  obtain⟨Good,hGood⟩:∃Good:Hp->Nat->(Nat->Prop)->(Nat->GI)->LoopState->Option Code->World->Prop,Good=fun Y Z S G s pe W=>
    xo dr C.P w0 S0 L N Z0 G0 n0 ⟨st.X,Y,Z⟩ S G a1 W/\(∀b,B b->Ym S G Y b)/\Ym S G Y l/\W.heap[l]?=some (.loop (rec s pe))/\w.heap.size<=W.heap.size:=⟨_,rfl⟩
  have good_frame:∀{Y Z S G s pe W W'},Good Y Z S G s pe W->Fr dr W B W'->Good Y Z S G s pe W':=by intro Y Z S G s pe W W' hg fr;subst hGood;obtain⟨g1,g2,g3,g4,g5⟩:=hg;exact⟨g1.frame fr g2 hBL (fun D hD=>(hmk D hD).1),g2,g3,(fr.block l (qd.1 g4).1 hlB).trans g4,qm g5 fr.size⟩
  have good_put:∀{Y Z S G s pe W} (s':LoopState) (pe':Option Code),Good Y Z S G s pe W->Good Y Z S G s' pe' (W.putObj l (.loop (rec s' pe'))):=by intro Y Z S G s pe W s' pe' hg;subst hGood;obtain⟨g1,g2,g3,g4,g5⟩:=hg;refine⟨g1.frame (oY _ (fun b=>b=l) rfl) (fun b hb=>hb ▸ g3) (fun b hb=>.inr (by omega)) (fun D hD=>(hmk D hD).2),g2,g3,World.putObj_heap_same (qd.1 g4).1,by simpa using g5⟩
  have Jj:∀{Y Z S G s pe W Y' Z' S' G' W'},Good Y Z S G s pe W->jN dr C.P Y Z S G W Y' Z' S' G' W'->Good Y' Z' S' G' s pe W'/\∀b,B b->W'.heap[b]?=W.heap[b]?:=by intro Y Z S G s pe W Y' Z' S' G' W' hg k;subst hGood;obtain⟨g1,g2,g3,g4,g5⟩:=hg;have hll:=(qd.1 g4).1;refine⟨⟨g1.step (dst:=none) k jn (fun _ h=>by cases h),fun b hb=>(g2 b hb).step k (q8 (hBlt b hb) g5),g3.step k hll,(g3.same k hll).trans g4,qm g5 k.fr.size⟩,fun b hb=>(g2 b hb).same k (q8 (hBlt b hb) g5)⟩
  obtain⟨J,hJ⟩:∃J:List Value->World->Prop,J=fun pre W=>∃Y Z S G,Good Y Z S G .ready none W/\We (qx C x) (qx C y) st.X p ((us.drop pre.length).map O.v) Y Z=some (e0,Y2,HI):=⟨_,rfl⟩
  obtain⟨Jx,hJx⟩:∃Jx:List Value->World->Prop,Jx=fun _ W=>∃c S G,Good Y2 HI S G .done (some c) W/\(c=.ret/\e0=.ret\/∃i,c=.exit i/\e0=.exit i):=⟨_,rfl⟩
  have hJ0:J [] W1:=by subst hJ;refine⟨Y1,st.Z,S,G,?_,hro⟩;subst hGood;exact⟨hsim1,fun b hb=>(hB b hb).2,hfreshAway l (by omega),by rw[hl];exact hL1,by omega⟩
  have gf2':¬gfn.name= "runtime.NumGoroutine":=by simpa using gf2
  have gf3':¬gfn.body=none:=by intro h;simp[h]at gf3
  refine⟨l,[aj w.heap.size],W1,{target:=.fn (.func g) vs,args:=#[.func (.yield l) #[] #[]]},W1,g,#[.func (.yield l) #[] #[]]++vs,W1,?_,?_,?_,?_,(fun h=>by simp[Fence.wide]at h),?_⟩
  ·rw[hl,<-hW1,hrec];exact run_enterLoop_outer _ _ _ _ _
  ·simp only[resolve,ev];simp[go_sem]
  ·intro f' _;trivial
  ·simp[invoke,callFunc,gf1,gf2',gf3']
  ·have hround:∀pre u W,J pre W->us[pre.length]?=some u->YieldAt Fence.wide 0 C.P l #[u] W fun e W'=>(e=.returned (.bool true)/\J (pre++[u]) W'/\(∀b,B b->W'.heap[b]?=W.heap[b]?)/\W.heap.size<=W'.heap.size)\/(e=.returned (.bool false)/\Jx (pre++[u]) W'):=by
    intro pre u W hj hu;subst hJ;obtain⟨Y,Z,S1,G1,hg,hr⟩:=hj;obtain⟨hlt,hue⟩:=ze.1 hu;rw[zj hlt,hue]at hr;simp only[zL,We]at hr;split at hr
    case h_2=>cases hr
    rename_i s1 hfx;have hg1:=hg;rw[hGood]at hg1;obtain⟨g1,g2,g3,g4,g5⟩:=hg1;have hy:=run_yield (P:=C.P) (args:=#[u]) g4 (by rw[hrec];rfl);rw[hrec]at hy;refine⟨fn,_,x,y,hy,roundIn_of_wpIn (F:=Fence.wide) trivial ?_⟩;have hin:=(g1.step (dst:=some p) (u:=u) (.refl g1.inv) (Fl (hlit u (zI hu))) (fun d hd=>by cases hd;exact hpN)).inner;have htm:(#[p].zip #[u]).foldl (fun tmps (t,a)=>tmps.setIfInBounds t a) a.tmps=a.tmps.setIfInBounds p u:=by simp
    rw[ha1]at hin;rw[htm];refine ihx hox (Fence.wide.inRound l) 0 (.inr ⟨l,rfl⟩) (.inr hnx) W S1 (yu Y G1) Z G1 0 _ s1 .normal _ W _ (kj _) hfx ⟨S1,G1,hin⟩ fun a2 w2 hs2=>?_
    obtain⟨S2,G2,h2⟩:=hs2;obtain⟨hg2,hb2⟩:=Jj hg h2.stp;have hl2:w2.heap[l]?=some (.loop (rec .ready none)):=by rw[hGood]at hg2;exact hg2.2.2.2.1
    have hbr:=run_beginRound (P:=C.P) hl2 (by rw[hrec]);have hrb:({rec .ready none with state:=.busy}:Loop)=rec .busy none:=by rw[hrec]
    rw[hrb]at hbr;refine⟨_,hbr,?_⟩;have hg3:=good_put .busy none hg2;have hal2:Ym S2 G2 s1.Y l:=by rw[hGood]at hg2;exact hg2.2.2.1
    have h3:=h2.HH (oY (.loop (rec .busy none)) (fun b=>b=l) rfl) (fun b hb=>hb ▸ hal2) (fun D hD e=>by have:=(h2.defers.at hD).2.1;rw[e,hl2]at this;cases this)
    cases hfy:qx C y s1 with
    |none=>rw[hfy]at hr;cases hr
    |some r2=>
     obtain⟨e2,s2⟩:=r2;rw[hfy]at hr;refine ihy hoy (Fence.wide.inRound l) 0 (.inr ⟨l,rfl⟩) (.inr hny) _ S2 (yu s1.Y G2) s1.Z G2 0 s1 s2 e2 a2 _ _ (kj _) hfy ⟨S2,G2,h3⟩ fun a4 w4 hs4=>?_
     obtain⟨S4,G4,h4⟩:=hs4;obtain⟨hg4,hb4⟩:=Jj hg3 h4.stp;have hl4:w4.heap[l]?=some (.loop (rec .busy none)):=by rw[hGood]at hg4;exact hg4.2.2.2.1
     have hbb:∀b,B b->w4.heap[b]?=W.heap[b]?:=fun b hb=>(hb4 b hb).trans ((SA (k:=b) (r:=l) (fun e=>hlB (by rw[<-e];exact hb))).trans (hb2 b hb))
     have hsz:W.heap.size<=w4.heap.size:=by have q1:=h2.fr.size;have q2:=h4.fr.size;rw[World.putObj_size]at q2;exact qm q1 q2
     cases e2 with
     |normal=>
      have he:=run_endRound (P:=C.P) none hl4;have hrr:({rec .busy none with state:=if(none:Option Code).isNone then .ready else .done,pending:=none}:Loop)=rec .ready none:=by rw[hrec];rfl
      rw[hrr]at he;refine⟨_,_,he,.inl ⟨rfl,⟨s2.Y,s2.Z,S4,G4,good_put .ready none hg4,by simpa using hr⟩,fun b hb=>(SA (k:=b) (r:=l) (fun e=>hlB (by rw[<-e];exact hb))).trans (hbb b hb),by simpa using hsz⟩⟩
     |ret=>
      have he:=run_endRound (P:=C.P) (some .ret) hl4;have hrr:({rec .busy none with state:=if(some Code.ret:Option Code).isNone then .ready else .done,pending:=some .ret}:Loop)=rec .done (some .ret):=by rw[hrec];rfl
      rw[hrr]at he;simp only at hr;injection hr with hr
      injection hr with r1 hr;injection hr with r2 r3;subst r1;subst r2;subst r3;refine⟨_,_,he,.inr ⟨rfl,?_⟩⟩;rw[hJx];exact⟨.ret,S4,G4,good_put .done (some .ret) hg4,.inl ⟨rfl,rfl⟩⟩
     |exit i=>
      have he:=run_endRound (P:=C.P) (some (.exit i)) hl4;have hrr:({rec .busy none with state:=if(some (Code.exit i):Option Code).isNone then .ready else .done,pending:=some (.exit i)}:Loop)=rec .done (some (.exit i)):=by rw[hrec];rfl
      rw[hrr]at he;simp only at hr;injection hr with hr
      injection hr with r1 hr;injection hr with r2 r3;subst r1;subst r2;subst r3;refine⟨_,_,he,.inr ⟨rfl,?_⟩⟩;rw[hJx];exact⟨.exit i,S4,G4,good_put .done (some (.exit i)) hg4,.inr ⟨i,rfl,rfl⟩⟩
     |_=>cases hr
   have hcl:=hcalls 0 l J Jx (fun pre W W' hj fr=>by
     subst hJ;obtain⟨Y,Z,S1,G1,hg,hr⟩:=hj;exact⟨Y,Z,S1,G1,good_frame hg fr,hr⟩) (fun pre W W' hj fr=>by
     subst hJx;obtain⟨c,S1,G1,hg,hr⟩:=hj;exact⟨c,S1,G1,good_frame hg fr,hr⟩) (fun pre W hj=>by
     subst hJ;obtain⟨Y,Z,S1,G1,hg,hr⟩:=hj;rw[hGood]at hg;exact hg.1.inv.KJ.mono fun b hb=>⟨hg.1.inv.st b hb,rfl⟩) hround W1 hJ0 (fun b hb=>hold1 b (hBlt b hb)) (by omega)
   refine ec.2 ((ec.1 hcl).mono ?_);rintro e W2 ⟨⟨v,rfl⟩,hj|⟨pre,hj⟩⟩
   ·rw[hJ]at hj;obtain⟨Y,Z,S1,G1,hg,hr⟩:=hj;rw[zE]at hr;simp only[xn,We]at hr;injection hr with hr
    injection hr with r1 hr;injection hr with r2 r3;subst r1;subst r2;subst r3;have hl2:W2.heap[l]?=some (.loop (rec .ready none)):=by rw[hGood]at hg;exact hg.2.2.2.1
    have he:=run_endLoop (P:=C.P) hl2 (by rw[hrec];simp);have hrr:({rec .ready none with state:=.exhausted}:Loop)=rec .exhausted none:=by rw[hrec]
    have hrp:(rec .ready none).pending=none:=by rw[hrec]
    rw[hrr,hrp]at he;have hg':=good_put .exhausted none hg;rw[hGood]at hg';have hq:=hQ a1 _ ⟨S1,G1,hg'.1⟩;rw[ha1]at hq;exact⟨none,_,he,hq⟩
   ·rw[hJx]at hj;obtain⟨c,S1,G1,hg,hc⟩:=hj;have hl2:W2.heap[l]?=some (.loop (rec .done (some c))):=by rw[hGood]at hg;exact hg.2.2.2.1
    have he:=run_endLoop (P:=C.P) hl2 (by rw[hrec];simp);have hrr:({rec .done (some c)with state:=.exhausted}:Loop)=rec .exhausted (some c):=by rw[hrec]
    have hrp:(rec .done (some c)).pending=some c:=by rw[hrec]
    rw[hrr,hrp]at he;have hg':=good_put .exhausted (some c) hg;rw[hGood]at hg';have hq:=hQ a1 _ ⟨S1,G1,hg'.1⟩;rw[ha1]at hq;refine⟨some c,_,he,?_⟩;rcases hc with⟨rfl,rfl⟩|⟨i,rfl,rfl⟩
    ·exact wpIn_ret hq
    ·exact wpIn_exit hq
 |exit id=>
  intro _ F n hF _ w0 S0 L Z0 G0 n0 st st' e a w Q _ h hs hQ;simp only[qx]at h;injection h with h
  injection h with e1 e2;subst e1;subst e2;exact wpIn_exit (hQ a w hs)
 |scope b _=>intro _ F n hF _ w0 S0 L Z0 G0 n0 st st' e a w Q _ h;simp[qx]at h
 |label l=>
  intro _ F n hF _ w0 S0 L Z0 G0 n0 st st' e a w Q _ h hs hQ;simp only[qx]at h;injection h with h
  injection h with e1 e2;subst e1;subst e2;exact wpIn_label (hQ a w hs)
 |goto l=>intro _ F n hF _ w0 S0 L Z0 G0 n0 st st' e a w Q _ h;simp[qx]at h
 |ret=>
  intro _ F n hF _ w0 S0 L Z0 G0 n0 st st' e a w Q _ h hs hQ;simp only[qx]at h;injection h with h
  injection h with e1 e2;subst e1;subst e2;exact wpIn_ret (hQ a w hs)
 |refuse why=>intro _ F n hF _ w0 S0 L Z0 G0 n0 st st' e a w Q _ h;simp[qx]at h
end
end Go.AM
