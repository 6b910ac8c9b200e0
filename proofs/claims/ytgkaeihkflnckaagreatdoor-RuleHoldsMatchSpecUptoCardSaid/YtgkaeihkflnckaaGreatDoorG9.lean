/- Lemmas. -/
import Derived.WalkKit
import Derived.Test.YtgkaeihkflnckaaGreatDoorG8
set_option maxRecDepth 100000
set_option maxHeartbeats 4000000
open Go Proofs Proofs.YtgkaeihkflnckaaGreatDoor Proofs.Tryz RowKit AM SpanLaw Q Zz
open Go.IntKind renaming i64→i6
namespace Go.AM
def wv{S α:Type}(f:S->α->Bool×S):S->List α->Bool×S
 |s,[]=>(false,s)
 |s,a::l=>if(f s a).1=true then(true,(f s a).2)else wv f (f s a).2 l
theorem ss{S α:Type}(f:S->α->Bool×S):∀(s:S) (l m:List α),wv f s (l++m)=if(wv f s l).1=true then(true,(wv f s l).2)else wv f (wv f s l).2 m
 |s,[],m=>by simp[wv]
 |s,a::l,m=>by
  simp only[q6,wv];split
  ·simp
  ·exact ss f _ l m
def kD(succ:Nat->List Nat):Nat->List Int->Nat->Bool×List Int
 | 0,st,_=>(false,st)
 |n+1,st,i=>if st[i]?=some 0 then((wv (kD succ n) (st.set i 1) (succ i)).1,(wv (kD succ n) (st.set i 1) (succ i)).2.set i 2)else(decide (st[i]?=some 1),st)
def Zs(st:List Int):Nat:=st.count 0
theorem fo{st:List Int}{i:Nat}{v:Int}(h:st[i]?=some 0)(b:v≠0):Zs (st.set i v)+1=Zs st:=by
 unfold Zs
 induction st generalizing i with
 |nil=>simp at h
 |cons a l c=>
  cases i with
  |zero=>simp at h;subst h;simp[b]
  |succ i=>have:=c (i:=i) (by simpa using h);simp only[List.set_cons_succ,List.count_cons]at this⊢;omega
theorem uF{st:List Int}{i:Nat}{v:Int}(b:v≠0):Zs (st.set i v)<=Zs st:=by
 unfold Zs
 induction st generalizing i with
 |nil=>simp
 |cons a l c=>
  cases i with
  |zero=>simp[List.count_cons,b]
  |succ i=>have:=c (i:=i);simp only[List.set_cons_succ,List.count_cons]at this⊢;omega
structure Kept (st st':List Int):Prop where
 len:st'.length=st.length
 wh:Zs st'<=Zs st
 black:∀j:Nat,st[j]?=some 2->st'[j]?=some 2
 SI:∀j:Nat,st'[j]?=some 1↔st[j]?=some 1
 yp:(∀v∈st,v=0\/v=1\/v=2)->∀v∈st',v=0\/v=1\/v=2
theorem Kept.refl(st:List Int):Kept st st:=⟨rfl,zf _,fun _ h=>h,fun _=>Iff.rfl,fun h=>h⟩
theorem Kept.trans{a b c:List Int}(h:Kept a b)(g:Kept b c):Kept a c:=
 ⟨g.len.trans h.len,zw g.wh h.wh,fun j d=>g.black j (h.black j d),fun j=>(g.SI j).trans (h.SI j),fun e=>g.yp (h.yp e)⟩
theorem YN{f:List Int->Nat->Bool×List Int}(b:∀st i,Kept st (f st i).2):∀(l:List Nat) (st:List Int),Kept st (wv f st l).2
 |[],st=>Kept.refl st
 |a::l,st=>by
  simp only[wv];split
  ·exact b st a
  ·exact(b st a).trans (YN b l _)
theorem vv(succ:Nat->List Nat):∀(n:Nat) (st:List Int) (i:Nat),Kept st (kD succ n st i).2
 | 0,st,i=>Kept.refl st
 |n+1,st,i=>by
  simp only[kD];split
  ·rename_i c;have k:i<st.length:=(zi.1 c).1;have b:=YN (vv succ n) (succ i) (st.set i 1);obtain⟨r,g⟩:=jc ((wv (kD succ n) (st.set i 1) (succ i)).2);rw[g]at b;simp only[g];have l:r.length=st.length:=by rw[b.len,aj]
   refine⟨by rw[aj,l],?_,fun j d=>?_,fun j=>?_,fun m v e=>?_⟩
   ·have o:=b.wh;have p:=fo c (v:=1) (by decide);have q:=uF (st:=r) (i:=i) (v:=2) (by decide);omega
   ·by_cases a:i=j
    ·subst a;rw[c]at d;simp at d
    ·rw[yH a];exact b.black j (by rw[yH a];exact d)
   ·by_cases a:i=j
    ·subst a;rw[ve (by omega),c];simp
    ·rw[yH a,b.SI,yH a]
   ·have f:=b.yp (fun v e=>by
     rcases vH e with h|rfl
     ·exact m v h
     ·exact .inr (.inl rfl))
    rcases vH e with h|rfl
    ·exact f v h
    ·exact .inr (.inr rfl)
  ·exact Kept.refl st
inductive Wa (E:Nat->Nat->Prop):Nat->Nat->Prop
 |one {a b:Nat}:E a b->Wa E a b
 |tail {a b c:Nat}:Wa E a b->E b c->Wa E a c
theorem Wa.trans{E:Nat->Nat->Prop}{a b c:Nat}(h:Wa E a b)(g:Wa E b c):Wa E a c:=by
 induction g with
 |one e=>exact .tail h e
 |tail _ e d=>exact .tail d e
theorem Wa.head{E:Nat->Nat->Prop}{a c:Nat}(h:Wa E a c):∃b,E a b/\(b=c\/Wa E b c):=by
 induction h with
 |one e=>exact⟨_,e,.inl rfl⟩
 |tail _ e d=>
  obtain⟨b,f,h2⟩:=d;refine⟨b,f,.inr ?_⟩;rcases h2 with rfl|h2
  ·exact .one e
  ·exact .tail h2 e
theorem Pe{E:Nat->Nat->Prop}{a:Nat}(h:Acc (fun x y=>E y x) a):¬Wa E a a:=by
 induction h with
 |intro x _ c=>
  intro d;obtain⟨y,b,h2⟩:=d.head;rcases h2 with rfl|h2
  ·exact c y b d
  ·exact c y b (.tail h2 b)
theorem gH(succ:Nat->List Nat):∀(n:Nat) (st:List Int) (i:Nat),(∀v∈st,v=0\/v=1\/v=2)->Zs st<n->i<st.length->(∀a,∀b∈succ a,b<st.length)->(∀j:Nat,st[j]?=some 2->Acc (fun x y=>x∈succ y) j)->(kD succ n st i).1=false ->
  (∀j:Nat,(kD succ n st i).2[j]?=some 2->Acc (fun x y=>x∈succ y) j)/\(kD succ n st i).2[i]?=some 2
 | 0,st,i,_,E,_,_,_,_=>by omega
 |n+1,st,i,D,E,hi,hs,hb,e=>by
  simp only[kD]at e⊢;split at e
  ·rename_i f;rw[zd f];simp only at e⊢;have o:i<st.length:=hi;have F:=fo f (v:=1) (by decide);have z:∀v∈st.set i 1,v=0\/v=1\/v=2:=fun v G=>by
    rcases vH G with h|rfl
    ·exact D v h
    ·exact .inr (.inl rfl)
   have A:∀j:Nat,(st.set i 1)[j]?=some 2->Acc (fun x y=>x∈succ y) j:=fun j g=>by
    by_cases c:i=j
    ·subst c;rw[ve o]at g;simp at g
    ·rw[yH c]at g;exact hb j g
   have B:∀(l:List Nat) (s:List Int),(∀v∈s,v=0\/v=1\/v=2)->Zs s<n->s.length=st.length->(∀b∈l,b<st.length)->(∀j:Nat,s[j]?=some 2->Acc (fun x y=>x∈succ y) j)->(wv (kD succ n) s l).1=false ->
     (∀j:Nat,(wv (kD succ n) s l).2[j]?=some 2->Acc (fun x y=>x∈succ y) j)/\∀b∈l,(wv (kD succ n) s l).2[b]?=some 2:=by
    intro l
    induction l with
    |nil=>intro s _ _ _ _ k _;exact⟨k,fun b hb=>by cases hb⟩
    |cons a l H=>
     intro s p q m r k d;simp only[wv]at d⊢;split at d
     ·simp at d
     ·rename_i t;rw[zc t];have u:=vv succ n s a;obtain⟨w,C⟩:=gH succ n s a p q (by rw[m];exact r a (by simp)) (fun x b hb=>by rw[m];exact hs x b hb) k (by simpa using t);obtain⟨I,J⟩:=H _ (u.yp p) (En u.wh q) (u.len.trans m) (fun b hb=>r b (by simp[hb])) w d;refine⟨I,fun b hb=>?_⟩;rcases zv.1 hb with rfl|hb
      ·exact(YN (vv succ n) l _).black _ C
      ·exact J b hb
   obtain⟨w,C⟩:=B (succ i) (st.set i 1) z (by omega) (by rw[aj]) (hs i) A e;have u:=YN (vv succ n) (succ i) (st.set i 1);refine⟨fun j g=>?_,by rw[ve (by rw[u.len,aj];exact o)]⟩;by_cases c:i=j
   ·subst c;exact⟨_,fun b hb=>w b (C b hb)⟩
   ·rw[yH c]at g;exact w j g
  ·rename_i f;rw[zc f];simp only at e⊢;refine⟨hb,?_⟩;have K:st[i]?=some st[i]:=zl hi;have L:=D _ (zj hi);rw[K]at f e⊢;rcases L with h|h|h
   ·rw[h]at f;exact(f rfl).elim
   ·rw[h]at e;simp at e
   ·rw[h]
theorem nn(succ:Nat->List Nat):∀(n:Nat) (st:List Int) (i:Nat),(∀g:Nat,st[g]?=some 1->Wa (fun a b=>b∈succ a) g i)->(kD succ n st i).1=true->∃c,Wa (fun a b=>b∈succ a) c c
 | 0,st,i,_,h=>by simp[kD]at h
 |n+1,st,i,p,h=>by
  simp only[kD]at h;split at h
  ·rename_i r;simp only at h;have t:i<st.length:=(zi.1 r).1;have m:∀(l:List Nat) (s:List Int),(∀g:Nat,s[g]?=some 1↔(st.set i 1)[g]?=some 1)->(∀b∈l,b∈succ i)->(wv (kD succ n) s l).1=true->∃c,Wa (fun a b=>b∈succ a) c c:=by
    intro l
    induction l with
    |nil=>intro s _ _ e;simp[wv]at e
    |cons a l u=>
     intro s f j e;simp only[wv]at e;split at e
     ·rename_i v;refine nn succ n s a (fun g d=>?_) v;have d:=(f g).1 d;have q:a∈succ i:=j a (by simp);by_cases k:i=g
      ·subst k;exact .one q
      ·rw[yH k]at d;exact .tail (p g d) q
     ·exact u _ (fun g=>((vv succ n s a).SI g).trans (f g)) (fun b o=>j b (by simp[o])) e
   exact m (succ i) (st.set i 1) (fun _=>Iff.rfl) (fun _ o=>o) h
  ·simp at h;exact⟨i,p i h⟩
theorem fp{α:Type}{p q:α->Bool}:∀{l:List α},(∀x∈l,p x=true->q x=true)->(∃x∈l,q x=true/\p x=false)->l.countP p<l.countP q
 |[],_,⟨x,b,_⟩=>by cases b
 |a::l,h,⟨x,b,d,e⟩=>by
  have f:l.countP p<=l.countP q:=List.countP_mono_left fun y c=>h y (by simp[c])
  rcases zv.1 b with rfl|b
  ·rw[List.countP_cons,List.countP_cons,d,e];simp;omega
  ·have:=fp (l:=l) (fun y c=>h y (by simp[c])) ⟨x,b,d,e⟩;rw[List.countP_cons,List.countP_cons];have g:=h a (by simp);cases Y:p a
   ·simp only[zF,qR];split<;>omega
   ·rw[g Y];simp;omega
open Classical in
noncomputable def HY (E:Nat->Nat->Prop) (N i:Nat):Nat:=(List.range N).countP fun j=>decide (Wa E i j)
theorem Pf(E:Nat->Nat->Prop)(N i:Nat):HY E N i<=N:=by have:=List.countP_le_length (p:=fun j=>@decide (Wa E i j) (Classical.propDecidable _)) (l:=List.range N);rwa [List.length_range]at this
open Classical in
theorem Pg{E:Nat->Nat->Prop}{N i j:Nat}(b:j<N)(a:E i j)(c:¬Wa E j j):HY E N j<HY E N i:=by
 refine fp (fun k _ d=>?_) ⟨j,yj.2 b,?_,?_⟩
 ·exact Em ((Wa.one a).trans (xG d))
 ·exact Em (.one a)
 ·exact decide_eq_false c
structure EF {α:Type} (next:α->List α) (start out queue:List α):Prop where
 nodup:out.Nodup
 strt:∀a∈start,a∈out\/a∈queue
 step:∀a∈out,∀b∈next a,b∈out\/b∈queue
 only:∀(Q:α->Prop),(∀a∈start,Q a)->(∀a b,Q a->b∈next a->Q b)->(∀a∈out,Q a)/\∀a∈queue,Q a
theorem EF.begin{α:Type}(next:α->List α)(start:List α):EF next start [] start:=
 ⟨.nil,fun a h=>.inr h,(fun a h=>by cases h),fun Q h _=>⟨(fun a h=>by cases h),h⟩⟩
theorem EF.skip{α:Type}{next:α->List α}{start out queue:List α}{a:α}(h:EF next start out (a::queue))(e:a∈out):EF next start out queue:=by
 refine⟨h.nodup,fun b d=>?_,fun b d c i=>?_,fun Q f g=>⟨(h.only Q f g).1,fun b d=>(h.only Q f g).2 b (by simp[d])⟩⟩
 ·rcases h.strt b d with h|h
  ·exact .inl h
  ·rcases zv.1 h with rfl|h
   ·exact .inl e
   ·exact .inr h
 ·rcases h.step b d c i with h|h
  ·exact .inl h
  ·rcases zv.1 h with rfl|h
   ·exact .inl e
   ·exact .inr h
theorem EF.take{α:Type}{next:α->List α}{start out e:List α}{a:α}(h:EF next start out (a::e))(m:a ∉ out):EF next start (out++[a]) (e++next a):=by
 have f:∀b,b∈out\/b∈a::e->b∈out++[a]\/b∈e++next a:=fun b d=>by
  simp only[zM,zv,K9,or_false]at d⊢;rcases d with d|d|d
  ·exact .inl (.inl d)
  ·exact .inl (.inr d)
  ·exact .inr (.inl d)
 refine⟨?_,fun b d=>f b (h.strt b d),fun b d c g=>?_,fun Q n i=>?_⟩
 ·rw[List.nodup_append];refine⟨h.nodup,by simp,fun x o y j=>?_⟩;rintro rfl;simp at j;subst j;exact m o
 ·rcases zM.1 d with d|d
  ·exact f c (h.step b d c g)
  ·simp at d;subst d;exact .inr (zM.2 (.inr g))
 ·obtain⟨p,k⟩:=h.only Q n i;have l:Q a:=k a (by simp);refine⟨fun b d=>?_,fun b d=>?_⟩
  ·rcases zM.1 d with d|d
   ·exact p b d
   ·simp at d;subst d;exact l
  ·rcases zM.1 d with d|d
   ·exact k b (by simp[d])
   ·exact i a b l d
inductive Ke {α:Type} (next:α->List α) (start:List α):α->Prop
 |here {a:α}:a∈start->Ke next start a
 |there {a b:α}:Ke next start a->b∈next a->Ke next start b
theorem EF.done{α:Type}{next:α->List α}{start out:List α}(h:EF next start out [])(a:α):a∈out↔Ke next start a:=by
 constructor
 ·exact(h.only (Ke next start) (fun _=>.here) (fun _ _=>.there)).1 a
 ·intro b
  induction b with
  |here c=>exact(h.strt _ c).resolve_right (by simp)
  |there _ d e=>exact(h.step _ e _ d).resolve_right (by simp)
def Cw(F:Nat->(Nat->Bool)->Bool):Nat->Nat->Bool
 | 0,_=>false
 |n+1,i=>F i (Cw F n)
theorem su{F:Nat->(Nat->Bool)->Bool}{succ:Nat->List Nat}{rk:Nat->Nat}(hF:∀i f g,(∀j∈succ i,f j=g j)->F i f=F i g)(a:∀i,∀j∈succ i,rk j<rk i):∀(r i m k:Nat),rk i<=r->r<m->r<k->Cw F m i=Cw F k i
 |r,i,m,k,h,d,e=>by
  obtain⟨m,rfl⟩:∃q,m=q+1:=⟨m-1,by omega⟩;obtain⟨k,rfl⟩:∃q,k=q+1:=⟨k-1,by omega⟩;simp only[Cw];refine hF i _ _ fun j b=>?_
  have:=a i j b;obtain⟨c,rfl⟩:∃q,r=q+1:=⟨r-1,by omega⟩;exact su hF a c j m k (by omega) (by omega) (by omega)
theorem Ub{F:Nat->(Nat->Bool)->Bool}{succ:Nat->List Nat}{rk:Nat->Nat}{N:Nat}(hF:∀i f g,(∀j∈succ i,f j=g j)->F i f=F i g)(a:∀i,∀j∈succ i,rk j<rk i)(b:∀i,rk i<=N)(i:Nat):Cw F (N+1) i=F i (Cw F (N+1)):=by
 show F i (Cw F N)=_;refine hF i _ _ fun j c=>?_
 have d:=a i j c;have e:=b i;exact su hF a (rk j) j N (N+1) (zf _) (by omega) (by omega)
end Go.AM
namespace Go.Q
structure qd where
 name:List UInt8
 ins:List (List UInt8)
 outs:List (List UInt8)
 cond:qe
def qd.V(s:qd):zb:=[str s.name,.sl 1 (zy s.ins),.sl 1 (zy s.outs)]++s.cond.V
theorem ye(s:qd):s.V=[str s.name,.sl 1 (zy s.ins),.sl 1 (zy s.outs),int s.cond.kind,str s.cond.attr,int s.cond.op,.sl 5 (s.cond.yp.map qa.V),str s.cond.pat,str s.cond.name,.sl 7 (s.cond.args.map qe.V)]:=by unfold qd.V;rw[wi];rfl
@[simp]theorem zg2(s:qd):s.V.length=10:=by rw[ye];rfl
@[simp]theorem zfI(s:qd):s.V.drop 3=s.cond.V:=rfl
@[simp]theorem zfJ(s:qd):s.V.take 10=s.V:=qx (by simp)
@[simp]theorem zhT(s:qd)(h:0<s.V.length):s.V[0]=str s.name:=rfl
@[simp]theorem zhU(s:qd)(h:1<s.V.length):s.V[1]=.sl 1 (zy s.ins):=rfl
@[simp]theorem zhV(s:qd)(h:2<s.V.length):s.V[2]=.sl 1 (zy s.outs):=rfl
@[simp]theorem LQ(s:qd):s.V.all O.wZ=true:=by rw[ye];rfl
@[simp]theorem zcH(s:qd):(∀x,x∈s.V->O.wZ x=true)=True:=by have:=LQ s;rw[zV]at this;exact eq_true this
theorem KL{a b:qd}(h:a.V=b.V):a=b:=by
 have f:a.cond.V=b.cond.V:=by rw[ye,ye]at h;simp only[zk,zI]at h;rw[wi,wi];simp only[zk,zI];exact h.2.2.2
 have c:=kU f;rw[ye,ye]at h;simp only[zk,zI]at h;obtain⟨g,d,e,_⟩:=h;cases a;cases b;simp only at *;injection d with _ d
 injection e with _ e;rw[wR g,ji d,ji e,c]
theorem xm{a b:List qd}(h:O.sl 10 (a.map qd.V)=.sl 10 (b.map qd.V)):a=b:=by injection h with _ h;exact kS (fun _ _=>KL) h
def QI(l:List za):Nat:=(l.map fun s=>1+s.length).sum
def qd.cb(s:qd):Nat:=1+s.name.length+QI s.ins+QI s.outs+s.cond.cb
def x4(l:List qd):Nat:=(l.map qd.cb).sum
theorem de:∀{l:List za} {s:za},s∈l->1+s.length<=QI l
 |y::l,s,h=>by
  simp only[QI,we,zhX];rcases zv.1 h with rfl|h
  ·omega
  ·have:=de h;unfold QI at this;omega
theorem Zg:∀l:List za,l.length<=QI l
 |[]=>zf _
 |y::l=>by have:=Zg l;simp only[QI,we,zhX,zO]at *;omega
theorem xe:∀{l:List qd} {s:qd},s∈l->s.cb<=x4 l
 |y::l,s,h=>by
  simp only[x4,we,zhX];rcases zv.1 h with rfl|h
  ·omega
  ·have:=xe h;unfold x4 at this;omega
theorem vG:∀l:List qd,l.length<=x4 l
 |[]=>zf _
 |y::l=>by
  have:=vG l;have a:1<=y.cb:=by unfold qd.cb;omega
  simp only[x4,we,zhX,zO]at *;omega
mutual
def qe.names:qe->List za
 | .mk k _ _ _ _ n l=>(if k=5 then[n]else[])++yz l
def yz:List qe->List za
 |[]=>[]
 |c::l=>c.names++yz l
end
theorem xV(c:qe):c.names=(if c.kind=5 then[c.name]else[])++yz c.args:=by cases c;rfl
theorem YW:∀{l:List qe} {n:za},n∈yz l↔∃c∈l,n∈c.names
 |[],n=>by simp[yz]
 |c::l,n=>by simp[yz,YW (l:=l)]
theorem Cx{l:List qe}{k:Nat}(h:k<l.length):yz (l.drop k)=l[k].names++yz (l.drop (k+1)):=by rw[ze h,yz]
noncomputable def jj (l:List qd) (n:za):Nat:=(JJ (l.map qd.name) n).1
noncomputable def w7 (l:List qd) (n:za):Bool:=(JJ (l.map qd.name) n).2
noncomputable def Qx (l:List qd) (c:qe):Bool:=c.names.all (w7 l)
noncomputable def wH (l:List qd) (i:Nat):List Nat:=match l[i]? with
 |some s=>s.cond.names.map (jj l)
 |none=>[]
def J4:Option za->List za->Int
 |_,[]=>0
 |p,k::l=>if vq k=true then(if kr p k=true then 8 else J4 (some k) l)else 3
def vX(l:List za):Int:=if(1000:Int)<l.length then 2 else J4 none l
theorem np{l:List za}{k:Nat}(h:k<l.length)(p:Option za):J4 p (l.drop k)=if vq l[k]=true then(if kr p l[k]=true then 8 else J4 (some l[k]) (l.drop (k+1)))else 3:=by rw[ze h,J4]
theorem Cy:∀(l:List za) (p:Option za),J4 p l=0->aq l/\∀q,p=some q->∀b∈l,Op.bytesLess q b=true
 |[],p,_=>⟨.nil,fun _ _ _ hb=>by cases hb⟩
 |a::l,p,h=>by
  simp only[J4]at h;split at h
  case isFalse=>simp at h
  split at h
  ·simp at h
  rename_i e;obtain⟨f,d⟩:=Cy l (some a) h;refine⟨wV.2 ⟨d a rfl,f⟩,fun q g b hb=>?_⟩;subst g;have c:Op.bytesLess q a=true:=xU (by simpa[kr]using e);rcases zv.1 hb with rfl|hb
  ·exact c
  ·exact xT c (d a rfl b hb)
theorem nq{l:List za}(h:vX l=0):aq l:=by
 unfold vX at h;split at h
 ·simp at h
 ·exact(Cy l none h).1
noncomputable def xW (s:qd):Int:=if vX s.ins=0 then(if vX s.outs=0 then(if(s.ins.any fun k=>s.outs.contains k)=true then 7 else s.cond.check)else vX s.outs)else vX s.ins
noncomputable def W7:Option za->List qd->Int
 |_,[]=>0
 |p,s::l=>if wS s.name=true then(if kr p s.name=true then 8 else if xW s=0 then W7 (some s.name) l else xW s)else 5
theorem F5{l:List qd}{k:Nat}(h:k<l.length)(p:Option za):W7 p (l.drop k)=if wS l[k].name=true then(if kr p l[k].name=true then 8 else if xW l[k]=0 then W7 (some l[k].name) (l.drop (k+1))else xW l[k])else 5:=by rw[ze h,W7]
theorem nr:∀(l:List qd) (p:Option za),W7 p l=0->(aq (l.map qd.name)/\∀q,p=some q->∀b∈l,Op.bytesLess q b.name=true)/\∀s∈l,wS s.name=true/\xW s=0
 |[],p,_=>⟨⟨.nil,fun _ _ _ hb=>by cases hb⟩,fun _ hb=>by cases hb⟩
 |a::l,p,h=>by
  simp only[W7]at h;split at h
  case isFalse=>simp at h
  rename_i e;split at h
  ·simp at h
  rename_i f;split at h
  case isFalse hs=>exact(hs h).elim
  rename_i hs;obtain⟨⟨g,d⟩,i⟩:=nr l (some a.name) h;refine⟨⟨?_,fun q j b hb=>?_⟩,fun s Ng=>?_⟩
  ·unfold aq;rw[we];refine wV.2 ⟨fun x k=>?_,g⟩;obtain⟨b,hb,rfl⟩:=qj.1 k;exact d a.name rfl b hb
  ·subst j;have c:Op.bytesLess q a.name=true:=xU (by simpa[kr]using f);rcases zv.1 hb with rfl|hb
   ·exact c
   ·exact xT c (d a.name rfl b hb)
  ·rcases zv.1 Ng with rfl|Ng
   ·exact⟨e,hs⟩
   ·exact i s Ng
noncomputable def Ph (l:List qd):List Int->List Nat->Bool×List Int:=wv (kD (wH l) 2097153)
noncomputable def nt (l:List qd):Bool:=(Ph l (List.replicate l.length 0) (List.range l.length)).1
noncomputable def kd (l:List qd):Int:=if(100:Int)<l.length then 2 else if W7 none l=0 then(if(l.all fun s=>Qx l s.cond)=true then(if nt l=true then 12 else 0)else 9)else W7 none l
structure Ye (l:List qd):Prop where
 len:l.length<=100
 up:aq (l.map qd.name)
 right:∀s∈l,wS s.name=true/\xW s=0
 known:∀s∈l,∀n∈s.cond.names,w7 l n=true
 acyc:∀i:Nat,¬Wa (fun a b=>b∈wH l a) i i
theorem fq{l:List qd}{n:za}(h:w7 l n=true):jj l n<l.length:=by have:=zcG (l:=l.map qd.name) (s:=n) h;rw[vB]at this;exact this
theorem uG{l:List qd}(h:∀s∈l,∀n∈s.cond.names,w7 l n=true)(i:Nat):∀j∈wH l i,j<l.length:=by
 intro j a;unfold wH at a;split at a
 ·rename_i s hs;obtain⟨n,b,rfl⟩:=qj.1 a;exact fq (h s (zG hs) n b)
 ·cases a
theorem sv{l:List qd}{i:Nat}(h:l.length<=i):wH l i=[]:=by unfold wH;rw[wT h]
theorem nu(n:Nat):Zs (List.replicate n 0)=n:=by simp[Zs]
theorem Cz{l:List qd}(H:l.length<=100)(h:∀s∈l,∀n∈s.cond.names,w7 l n=true):nt l=true↔∃i:Nat,Wa (fun a b=>b∈wH l a) i i:=by
 constructor
 ·intro F;have f:∀(q:List Nat) (s:List Int),(∀g:Nat,s[g]?≠some 1)->(wv (kD (wH l) 2097153) s q).1=true->∃c,Wa (fun a b=>b∈wH l a) c c:=by
   intro q
   induction q with
   |nil=>intro s _ e;simp[wv]at e
   |cons a q r=>
    intro s hs e;simp only[wv]at e;split at e
    ·rename_i t;exact nn (wH l) _ s a (fun g k=>(hs g k).elim) t
    ·exact r _ (fun g k=>hs g (((vv (wH l) _ s a).SI g).1 k)) e
  refine f _ _ (fun g k=>?_) F;rw[WM]at k;split at k<;>simp at k
 ·rintro⟨i,hi⟩;refine yC fun u=>?_
  have u:nt l=false:=by simpa using u
  have hs:=uG h;have f:∀(q:List Nat) (s:List Int),(∀v∈s,v=0\/v=1\/v=2)->s.length=l.length->Zs s<2097153->(∀b∈q,b<l.length)->(∀j:Nat,s[j]?=some 2->Acc (fun x y=>x∈wH l y) j)->(wv (kD (wH l) 2097153) s q).1=false ->
    ∀b,b∈q->Acc (fun x y=>x∈wH l y) b:=by
   intro q
   induction q with
   |nil=>intro s _ _ _ _ _ _ b d;cases d
   |cons a q r=>
    intro s o m C D d e;simp only[wv]at e;split at e
    ·simp at e
    ·rename_i t;have w:=vv (wH l) 2097153 s a;obtain⟨E,G⟩:=gH (wH l) _ s a o C (by rw[m];exact D a (by simp)) (fun x b d=>by rw[m];exact hs x b d) d (by simpa using t);intro b hbm;rcases zv.1 hbm with rfl|hbm
     ·exact E b G
     ·exact r _ (w.yp o) (w.len.trans m) (En w.wh C) (fun b d=>D b (by simp[d])) E e b hbm
  have p:=f (List.range l.length) (List.replicate l.length 0) (fun v o=>by rw[List.mem_replicate]at o;exact .inl o.2) (by simp) (by rw[nu];omega) (fun b d=>yj.1 d)
   (fun j z=>by rw[WM]at z;split at z<;>simp at z) u
  obtain⟨b,d,_⟩:=hi.head;have A:i<l.length:=by
   refine Nat.lt_of_not_le fun B=>?_
   rw[sv B]at d;cases d
  exact Pe (p i (yj.2 A)) hi
theorem HZ{l:List qd}(h:kd l=0):Ye l:=by
 unfold kd at h;split at h
 ·simp at h
 rename_i g;split at h
 case isFalse hs=>exact(hs h).elim
 rename_i hs;split at h
 case isFalse=>simp at h
 rename_i c;split at h
 ·simp at h
 rename_i a;obtain⟨⟨d,_⟩,e⟩:=nr l none hs;have b:∀s∈l,∀n∈s.cond.names,w7 l n=true:=fun s hs n f=>zV.1 (zV.1 c s hs) n f
 refine⟨by omega,d,e,b,fun i hi=>?_⟩;exact a ((Cz (by omega) b).2 ⟨i,hi⟩)
noncomputable def Uc (l:List qd) (i:Nat):Nat:=HY (fun a b=>b∈wH l a) l.length i
theorem F6{l:List qd}(h:Ye l)(i:Nat):Uc l i<=100:=zw (Pf _ _ _) h.len
theorem F7{l:List qd}(h:Ye l)(i:Nat):∀j∈wH l i,Uc l j<Uc l i:=fun j a=>Pg (uG h.known i j a) a (h.acyc j)
mutual
def qe.x2(VA:za->Bool)(b:qe->Bool):qe->Bool
 | .mk k a o v p n l=>if k=1 then allM VA b l else if k=2 then anyM VA b l else if k=3 then !(zbL VA b l)else if k=5 then VA n else b (.mk k a o v p n l)
def allM(VA:za->Bool)(a:qe->Bool):List qe->Bool
 |[]=>true
 |c::l=>c.x2 VA a&&allM VA a l
def anyM(VA:za->Bool)(a:qe->Bool):List qe->Bool
 |[]=>false
 |c::l=>c.x2 VA a||anyM VA a l
def zbL(VA:za->Bool)(a:qe->Bool):List qe->Bool
 |[]=>false
 |c::_=>c.x2 VA a
end
def hdC(f:qe->Bool):List qe->Bool
 |[]=>false
 |x::_=>f x
theorem nv(VA:za->Bool)(b:qe->Bool)(c:qe):c.x2 VA b=if c.kind=1 then c.args.all (fun x=>x.x2 VA b)else if c.kind=2 then c.args.any (fun x=>x.x2 VA b)else if c.kind=3 then !(hdC (fun x=>x.x2 VA b) c.args)else if c.kind=5 then VA c.name else b c:=by
 have e:∀l,allM VA b l=l.all fun x=>x.x2 VA b:=fun l=>by
  induction l with
  |nil=>rfl
  |cons c l d=>rw[allM,d];rfl
 have f:∀l,anyM VA b l=l.any fun x=>x.x2 VA b:=fun l=>by
  induction l with
  |nil=>rfl
  |cons c l d=>rw[anyM,d];rfl
 have g:∀l,zbL VA b l=hdC (fun x=>x.x2 VA b) l:=fun l=>by cases l<;>rfl
 cases c with
 |mk k a o v p n l=>rw[qe.x2,e,f,g];rfl
theorem F8{f g:za->Bool}{d:qe->Bool}(c:qe):(∀n∈c.names,f n=g n)->c.x2 f d=c.x2 g d:=by
 induction c using qe.ind with
 |h k a o v p n l q=>
  intro h;rw[xV]at h;have b:∀x∈l,x.x2 f d=x.x2 g d:=fun x e=>q x e fun m r=>h m (zM.2 (.inr (YW.2 ⟨x,e,r⟩)))
  rw[nv,nv];simp only[qe.kind,qe.args,qe.name];have s:(l.all fun x=>x.x2 f d)=l.all fun x=>x.x2 g d:=by rw[qh,zV,zV];exact⟨fun i x e=>by rw[<-b x e];exact i x e,fun i x e=>by rw[b x e];exact i x e⟩
  have t:(l.any fun x=>x.x2 f d)=l.any fun x=>x.x2 g d:=by rw[qh,WN,WN];exact⟨fun⟨x,e,i⟩=>⟨x,e,by rw[<-b x e];exact i⟩,fun⟨x,e,i⟩=>⟨x,e,by rw[b x e];exact i⟩⟩
  rw[s,t];have u:hdC (fun x=>x.x2 f d) l=hdC (fun x=>x.x2 g d) l:=by
   cases l with
   |nil=>rfl
   |cons x l=>exact b x (by simp)
  rw[u];by_cases j:k=5
  ·rw[h n (by simp[qe.kind,qe.name,j])]
  ·simp only[j,qR]
def Pj(l:List qd)(a:za)(b:qe->Bool)(i:Nat)(f:za->Bool):Bool:=match l[i]? with
 |some s=>s.ins.contains a||(!s.outs.contains a&&s.cond.x2 f b)
 |none=>false
noncomputable def LR (l:List qd) (a:za) (b:qe->Bool):Nat->Bool:=Cw (fun i f=>Pj l a b i fun n=>f (jj l n)) 101
theorem H0{l:List qd}(h:Ye l)(a:za)(b:qe->Bool)(i:Nat):LR l a b i=Pj l a b i fun n=>LR l a b (jj l n):=by
 refine Ub (succ:=wH l) (rk:=Uc l) (N:=100) (fun i f g c=>?_) (F7 h) (F6 h) i;simp only[Pj];cases hs:l[i]? with
 |none=>rfl
 |some s=>simp only;rw[F8 s.cond (f:=fun n=>f (jj l n)) (g:=fun n=>g (jj l n)) fun n d=>c (jj l n) (by unfold wH;rw[hs];exact Wo d)]
noncomputable def zfK (l:List qd) (b:za) (a:qe->Bool) (c:qe):Bool:=c.x2 (fun n=>LR l b a (jj l n)) a
theorem Pk{l:List qd}(a:aq (l.map qd.name)){i:Nat}{s:qd}(h:l[i]?=some s):jj l s.name=i/\w7 l s.name=true:=by have:=F4 a (j:=i) (s:=s.name) (by rw[qo,h];rfl);unfold jj w7;rw[this];exact⟨rfl,rfl⟩
noncomputable def F9:zb->Option O:=ql (α:=qd×za) (fun a=>[.agg a.1.V,str a.2]) (fun _=>True) (fun a=>int (yD a.1.name a.2))
theorem gI(x:qd)(s:za)(Y:Hp)(Z:Nat):zh false [] F9 [.agg x.V,str s] Y Z=some (int (yD x.name s),Y,Z):=
 Ja (x,s) _ _ (by simp[ye]) (fun a b e=>by obtain⟨c,d⟩:=a;obtain⟨f,g⟩:=b;simp only[zk,zI,O.agg.injEq]at e;rw[KL e.1,wR e.2]) trivial (.inl rfl)
noncomputable abbrev zcI:Ctx:=zR prog [(66,zh false [] (Np yD))]
theorem CA:zg prog 65 (zh false [] F9):=
 xy (zU mixed ⟨vO,trivial⟩:AM.Good zcI _) func65 false [] fun⟨x,s⟩ _=>⟨by simp[f65],_,zm rfl (by simp[f65,ye]),qb _⟩
noncomputable def Pm:zb->Option O:=ql (α:=List qd×za) (fun a=>[.sl 10 (a.1.map qd.V),str a.2,.fn (.func 65) [] []]) (fun a=>a.1.length<=zu) (fun a=>.wG [int (JJ (a.1.map qd.name) a.2).1,qS (JJ (a.1.map qd.name) a.2).2])
theorem Ga(l:List qd)(s:za)(Y:Hp)(Z:Nat)(h:l.length<=zu):zh false [] Pm [.sl 10 (l.map qd.V),str s,.fn (.func 65) [] []] Y Z=some (.wG [int (JJ (l.map qd.name) s).1,qS (JJ (l.map qd.name) s).2],Y,Z):=
 Ja (l,s) _ _ rfl (fun a b e=>by obtain⟨f,g⟩:=a;obtain⟨i,j⟩:=b;simp only[zk,zI]at e;obtain⟨c,d⟩:=e;injection c with _ c;rw[kS (fun _ _=>KL) c,wR d]) h (.inl rfl)
noncomputable abbrev zbf:Ctx:=zR prog [(65,zh false [] F9)]
theorem LS(l:List qd)(s:za)(w:l.length<=zu):zq zbf f64 [.sl 10 (l.map qd.V),str s,.fn (.func 65) [] []]=some (.wG [int (JJ (l.map qd.name) s).1,qS (JJ (l.map qd.name) s).2]):=by
 refine zm rfl ?_;unfold zu at w;have h:(l.map qd.name).length=l.length:=by simp
 simp;refine Wu (fun st=>st.U 0=.sl 10 (l.map qd.V)/\st.U 1=str s/\st.U 2=.fn (.func 65) [] []/\st.U 8=int l.length/\∃lo hi:Nat,lo<=hi/\hi<=l.length/\st.U 9=int lo/\st.U 10=int hi/\Zk (W6 (l.map qd.name) s) 0 (l.map qd.name).length=Zk (W6 (l.map qd.name) s) lo hi)
  (fun st=>(Vm (st.U 10)).toNat-(Vm (st.U 9)).toNat) ⟨by simp,by simp,by simp,by simp,0,l.length,by simp,by simp,by simp,by simp,by rw[h]⟩ ?_
 rintro⟨U,Y,Z⟩ ⟨i,j,k,n,lo,hi,y,t,o,d,f⟩;simp only at i j k n o d;by_cases b:lo<hi
 ·have a:=fun x Y Z=>gI x s Y Z
  have v:=wz ((lo:Int)+hi);have z:(lo+hi)/2<l.length:=by omega
  obtain⟨m,A⟩:∃m,m=(lo+hi)/2:=⟨_,rfl⟩;have g:i6.wrap ((IntKind.u64.wrap ((lo:Int)+hi)).fdiv (2 ^ min 1 IntKind.u64.bits))=(m:Int):=by
   have B:IntKind.u64.wrap ((lo:Int)+hi)=(lo:Int)+hi:=by rw[IntKind.wrap_u64];omega
   have C:(2 ^ min 1 IntKind.u64.bits:Int)=2:=by decide
   rw[B,C,Eo _ (by omega),wu (by omega) (by omega)];omega
  have e:m<l.length:=by omega
  have D:=qG m;have u:W6 (l.map qd.name) s m=decide (yD l[m].name s<0):=by simp[W6,e]
  rw[XU (lo:=lo) b,<-A,u]at f;have c:=a l[m];simp only[ye]at c;by_cases r:yD l[m].name s<0
  ·simp only[r,decide_true,qH]at f;simp[i,j,k,n,o,d,b,v,g,e,c,r,D,ye];exact⟨⟨m+1,hi,by omega,t,by omega,rfl,by rw[h]at f;exact f⟩,by omega⟩
  ·simp only[r,decide_false,zF,qR]at f;simp[i,j,k,n,o,d,b,v,g,e,c,r,ye];exact⟨⟨lo,m,by omega,by omega,rfl,rfl,by rw[h]at f;exact f⟩,by omega⟩
 ·have f:Zk (W6 (l.map qd.name) s) 0 (l.map qd.name).length=lo:=by rw[f,dd (lo:=lo) b]
  have a:=fun x Y Z=>gI x s Y Z
  unfold JJ;rw[f];by_cases p:lo<l.length
  ·have c:=a l[lo];simp only[ye]at c;simp[i,j,k,n,o,d,b,p,c,ye,f64,wa]
  ·have q:l[lo]?=none:=wT (by omega);simp[i,j,k,n,o,d,b,p,q,f64,wa]
theorem Gb:zg prog 64 (zh false [] Pm):=
 xy (qw (q:=[65]) mixed ⟨CA,fun _=>zt _ _,trivial⟩:AM.Good zbf _) func64 false [] fun⟨l,s⟩ a=>⟨zw (zf 3) (by decide),_,LS l s a,qb _⟩
noncomputable def gJ:zb->Option O:=ql (α:=List qd×za) (fun a=>[.sl 10 (a.1.map qd.V),str a.2]) (fun a=>a.1.length<=zu) (fun a=>.wG [int (JJ (a.1.map qd.name) a.2).1,qS (JJ (a.1.map qd.name) a.2).2])
theorem KM(l:List qd)(s:za)(Y:Hp)(Z:Nat)(h:l.length<=zu):zh false [] gJ [.sl 10 (l.map qd.V),str s] Y Z=some (.wG [int (JJ (l.map qd.name) s).1,qS (JJ (l.map qd.name) s).2],Y,Z):=
 Ja (l,s) _ _ rfl (fun a b e=>by obtain⟨f,g⟩:=a;obtain⟨i,j⟩:=b;simp only[zk,zI]at e;obtain⟨c,d⟩:=e;injection c with _ c;rw[kS (fun _ _=>KL) c,wR d]) h (.inl rfl)
noncomputable abbrev zfL:Ctx:=zR prog [(64,zh false [] Pm)]
theorem KN:zg prog 31 (zh false [] gJ):=
 xy (zU mixed ⟨Gb,trivial⟩:AM.Good zfL _) func31 false [] fun⟨l,s⟩ a=>by
  have b:=fun Y Z=>Ga l s Y Z a
  exact⟨by simp[f31],_,zm rfl (by simp[b,wa,f31]),qb _⟩
noncomputable def LU (out:List za->O) (a:List za->Prop):zb->Option O:=ql (α:=List za) (fun l=>[.sl 1 (zy l)]) a out
theorem df(out:List za->O)(c:List za->Prop)(l:List za)(Y:Hp)(Z:Nat)(h:c l)(d:(out l).flat=true):zh false [] (LU out c) [.sl 1 (zy l)] Y Z=some (out l,Y,Z):=
 Ja l _ _ rfl (fun a b e=>by
  simp only[zk,zI]at e;injection e with _ e
  exact ji e) h (.inl d)
def Jg(l:List za)(k:Nat):Option za:=if k=0 then none else l[k-1]?
noncomputable abbrev Cck:Ctx:=zR prog [(26,zh false [] (FS vq))]
theorem nw(l:List za)(h:QI l<=zu):zq Cck f105 [.sl 1 (zy l)]=some (int (vX l)):=by
 have D:=Zg l;have z:=fun s (hs:s∈l)=>de hs
 unfold zu at h;refine zm rfl ?_;unfold vX;by_cases o:(1000:Int)<l.length
 ·rw[zd o];simp[o,f105]
 rw[zc o];simp[o];refine zP (fun k U Y Z=>U 0=.sl 1 (zy l)/\U 8=.sl 1 (zy l)/\U 9=int l.length/\U 10=int k/\J4 none l=J4 (Jg l k) (l.drop k)) l.length
  ⟨by simp,by simp,by simp,by simp,by simp[Jg]⟩ ?_
 rintro k U Y Z E ⟨f,g,i,c,a⟩;by_cases b:k<l.length
 ·have F:=qG k;obtain⟨s,hs⟩:=jc (l[k]);have d:s.length<=zu:=by have:=z s (by rw[<-hs];exact zj b);unfold zu;omega
  rw[np b,hs]at a;have m:Jg l (k+1)=some s:=by simp[Jg,b,hs]
  cases e:vq s
  ·rw[e,zc (by simp)]at a;simp[f,g,i,c,b,hs,d,e,a,f105]
  rw[e,zd rfl]at a;by_cases A:k=0
  ·subst A;have B:=wz 1;simp only[Jg,kr,qH,zF,qR]at a;simp[f,g,i,c,b,hs,d,e,B];exact⟨by omega,by rw[a,m];simp⟩
  ·obtain⟨j,rfl⟩:∃j,k=j+1:=⟨k-1,by omega⟩;have q:j<l.length:=by omega
   have t:i6.wrap ((j:Int)+1-1)=(j:Int):=by rw[wu (by omega) (by omega)];omega
   have n:=wz (j:Int);have u:((j:Int)+1).toNat=j+1:=by omega
   have v:0<(j:Int)+1:=by omega
   have w:0<=(j:Int)+1:=by omega
   have x:(j:Int)+1<l.length:=by omega
   have C:=wz ((j:Int)+1+1);have y:(Op.bytesLess s l[j]||s==l[j])=cD s l[j]:=rfl;have r:Jg l (j+1)=some l[j]:=by simp[Jg,q]
   simp only[r,kr]at a;cases p:cD s l[j]
   ·rw[p,zc (by simp)]at a;simp[f,g,i,c,b,q,hs,d,e,t,n,u,v,w,x,y,p,C];exact⟨by omega,by rw[a,m]⟩
   ·rw[p,zd rfl]at a;simp[f,g,i,c,b,q,hs,d,e,t,n,u,v,w,x,y,p,a,f105]
 ·obtain rfl:k=l.length:=by omega
  rw[zn]at a;have a:J4 none l=0:=by rw[a];rfl
  simp[f,g,i,c,a,f105]
theorem iD:zg prog 105 (zh false [] (LU (fun l=>int (vX l)) fun l=>QI l<=zu)):=
 xy (zU mixed ⟨VR,trivial⟩:AM.Good Cck _) func105 false [] fun l a=>⟨zw (zf 1) (by decide),_,nw l a,qb _⟩
theorem pE:zg prog 152 (zh false [] VV):=
 wW (fn:=f152) jG (qD func152) false [] _ fun args r h=>by
  unfold VV at h;split at h
  ·injection h with h;subst h;exact⟨by simp[f152],_,zm rfl (by simp[f152]),qb _⟩
  ·cases h
def lsP(a b:za):O:=qS (Op.bytesLess a b)
theorem Ud(a b:za)(Y:Hp)(Z:Nat)(h:a.length<=zu)(c:b.length<=zu):zh false [] (Zr lsP fun _ _=>True) [str a,str b] Y Z=some (qS (Op.bytesLess a b),Y,Z):=jV _ _ a b Y Z h c trivial rfl
noncomputable abbrev Cls:Ctx:=zR prog [(148,zh false [] VV)]
theorem Gc:zg prog 99 (zh false [] (Zr lsP fun _ _=>True)):=
 wW (fn:=f99) (zU mixed ⟨cN,trivial⟩:AM.Good Cls _) (qD func99) false [] _ fun args r h=>by obtain⟨a,b,rfl,c,d,_,rfl⟩:=kl h;exact⟨by simp[f99],_,zm rfl (by simp[lsP,f99]),qb _⟩
noncomputable def FKs (out:List za->za->O):zb->Option O:=ql (α:=List za×za) (fun a=>[.sl 1 (zy a.1),str a.2]) (fun a=>QI a.1<=zu/\a.2.length<=zu) (fun a=>out a.1 a.2)
theorem CB(out:List za->za->O)(l:List za)(s:za)(Y:Hp)(Z:Nat)(h:QI l<=zu)(d:s.length<=zu)(f:(out l s).flat=true):zh false [] (FKs out) [.sl 1 (zy l),str s] Y Z=some (out l s,Y,Z):=
 Ja (l,s) _ _ rfl (fun a b e=>by obtain⟨i,j⟩:=a;obtain⟨k,m⟩:=b;simp only[zk,zI]at e;obtain⟨c,g⟩:=e;injection c with _ c;rw[ji c,wR g]) ⟨h,d⟩ (.inl f)
noncomputable def bkP (l:List za) (s:za):O:=.wG [int (JJ l s).1,qS (JJ l s).2]
noncomputable def hkP (l:List za) (s:za):O:=qS (JJ l s).2
noncomputable abbrev Cbk:Ctx:=zR prog [(99,zh false [] (Zr lsP fun _ _=>True)),(152,zh false [] VV)]
theorem Ge(l:List za)(s:za)(A:QI l<=zu)(hs:s.length<=zu):zq Cbk f117 [.sl 1 (zy l),str s]=some (bkP l s):=by
 refine zm rfl ?_;have J:=Zg l;have B:=fun s (hs:s∈l)=>de hs
 unfold zu at A hs;have i:(zy l).length=l.length:=by simp[zy]
 have j:∀(k:Nat) (h:k<(zy l).length) (C:k<l.length),(zy l)[k]=[str l[k]]:=fun k h C=>by simp[zy]
 simp[i];refine Wu (fun st=>st.U 0=.sl 1 (zy l)/\st.U 1=str s/\st.U 6=int l.length/\∃lo hi:Nat,lo<=hi/\hi<=l.length/\st.U 7=int lo/\st.U 8=int hi/\Zk (W6 l s) 0 l.length=Zk (W6 l s) lo hi)
  (fun st=>(Vm (st.U 8)).toNat-(Vm (st.U 7)).toNat) ⟨by simp,by simp,by simp,0,l.length,by simp,by simp,by simp,by simp,rfl⟩ ?_
 rintro⟨U,Y,Z⟩ ⟨p,q,r,lo,hi,D,w,t,u,e⟩;simp only at p q r t u;by_cases c:lo<hi
 ·have z:=wz ((lo:Int)+hi);have E:(lo+hi)/2<l.length:=by omega
  obtain⟨m,x⟩:∃m,m=(lo+hi)/2:=⟨_,rfl⟩;have f:i6.wrap ((IntKind.u64.wrap ((lo:Int)+hi)).fdiv (2 ^ min 1 IntKind.u64.bits))=(m:Int):=by
   have F:IntKind.u64.wrap ((lo:Int)+hi)=(lo:Int)+hi:=by rw[IntKind.wrap_u64];omega
   have G:(2 ^ min 1 IntKind.u64.bits:Int)=2:=by decide
   rw[F,G,Eo _ (by omega),wu (by omega) (by omega)];omega
  have a:m<l.length:=by omega
  have b:m<(zy l).length:=by omega
  have H:=qG m;have y:W6 l s m=Op.bytesLess l[m] s:=by simp only[W6,zl a];rw[qh,zT];exact Yp _ _
  rw[XU (lo:=lo) c,<-x,y]at e;have d:=fun Y Z=>Ud l[m] s Y Z (by have:=B _ (zj a);unfold zu;omega) (by unfold zu;omega)
  cases o:Op.bytesLess l[m] s
  ·rw[o,zc (by simp)]at e;rw[o]at d;simp[p,q,r,t,u,c,z,f,i,b,a,j m b a,d];exact⟨⟨lo,m,by omega,by omega,rfl,rfl,e⟩,by omega⟩
  ·rw[o,zd rfl]at e;rw[o]at d;simp[p,q,r,t,u,c,z,f,i,b,a,j m b a,d,H];exact⟨⟨m+1,hi,by omega,w,by omega,rfl,e⟩,by omega⟩
 ·have e:Zk (W6 l s) 0 l.length=lo:=by rw[e,dd (lo:=lo) c]
  unfold bkP JJ;rw[e];by_cases n:lo<l.length
  ·have g:lo<(zy l).length:=by omega
   have I:(yD l[lo] s==0)=(l[lo]==s):=by rw[qh,yJ,yJ];exact kP _ _
   cases o:l[lo]==s <;>
    simp[p,q,r,t,u,c,n,g,j lo g n,I,o,f117,wa]
  ·have v:l[lo]?=none:=wT (by omega);simp[p,q,r,t,u,c,n,v,f117,wa]
theorem CC:zg prog 117 (zh false [] (FKs bkP)):=
 xy (zU mixed ⟨Gc,pE,trivial⟩:AM.Good Cbk _) func117 false [] fun⟨l,s⟩ ⟨a,hs⟩=>⟨zw (zf 2) (by decide),_,Ge l s a hs,qb _⟩
noncomputable abbrev Chk:Ctx:=zR prog [(117,zh false [] (FKs bkP))]
theorem dh:zg prog 67 (zh false [] (FKs hkP)):=
 xy (zU mixed ⟨CC,trivial⟩:AM.Good Chk _) func67 false [] fun⟨l,s⟩ ⟨b,hs⟩=>by
  have a:=fun Y Z=>CB bkP l s Y Z b hs rfl
  simp only[bkP]at a;exact⟨by simp[f67],_,zm rfl (by simp[a,hkP,wa,f67]),qb _⟩
theorem uH(l:List za)(s:za)(Y:Hp)(Z:Nat)(h:QI l<=zu)(a:s.length<=zu):zh false [] (FKs hkP) [.sl 1 (zy l),str s] Y Z=some (qS (JJ l s).2,Y,Z):=CB hkP l s Y Z h a rfl
theorem uI{l:List za}(a:aq l)(s:za):(JJ l s).2=l.contains s:=by
 rw[qh,List.contains_iff_mem];constructor
 ·intro h;exact zG (F2 h)
 ·intro h;obtain⟨j,b⟩:=oR h;rw[F4 a b]
def qQ(n:za):List qd->Option qd
 |[]=>none
 |s::l=>if s.name=n then some s else qQ n l
theorem XV:∀{L:List qd} {s:za},(∃y∈L,y.name=s)->∃j:Nat,∃h:j<L.length,qQ s L=some L[j]/\L[j].name=s
 |[],s,h=>by obtain⟨y,hy,_⟩:=h;cases hy
 |x::L,s,h=>by
  by_cases a:x.name=s
  ·exact⟨0,by simp,by simp[qQ,a],a⟩
  ·obtain⟨y,hy,e⟩:=h;rcases zv.1 hy with rfl|hy
   ·exact absurd e a
   ·obtain⟨j,b,c,d⟩:=XV ⟨y,hy,e⟩;exact⟨j+1,by simpa using b,by simp[qQ,a,c],by simpa using d⟩
theorem Jh:∀{L:List qd} {s:za},(∀y∈L,y.name≠s)->qQ s L=none
 |[],s,_=>rfl
 |x::L,s,h=>by have a:=h x (by simp);simp only[qQ,zc a];exact Jh fun y b=>h y (by simp[b])
theorem Wl{L:List qd}(h:aq (L.map qd.name))(s:za):(w7 L s=true/\∃a:jj L s<L.length,qQ s L=some L[jj L s]/\L[jj L s].name=s)\/(w7 L s=false/\qQ s L=none):=by
 by_cases b:∃y∈L,y.name=s
 ·obtain⟨j,a,f,d⟩:=XV b;have:=F4 h (j:=j) (s:=s) (by simp[a,d]);unfold w7 jj;rw[this];exact .inl ⟨rfl,a,f,d⟩
 ·refine .inr ⟨?_,Jh fun y g e=>b ⟨y,g,e⟩⟩;unfold w7;cases i:(JJ (L.map qd.name) s).2 with
  |false=>rfl
  |true=>
   have:=F2 i;rw[qo]at this;cases c:L[(JJ (L.map qd.name) s).1]? with
   |none=>rw[c]at this;cases this
   |some y=>rw[c]at this;simp only[zC,z6]at this;exact absurd ⟨y,zG c,this⟩ b
def jX(l:List qd)(n:za):List za:=match qQ n l with
 |some s=>s.cond.names
 |none=>[]
theorem ny{l:List qd}(d:aq (l.map qd.name)){n m:za}(h:m∈jX l n):w7 l n=true/\jj l m∈wH l (jj l n)/\∃s∈l,m∈s.cond.names:=by
 unfold jX at h;rcases Wl d n with⟨b,c,a,e⟩|⟨b,a⟩
 ·rw[a]at h;simp only at h;refine⟨b,?_,_,zj c,h⟩;unfold wH;rw[zl c];exact Wo h
 ·rw[a]at h;cases h
theorem LV{l:List qd}(h:aq (l.map qd.name))(v:∀s∈l,∀n∈s.cond.names,w7 l n=true):(∃s∈l,Ke (jX l) s.cond.names s.name)↔∃i:Nat,Wa (fun a b=>b∈wH l a) i i:=by
 constructor
 ·rintro⟨s,hs,x⟩;obtain⟨i,hi⟩:=oR hs;have d:∀n,Ke (jX l) s.cond.names n->Wa (fun a b=>b∈wH l a) i (jj l n):=by
   intro n k
   induction k with
   |here o=>exact .one (by unfold wH;rw[hi];exact Wo o)
   |there _ p q=>exact .tail q (ny h p).2.1
  have:=d _ x;rw[(Pk h hi).1]at this;exact⟨i,this⟩
 ·rintro⟨i,hi⟩;obtain⟨b,p,_⟩:=hi.head;have f:i<l.length:=by
   refine Nat.lt_of_not_le fun r=>?_
   rw[sv r]at p;cases p
  have d:∀j,Wa (fun a b=>b∈wH l a) i j->∃n,Ke (jX l) l[i].cond.names n/\jj l n=j/\w7 l n=true:=by
   intro j g
   induction g with
   |one e=>unfold wH at e;rw[zl f]at e;obtain⟨n,k,rfl⟩:=qj.1 e;exact⟨n,.here k,rfl,v _ (zj f) n k⟩
   |tail _ e q=>
    obtain⟨n,t,rfl,u⟩:=q;rcases Wl h n with⟨_,g,c,w⟩|⟨c,_⟩
    ·unfold wH at e;rw[zl g]at e;obtain⟨m,o,rfl⟩:=qj.1 e;exact⟨m,.there t (by unfold jX;rw[c];exact o),rfl,v _ (zj g) m o⟩
    ·rw[u]at c;cases c
  obtain⟨n,t,y,u⟩:=d i hi;rcases Wl h n with⟨_,g,c,w⟩|⟨c,_⟩
  ·refine⟨l[i],zj f,?_⟩;have:l[i].name=n:=by rw[<-w];congr 1;simp only[y]
   rw[this];exact t
  ·rw[u]at c;cases c
noncomputable abbrev Crck:Ctx:=zR prog [(38,zh false [] (FS vq))]
theorem iE(l:List za)(h:QI l<=zu):zq Crck f128 [.sl 1 (zy l)]=some (int (vX l)):=by
 have D:=Zg l;have z:=fun s (hs:s∈l)=>de hs
 unfold zu at h;refine zm rfl ?_;unfold vX;by_cases o:(1000:Int)<l.length
 ·rw[zd o];simp[o,f128]
 rw[zc o];simp[o];refine zP (fun k U Y Z=>U 0=.sl 1 (zy l)/\U 8=.sl 1 (zy l)/\U 9=int l.length/\U 10=int k/\J4 none l=J4 (Jg l k) (l.drop k)) l.length
  ⟨by simp,by simp,by simp,by simp,by simp[Jg]⟩ ?_
 rintro k U Y Z E ⟨f,g,i,c,a⟩;by_cases b:k<l.length
 ·have F:=qG k;obtain⟨s,hs⟩:=jc (l[k]);have d:s.length<=zu:=by have:=z s (by rw[<-hs];exact zj b);unfold zu;omega
  rw[np b,hs]at a;have m:Jg l (k+1)=some s:=by simp[Jg,b,hs]
  cases e:vq s
  ·rw[e,zc (by simp)]at a;simp[f,g,i,c,b,hs,d,e,a,f128]
  rw[e,zd rfl]at a;by_cases A:k=0
  ·subst A;have B:=wz 1;simp only[Jg,kr,qH,zF,qR]at a;simp[f,g,i,c,b,hs,d,e,B];exact⟨by omega,by rw[a,m];simp⟩
  ·obtain⟨j,rfl⟩:∃j,k=j+1:=⟨k-1,by omega⟩;have q:j<l.length:=by omega
   have t:i6.wrap ((j:Int)+1-1)=(j:Int):=by rw[wu (by omega) (by omega)];omega
   have n:=wz (j:Int);have u:((j:Int)+1).toNat=j+1:=by omega
   have v:0<(j:Int)+1:=by omega
   have w:0<=(j:Int)+1:=by omega
   have x:(j:Int)+1<l.length:=by omega
   have C:=wz ((j:Int)+1+1);have y:(Op.bytesLess s l[j]||s==l[j])=cD s l[j]:=rfl;have r:Jg l (j+1)=some l[j]:=by simp[Jg,q]
   simp only[r,kr]at a;cases p:cD s l[j]
   ·rw[p,zc (by simp)]at a;simp[f,g,i,c,b,q,hs,d,e,t,n,u,v,w,x,y,p,C];exact⟨by omega,by rw[a,m]⟩
   ·rw[p,zd rfl]at a;simp[f,g,i,c,b,q,hs,d,e,t,n,u,v,w,x,y,p,a,f128]
 ·obtain rfl:k=l.length:=by omega
  rw[zn]at a;have a:J4 none l=0:=by rw[a];rfl
  simp[f,g,i,c,a,f128]
theorem ft:zg prog 128 (zh false [] (LU (fun l=>int (vX l)) fun l=>QI l<=zu)):=
 xy (zU mixed ⟨cA,trivial⟩:AM.Good Crck _) func128 false [] fun l a=>⟨zw (zf 1) (by decide),_,iE l a,qb _⟩
def fY:qd:=⟨[],[],[],.mk 0 [] 0 [] [] [] []⟩
def Zt(r:Option qd):qd:=r.getD fY
def W8(r:Option qd):O:=.wG [.agg (Zt r).V,qS r.isSome]
noncomputable def Gf (out:List qd->za->O) (b:List qd->za->Prop):zb->Option O:=ql (α:=List qd×za) (fun a=>[.sl 10 (a.1.map qd.V),str a.2]) (fun a=>b a.1 a.2) (fun a=>out a.1 a.2)
theorem XW(out:List qd->za->O)(c:List qd->za->Prop)(l:List qd)(s:za)(Y:Hp)(Z:Nat)(h:c l s):zh false [] (Gf out c) [.sl 10 (l.map qd.V),str s] Y Z=some (out l s,Y,Z):=
 Ja (l,s) _ _ (by simp) (fun a b e=>by obtain⟨g,i⟩:=a;obtain⟨j,k⟩:=b;simp only[zk,zI]at e;obtain⟨d,f⟩:=e;rw[xm d,wR f]) h (.inr rfl)
theorem CD{l:List qd}{k:Nat}(h:k<l.length)(s:za):qQ s (l.drop k)=if l[k].name=s then some l[k]else qQ s (l.drop (k+1)):=by rw[ze h,qQ]
theorem Pn:qX (.agg [str [],.nil,.nil,int 0,str [],int 0,.nil,str [],str [],.nil]) (.agg fY.V):=by rw[ye];exact jT.agg (.cons (.refl _) (.cons (.oT (.inl ⟨rfl,rfl⟩)) (.cons (.oT (.inl ⟨rfl,rfl⟩)) (.cons (.refl _) (.cons (.refl _) (.cons (.refl _) (.cons (.oT (.inl ⟨rfl,rfl⟩)) (.cons (.refl _) (.cons (.refl _) (.cons (.oT (.inl ⟨rfl,rfl⟩)) .nil))))))))))
theorem iF(l:List qd)(s:za)(h:l.length<=zu):∃o,zq C0 f42 [.sl 10 (l.map qd.V),str s]=some o/\qX o (W8 (qQ s l)):=by
 unfold zu at h;refine Ym rfl ?_;simp;refine zP (fun k U Y Z=>U 1=str s/\U 4=.ref 0 0 0/\U 8=.sl 10 (l.map qd.V)/\U 9=int l.length/\U 10=int k/\1<=Z/\Y 0=some ⟨48,10,false,[[str [],.nil,.nil,int 0,str [],int 0,.nil,str [],str [],.nil]]⟩/\qQ s l=qQ s (l.drop k)) l.length
  ⟨by simp,by simp,by simp,by simp,by simp,by simp,by simp[z8,qB],by simp⟩ ?_
 rintro k U Y Z r ⟨f,g,i,j,a,p,m,b⟩;have n1:¬0=Z:=by omega
 have c:¬Z=0:=by omega
 by_cases e:k<l.length
 ·have q:=qG k;rw[CD e]at b;by_cases d:l[k].name=s
  ·rw[zd d]at b;have n:(l[k].name==s)=true:=by simpa using d
   rw[b];simp[f,g,i,j,a,e,n,n1,c,m,f42];exact⟨W8 (some l[k]),by simp[W8,Zt,ye],.refl _⟩
  ·rw[zc d]at b;have n:=wU d;simp[f,g,i,j,a,e,n,n1,c,q]
   and_intros<;>first|omega|exact b|simp[n1,c,m]
 ·obtain rfl:k=l.length:=by omega
  rw[zn]at b;rw[b];simp[f,g,i,j,a,qQ,m,z8,qB,f42];refine⟨.wG [.agg [str [],.nil,.nil,int 0,str [],int 0,.nil,str [],str [],.nil],qS false],by simp,?_⟩;exact jT.wG (.cons Pn (.cons (.refl _) .nil))
theorem Zh:zg prog 42 (zh false [] (Gf (fun l s=>W8 (qQ s l)) fun l _=>l.length<=zu)):=
 Qq (fn:=f42) (qw (q:=[]) mixed trivial:AM.Good C0 _) (qD func42) false [] _ fun args r h w S vs a=>by obtain⟨⟨l,s⟩,rfl,b,rfl⟩:=zN h;obtain⟨c,d,e⟩:=iF l s b;exact⟨_,c,a,zw (zf 2) (by decide),d,e⟩
theorem uJ:∀a b:za,uh a b=yD a b
 |[],[]=>by simp[uh,yD,Lib.compareBytes,Op.bytesLess]
 |[],_::_=>by simp[uh,yD,Lib.compareBytes,Op.bytesLess]
 |_::_,[]=>by simp[uh,yD,Lib.compareBytes,Op.bytesLess]
 |a::x,b::y=>by
  have d:=uJ x y;unfold uh yD at d⊢;rcases uE a b with h|rfl|h
  ·simp[Lib.compareBytes,Op.bytesLess,h]
  ·simpa[Lib.compareBytes,Op.bytesLess,bJ]using d
  ·have c:¬a=b:=fun e=>bJ b (e ▸ h)
   simp[Lib.compareBytes,Op.bytesLess,h,nm h,c]
theorem XX{a b:Int}(h:wx a b=0):a=b:=by
 unfold wx at h;split at h
 ·cases h
 ·split at h
  ·cases h
  ·omega
theorem nz{α:Type}(c:α->α->Int){a b:List α}{m:Nat}(f:m<=a.length)(g:m<=b.length)(h:m=a.length\/m=b.length):w9 c (a.drop m) (b.drop m)=wx a.length b.length:=by
 unfold wx;by_cases e:m<a.length
 ·have d:m=b.length:=by omega
  rw[ze e,vi (l:=b) (by omega),zc (by omega),zd (by omega)];rfl
 ·rw[vi (l:=a) (by omega)];by_cases d:m<b.length
  ·rw[ze d,zd (by omega)];rfl
  ·rw[vi (l:=b) (by omega),zc (by omega),zc (by omega)];rfl
theorem uK(a b:Nat):∃m:Nat,(if b<a then(b:Int)else a)=m/\m<=a/\m<=b/\(m=a\/m=b):=by
 by_cases h:b<a
 ·exact⟨b,by rw[zd h],by omega,zf _,.inr rfl⟩
 ·exact⟨a,by rw[zc h],zf _,by omega,.inl rfl⟩
theorem fu(f g:za×qa):jM f g=if yD f.1 g.1=0 then qL f.2 g.2 else yD f.1 g.1:=by
 unfold jM;simp only[KC];split
 ·split
  ·rename_i h;rw[h]
  ·rfl
 ·rfl
noncomputable abbrev Crcm (n:Nat):Ctx:=zR prog [(138,zh false [] (OC n)),(153,zh false [] (SV wx)),(179,zh false [] (Np uh))]
theorem pF(n:Nat)(a b:qa)(h:a.vb<=zu/\a.vb<=n+1/\b.vb<=zu):zq (Crcm n) f138 [.agg a.V,.agg b.V]=some (int (qL a b)):=by
 obtain⟨M,p,o⟩:=h;have X:=xz a;have vb:=xz b;have la:=yY a.items;have lb:=yY b.items;have fa:=jt a.fields;have fb:=jt b.fields;unfold zu at M o;refine zm rfl ?_;have c:=JT a b;by_cases A:a.kind=b.kind
 case neg=>
  rw[zc A]at c;have F:(wx a.kind b.kind != 0)=true:=by rw[zh2];exact fun e=>A (XX e)
  simp[F,c,f138]
 rw[zd A]at c;by_cases G:a.kind=1
 ·rw[zd (.inl G)]at c;have q:b.kind=1:=by omega
  simp[G,q,c,f138]
 by_cases H:a.kind=2
 ·rw[zd (.inr H)]at c;have q:b.kind=2:=by omega
  simp[H,q,c,f138]
 rw[zc (by omega)]at c;by_cases C:a.kind=3
 ·rw[zd C]at c;have q:b.kind=3:=by omega
  have hs:=uJ a.s b.s;simp[C,q,c,hs,f138]
 rw[zc C]at c;by_cases D:a.kind=4
 ·rw[zd D]at c;have q:b.kind=4:=by omega
  obtain⟨m,I,v,w,x⟩:=uK a.items.length b.items.length;rw[c];simp[D,q,I];refine zP (fun k U Y Z=>U 2=.ref 0 0 0/\U 3=.ref 1 0 0/\U 43=int m/\U 44=int k/\Y 0=some ⟨57,5,false,[a.V]⟩/\Y 1=some ⟨57,5,false,[b.V]⟩/\w9 qL a.items b.items=w9 qL (a.items.drop k) (b.items.drop k)) m
   ⟨by simp,by simp,by simp,by simp,by simp,by simp,by simp⟩ ?_
  rintro k U Y Z A ⟨p,o,i,j,t,u,d⟩;by_cases l:k<m
  ·have f:k<a.items.length:=by omega
   have g:k<b.items.length:=by omega
   have N:=jR (zj f);have P:=jR (zj g);have B:=fun Y Z=>Wy n a.items[k] b.items[k] Y Z ⟨by unfold zu;omega,by omega,by unfold zu;omega⟩
   have J:=qG k;rw[ze f,ze g]at d;simp only[w9]at d;by_cases r:qL a.items[k] b.items[k]=0
   ·rw[zd r]at d;simp[p,o,i,j,t,u,l,f,g,B,r,J];exact⟨l,d⟩
   ·rw[zc r]at d;have y:=Za r;simp[p,o,i,j,t,u,l,f,g,B,y,d,f138]
  ·obtain rfl:k=m:=by omega
   rw[nz qL v w x]at d;simp[p,o,i,j,t,u,d,f138]
 rw[zc D]at c;by_cases E:a.kind=5
 ·rw[zd E]at c;have q:b.kind=5:=by omega
  obtain⟨m,I,v,w,x⟩:=uK a.fields.length b.fields.length;rw[c];simp[E,q,I];refine zP (fun k U Y Z=>U 2=.ref 0 0 0/\U 3=.ref 1 0 0/\U 77=int m/\U 78=int k/\Y 0=some ⟨57,5,false,[a.V]⟩/\Y 1=some ⟨57,5,false,[b.V]⟩/\w9 jM a.fields b.fields=w9 jM (a.fields.drop k) (b.fields.drop k)) m
   ⟨by simp,by simp,by simp,by simp,by simp,by simp,by simp⟩ ?_
  rintro k U Y Z A ⟨p,o,i,j,t,u,d⟩;by_cases l:k<m
  ·have f:k<a.fields.length:=by omega
   have g:k<b.fields.length:=by omega
   have N:=vC (zj f);have P:=vC (zj g);have B:=fun Y Z=>Wy n a.fields[k].2 b.fields[k].2 Y Z ⟨by unfold zu;omega,by omega,by unfold zu;omega⟩
   have hs:=uJ a.fields[k].1 b.fields[k].1;have J:=qG k;rw[ze f,ze g]at d;simp only[w9]at d;rw[fu]at d;by_cases z:yD a.fields[k].1 b.fields[k].1=0
   ·rw[zd z]at d;by_cases r:qL a.fields[k].2 b.fields[k].2=0
    ·rw[zd r]at d;simp[p,o,i,j,t,u,l,f,g,B,hs,z,r,J];exact⟨l,d⟩
    ·rw[zc r]at d;have y:=Za r;simp[p,o,i,j,t,u,l,f,g,B,hs,z,y,d,f138]
   ·rw[zc z,zc z]at d;have K:=wU z;have L:=Za z;simp[p,o,i,j,t,u,l,f,g,B,hs,K,L,d,f138]
  ·obtain rfl:k=m:=by omega
   rw[nz jM v w x]at d;simp[p,o,i,j,t,u,d,f138]
 rw[zc E]at c;have Q:=wU G;have R:=wU H;have S:=wU C;have T:=wU D;have W:=wU E;have F:wx a.kind b.kind=0:=by rw[A];simp
 simp[F,Q,R,S,T,W,c,f138]
theorem V8:∀n,zg prog 138 (zh false [] (OC n)):=by
 intro n
 induction n with
 |zero=>
  exact eR ⟨_,func138,by kernel_rfl,by kernel_rfl⟩ fun args r h=>by obtain⟨a,b,_,f,_⟩:=iX h;have:=YG a;omega
 |succ n c=>
  have d:Gd (Crcm n):=zU mixed ⟨c,Q2,mK,trivial⟩;exact wW (fn:=f138) d (qD func138) false [] _ fun args r h=>by obtain⟨a,b,rfl,e,rfl⟩:=iX h;exact⟨zw (zf 2) (by decide),_,pF n a b e,qb _⟩
def JB(s:Int×Bool):Bool:=s.2||decide (200<s.1)
def sw(s r:Int×Bool):Int×Bool:=if JB s then s else(s.1+r.1,s.2||r.2)
mutual
def qe.rp:qe->Int->Int×Bool
 | .mk _ _ _ _ _ _ xs,l=>AX xs l (1,decide (20<l))
def AX:List qe->Int->Int×Bool->Int×Bool
 |[],_,s=>s
 |c::cs,l,s=>AX cs l (sw s (c.rp (l+1)))
end
theorem Po(c:qe)(l:Int):c.rp l=AX c.args l (1,decide (20<l)):=by cases c;rfl
theorem di{l:Int}{s:Int×Bool}(h:JB s=true):∀xs:List qe,AX xs l s=s
 |[]=>rfl
 |c::cs=>by have:sw s (c.rp (l+1))=s:=zd h;simp only[AX];rw[this];exact di h cs
theorem Pp{xs:List qe}{l:Int}{s:Int×Bool}{k:Nat}(h:k<xs.length):AX (xs.drop k) l s=AX (xs.drop (k+1)) l (sw s (xs[k].rp (l+1))):=by rw[ze h,AX]
structure RPC (xs:List qe) (l:Int) (s r:Int×Bool):Prop where
 lo:s.1<=r.1
 hi:r.1<=s.1+yZ xs
 deep:r.2=true->s.2=true\/20<l+(yT xs:Int)
 all:JB r=false->r.1=s.1+yZ xs/\(xs≠[]->l+(yT xs:Int)<=20)
theorem CE(c:qe):∀l,0<=(c.rp l).1/\(c.rp l).1<=c.parts/\((c.rp l).2=true->20<l+(c.levels:Int)-1)/\(JB (c.rp l)=false->(c.rp l).1=c.parts/\l+(c.levels:Int)-1<=20):=by
 induction c using qe.ind with
 |h k a o v p n ys C=>
  intro l;have m:∀(xs:List qe) (s:Int×Bool),0<=s.1->(∀x∈xs,x∈ys)->RPC xs l s (AX xs l s):=by
   intro xs
   induction xs with
   |nil=>intro s _ _;exact⟨by simp[AX],by simp[AX,yZ],fun h=>.inl (by simpa[AX]using h),fun _=>⟨by simp[AX,yZ],fun h=>absurd rfl h⟩⟩
   |cons x xs q=>
    intro s I B;by_cases g:JB s=true
    ·rw[di g];exact⟨by omega,by omega,fun h=>.inl h,fun h=>by rw[g]at h;cases h⟩
    ·have e:AX (x::xs) l s=AX xs l (s.1+(x.rp (l+1)).1,s.2||(x.rp (l+1)).2):=by simp only[AX,sw,g];rfl
     rw[e];obtain⟨J,K,D,E⟩:=C x (B x (by simp)) (l+1);have i:=q (s.1+(x.rp (l+1)).1,s.2||(x.rp (l+1)).2) (by simp only;omega) (fun y F=>B y (by simp[F]));have b:yZ (x::xs)=x.parts+yZ xs:=by simp[yZ]
     have d:yT (x::xs)=max x.levels (yT xs):=by simp[yT]
     have r:=i.lo;have t:=i.hi;simp only at r t;refine⟨by omega,by rw[b];omega,fun h=>?_,fun h=>?_⟩
     ·rw[d];rcases i.deep h with h|h
      ·simp only[qp]at h;rcases h with h|h
       ·exact .inl h
       ·right;have:=D h;omega
      ·right;omega
     ·obtain⟨u,w⟩:=i.all h;have z:JB (x.rp (l+1))=false:=by
       simp only[JB,wE,yw]at h g⊢;refine⟨?_,by omega⟩;cases hd:(x.rp (l+1)).2 with
       |false=>rfl
       |true=>
        exfalso;have A:JB (s.1+(x.rp (l+1)).1,s.2||(x.rp (l+1)).2)=true:=by simp[JB,hd]
        rw[di A]at h;simp[hd]at h
      obtain⟨L,M⟩:=E z;simp only at u;refine⟨by rw[b];omega,fun _=>?_⟩;rw[d];by_cases f:xs=[]
      ·subst f;simp only[yT];omega
      ·have:=w f;omega
  have j:=m ys (1,decide (20<l)) (by simp) fun x z=>z
  rw[Po,XM,br];simp only[qe.args];have G:=j.lo;have H:=j.hi;simp only at G H;refine⟨by omega,by omega,fun h=>?_,fun h=>?_⟩
  ·rcases j.deep h with h|h
   ·simp at h;omega
   ·omega
  ·obtain⟨u,w⟩:=j.all h;simp only at u;refine⟨by omega,?_⟩;by_cases f:ys=[]
   ·rw[f]at h⊢;simp[AX,JB]at h;simp only[yT];omega
   ·have:=w f;omega
theorem LW(c:qe):JB (c.rp 1)=(decide ((200:Int)<c.parts)||decide ((20:Int)<c.levels)):=by
 obtain⟨e,f,b,d⟩:=CE c 1;rw[qh];constructor
 ·intro h;simp only[JB,qp,zT]at h⊢;rcases h with h|h
  ·right;have:=b h;omega
  ·left;omega
 ·intro h;refine yC fun a=>?_
  have a:JB (c.rp 1)=false:=by simpa using a
  obtain⟨g,i⟩:=d a;simp only[JB,wE,yw]at a;simp only[qp,zT]at h;omega
theorem sx(a b:Int):wx a b<0↔0<wx b a:=by
 unfold wx;by_cases c:a<b
 ·rw[zd c,zc (by omega),zd c];omega
 ·by_cases d:b<a
  ·rw[zc c,zd d,zd d];omega
  ·rw[zc c,zc d,zc d,zc c]
theorem fv(a b:za):yD a b<0↔0<yD b a:=by
 have d:=Yp a b;have f:=Yp b a;have i:=kP a b;have g:=kP b a;constructor
 ·intro h;have j:=d.1 h;have n:¬yD b a<0:=fun c=>by have:=xT j (f.1 c);rw[J3]at this;cases this
  have o:¬yD b a=0:=fun e=>by have:=g.1 e;have:=i.2 this.symm;omega
  omega
 ·intro h;refine yC fun c=>?_
  have k:¬a=b:=fun e=>by have:=g.2 e.symm;omega
  have l:cD a b=false:=by
   unfold cD;rw[wE];refine⟨?_,by simpa using k⟩;cases m:Op.bytesLess a b with
   |false=>rfl
   |true=>exact absurd (d.2 m) c
  have:=f.2 (xU l);omega
theorem fw{α:Type}{c:α->α->Int}:∀{a b:List α},(∀x∈a,∀y∈b,c x y<0↔0<c y x)->(∀x∈a,∀y∈b,c x y=0↔c y x=0)->(w9 c a b<0↔0<w9 c b a)/\(w9 c a b=0↔w9 c b a=0)
 |[],[],_,_=>by simp[w9]
 |[],_::_,_,_=>by simp[w9]
 |_::_,[],_,_=>by simp[w9]
 |x::a,y::b,h,i=>by
  have j:=fw (a:=a) (b:=b) (fun u d v f=>h u (by simp[d]) v (by simp[f])) (fun u d v f=>i u (by simp[d]) v (by simp[f]));have k:=h x (by simp) y (by simp);have g:=i x (by simp) y (by simp);simp only[w9];by_cases e:c x y=0
  ·rw[zd e,zd (g.1 e)];exact j
  ·rw[zc e,zc fun l=>e (g.2 l)];exact⟨k,g⟩
theorem fx{α:Type}{c:α->α->Int}{x y:α}(a:c x y<0↔0<c y x)(b:c y x<0↔0<c x y):c x y=0↔c y x=0:=by omega
theorem gK:∀(n:Nat) (a b:qa),a.vb+b.vb<=n->(qL a b<0↔0<qL b a)
 | 0,a,b,h=>by have:=YG a;omega
 |n+1,a,b,h=>by
  have i:=gK n;have q:=xz a;have r:=xz b;rw[JT a b,JT b a];by_cases g:a.kind=b.kind
  case neg=>rw[zc g,zc fun e=>g e.symm];exact sx _ _
  rw[zd g,zd g.symm,<-g];split
  ·exact sx _ _
  split
  ·exact fv _ _
  split
  ·have f:∀x∈a.items,∀y∈b.items,(qL x y<0↔0<qL y x)/\(qL y x<0↔0<qL x y):=fun x c y d=>by have:=jR c;have:=jR d;exact⟨i x y (by omega),i y x (by omega)⟩
   exact(fw (fun x c y d=>(f x c y d).1) fun x c y d=>fx (f x c y d).1 (f x c y d).2).1
  split
  ·have f:∀x∈a.fields,∀y∈b.fields,(jM x y<0↔0<jM y x)/\(jM y x<0↔0<jM x y):=fun x c y d=>by
    have:=vC c;have:=vC d;have m:=i x.2 y.2 (by omega);have o:=i y.2 x.2 (by omega);have j:=fv x.1 y.1;have k:=fv y.1 x.1;have l:=fx j k;rw[fu,fu];by_cases e:yD x.1 y.1=0
    ·rw[zd e,zd (l.1 e)];exact⟨m,o⟩
    ·rw[zc e,zc fun p=>e (l.2 p)];exact⟨j,k⟩
   exact(fw (fun x c y d=>(f x c y d).1) fun x c y d=>fx (f x c y d).1 (f x c y d).2).1
  ·simp
theorem CF(a b:qa):qL b a<=0↔0<=qL a b:=by have:=gK _ a b (zf _);omega
def nA(c:qe):Bool:=!((!(c.kind==4)&&(!c.attr.isEmpty||c.op != 0))||(c.kind != 5&&!c.name.isEmpty))&&!((!((c.kind==4)&&Jf c.op)&&decide (0<c.yp.length))||(!((c.kind==4)&&Zn c.op)&&!c.pat.isEmpty)) &&
 (if c.kind=3 then(c.args.length:Int)==1 else if c.kind=4\/c.kind=5 then((c.args.length:Int)==0&&(!y7 c.op||(c.yp.length:Int)==1))else true)
theorem LX(c:qe)(h:kI c.kind 1 5=true):nA c=!Zo c:=by
 have j:c.kind=1\/c.kind=2\/c.kind=3\/c.kind=4\/c.kind=5:=by simp[kI]at h;omega
 have s:(decide (0<c.args.length))=!((c.args.length:Int)==0):=by
  cases c.args with
  |nil=>rfl
  |cons x l=>simp;omega
 have b:((c.yp.length:Int) != 1)=!((c.yp.length:Int)==1):=rfl;have d:((c.args.length:Int) != 1)=!((c.args.length:Int)==1):=rfl;have f:(c.op != 0)=!(c.op==0):=rfl;have t:c.op=0->y7 c.op=false:=fun e=>by rw[e];rfl
 unfold nA Zo w1F w2F w3F w4F w5F w6F w7F;rw[s,b,d,f];generalize c.attr.isEmpty=m;generalize c.name.isEmpty=n;generalize decide (0<c.yp.length)=o;generalize c.pat.isEmpty=p;generalize Jf c.op=q;generalize Zn c.op=r;generalize ((c.yp.length:Int)==1)=u;generalize ((c.args.length:Int)==0)=a;generalize ((c.args.length:Int)==1)=v;by_cases g:c.op=0
 ·rw[t g,g];rcases j with k|k|k|k|k<;>rw[k]<;>cases m<;>cases n<;>cases o<;>cases p<;>cases a<;>simp[kI]<;>cases q<;>cases r<;>rfl
 ·have i:=wU g;rw[i];generalize y7 c.op=w;rcases j with k|k|k|k|k<;>rw[k]<;>cases m<;>cases n<;>cases o<;>cases p<;>cases a<;>simp[kI]<;>cases q<;>cases r<;>cases w<;>cases u<;>rfl
def LY(n:Int):Bool:=decide (48<=n)&&decide (n<=57)
theorem Pq(c:UInt8):LY c.toNat=KA c:=by rw[qh];simp[LY,KA,pr];omega
theorem V9:zg prog 254 (zh false [] (SU LY)):=
 wW (fn:=f254) jG (qD func254) false [] _ fun args r h=>by obtain⟨a,rfl,rfl⟩:=tQ h;exact⟨by simp[f254],_,zm rfl (by simp[f254,LY]),qb _⟩
noncomputable abbrev Crd:Ctx:=zR prog [(254,zh false [] (SU LY))]
theorem zcJ:AM.Good Crd (fun g=>[254].contains g):=qw mixed ⟨V9,fun _=>zt _ _,trivial⟩
theorem iG(l:za)(h:l.length<=zu):zq Crd f298 [str l]=some (qS (xA l)):=by
 refine zm rfl ?_;unfold zu at h;simp;refine zP (fun k U Y Z=>U 0=str l/\U 5=int l.length/\U 6=int k/\kV l=kV (l.drop k)) l.length ⟨by simp,by simp,by simp,by simp⟩ ?_;rintro k U Y Z j ⟨e,f,g,b⟩;by_cases a:k<l.length
 ·have i:=qG k;rw[eK a]at b;have c:=Pq l[k];cases d:KA l[k]
  ·have b:kV l=false:=by rw[b,d];rfl
   rw[d]at c;simp[e,f,g,a,b,c,xA,f298]
  ·rw[d]at c;simp[e,f,g,a,c,i];exact⟨a,by rw[b,d];rfl⟩
 ·obtain rfl:k=l.length:=by omega
  have b:kV l=true:=by rw[b,zn];rfl
  simp[e,f,g,b,xA,f298]
theorem fy:zg prog 298 (zh false [] (FS xA)):=
 xy zcJ func298 false [] fun l Y=>⟨by simp[f298],_,iG l Y,qb _⟩
def Ji(l:za):Bool:=l.isEmpty||(l.headD 0==48&&!(l==[48]))
theorem LZ(l:za):(!Ji l&&kV l)=yx l:=by
 cases l with
 |nil=>rfl
 |cons c l=>
  cases l with
  |nil=>
   by_cases h:c=48
   ·subst h;rfl
   ·simp[Ji,yx,h]
  |cons d l=>simp[Ji,yx]
theorem uL(l:za)(t:l.length<=zu):zq C0 f253 [str l]=some (qS (yx l)):=by
 refine zm rfl ?_;unfold zu at t;rw[<-LZ];cases j:Ji l
 case true=>
  cases l with
  |nil=>simp[Ji,f253]
  |cons c l=>
   simp only[Ji,List.isEmpty_cons,List.headD_cons,kQ,zz,yJ,yI,wN]at j;obtain⟨rfl,j⟩:=j;have o:l.isEmpty=false:=by cases l with
    |nil=>exact absurd rfl j
    |cons d l=>rfl
   simp[o,f253]
 case false=>
  have a:l≠[]:=fun e=>by subst e;simp[Ji]at j
  have u:0<l.length:=vm.2 a;have m:=wU a;have s:((l[0].toNat:Int)==48&&!(l==[48]))=false:=by
   cases l with
   |nil=>exact absurd rfl a
   |cons c l=>
    have v:((c.toNat:Int)==48)=(c==48):=by rw[qh];simp[<-Qh];omega
    simp only[dV,v];simpa[Ji]using j
  have p:((l[0].toNat:Int)==48&&l != [48])=false:=s;simp[m,a,u,s,p];refine zP (fun k U Y Z=>U 0=str l/\U 16=int l.length/\U 17=int k/\kV l=kV (l.drop k)) l.length ⟨by simp,by simp,by simp,by simp⟩ ?_;rintro k U Y Z x ⟨q,g,h,f⟩;by_cases b:k<l.length
  ·have w:=qG k;rw[eK b]at f;have r:=VQ 48 57 l[k];simp only[ZK]at r;cases n:KA l[k]
   ·have f:kV l=false:=by rw[f,n];rfl
    have i:pr 48 57 l[k]=false:=n;simp[q,g,h,b,f,r,i,f253]
   ·have i:pr 48 57 l[k]=true:=n;simp[q,g,h,b,r,i,w];exact⟨b,by rw[f,n];rfl⟩
  ·obtain rfl:k=l.length:=by omega
   have f:kV l=true:=by rw[f,zn];rfl
   simp[q,g,h,f,f253]
theorem aX:zg prog 253 (zh false [] (FS yx)):=
 xy jG func253 false [] fun l Y=>⟨by simp[f253],_,uL l Y,qb _⟩
def ar(c:UInt8):Bool:=pr 97 122 c||pr 65 90 c||c==45
theorem sy(c:UInt8):JQ c=(ar c||KA c):=by simp only[JQ,ar,KA];cases pr 97 122 c<;>cases pr 65 90 c<;>cases pr 48 57 c<;>simp
theorem Ue(c:UInt8)(h:ar c=true):KA c=false:=by
 cases hd:KA c with
 |false=>rfl
 |true=>
  simp only[ar,KA,pr,qp,zz,zT,yJ]at h hd;rcases h with(h|h)|rfl
  ·omega
  ·omega
  ·simp at hd
theorem L0(l:za)(h:l.all JQ=true):(kI l.length 1 20&&(!(l.all fun c=>!ar c)||yx l))=!wD l:=by
 have e:(l.all fun c=>!ar c)=kV l:=by
  induction l with
  |nil=>rfl
  |cons c l d=>
   simp only[wI,zz]at h;have a:=h.1;rw[sy]at a;rw[wI,d h.2];show _=(KA c&&kV l);cases b:ar c
   ·rw[b,kQ]at a;rw[a];rfl
   ·rw[Ue c b];rfl
 rw[e];unfold wD eJ;rw[h];cases l with
 |nil=>rfl
 |cons c l=>rw[qh];simp[kI];omega
theorem Gg(l:za)(h:l.all JQ=false):wD l=true:=by unfold wD eJ;rw[h];simp
noncomputable abbrev Crip:Ctx:=zR prog [(254,zh false [] (SU LY)),(136,zh false [] (F3 kI)),(253,zh false [] (FS yx))]
theorem Uf:AM.Good Crip (fun g=>[254,136,253].contains g):=qw mixed ⟨V9,fun _=>zt _ _,xr,fun _=>zt _ _,aX,fun _=>zt _ _,trivial⟩
@[simp]theorem zeb:kT Crip 253:=je (by rfl) (zt _ _)
theorem CG(l:za)(q:l.length<=zu):zq Crip f223 [str l]=some (qS (!wD l)):=by
 refine zm rfl ?_;have f:=fun Y Z=>ki yx l Y Z q
 unfold zu at q;simp;refine zP (fun k U Y Z=>U 0=str l/\U 3=qS ((l.take k).all fun c=>!ar c)/\U 8=int l.length/\U 9=int k/\l.all JQ=(l.drop k).all JQ) l.length ⟨by simp,by simp,by simp,by simp,by simp⟩ ?_;rintro k U Y Z t ⟨i,d,j,m,b⟩;by_cases a:k<l.length
 ·have r:=qG k;rw[rY a,sy]at b;have e:(decide ((97:Int)<=l[k].toNat)&&decide ((l[k].toNat:Int)<=122)||decide ((65:Int)<=l[k].toNat)&&decide ((l[k].toNat:Int)<=90)||((l[k].toNat:Int)==45))=ar l[k]:=by
   have s:((l[k].toNat:Int)==45)=(l[k]==45):=by rw[qh];simp[<-Qh];omega
   rw[s,qh];simp[ar,pr,<-Qh];omega
  have hd:=Pq l[k];have g:((l.take (k+1)).all fun c=>!ar c)=(((l.take k).all fun c=>!ar c)&&!ar l[k]):=by rw[qq a,List.all_append];simp
  obtain⟨T,p⟩:=jc ((l.take k).all fun c=>!ar c);rw[p]at d g;cases h:ar l[k]
  ·cases n:KA l[k]
   ·rw[h,n]at b;have b:l.all JQ=false:=b;have o:=Gg l b;rw[h]at e;rw[n]at hd;simp[i,d,j,m,a,e,hd,o,-List.all_eq_true,-List.all_eq_false,f223]
   ·rw[h,n]at b;rw[h]at e g;rw[n]at hd;simp[i,d,j,m,a,e,hd,r,-List.all_eq_true,-List.all_eq_false];exact⟨a,by rw[g];simp,b⟩
  ·rw[h]at b e g;simp[i,d,j,m,a,e,r,-List.all_eq_true,-List.all_eq_false];exact⟨a,by rw[g];simp,b⟩
 ·obtain rfl:k=l.length:=by omega
  have b:l.all JQ=true:=by rw[b,zn];rfl
  have o:=L0 l b;rw[wF]at d;obtain⟨T,p⟩:=jc (l.all fun c=>!ar c);rw[p]at d o;simp[i,d,j,m,f,o,-List.all_eq_true,-List.all_eq_false,f223]
theorem dj:zg prog 223 (zh false [] (FS fun l=>!wD l)):=
 xy Uf func223 false [] fun l Y=>⟨by simp[f223],_,CG l Y,qb _⟩
theorem uM(l:za):zq C0 f227 [str l]=some (qS (yh l)):=by
 refine zm rfl ?_;have e:yh l=(l==[42]||l==[120]||l==[88]):=by unfold yh;cases l==[42]<;>cases l==[120]<;>cases l==[88]<;>rfl
 rw[e];cases a:(l==[42])
 ·cases b:(l==[120])
  ·simp[a,b,f227]
  ·simp[a,b,f227]
 ·simp[a,f227]
theorem pG:zg prog 227 (zh false [] (FS yh)):=
 xy jG func227 false [] fun l Y=>⟨by simp[f227],_,uM l,qb _⟩
noncomputable def FNm:zb->Option O:=ql (α:=za) (fun l=>[str l,int 6]) (fun l=>l.length<=zu) Jc
theorem Pr(l:za)(Y:Hp)(Z:Nat)(h:l.length<=zu):zh false [] FNm [str l,int 6] Y Z=some (.wG [int ((jW l).getD 0),qS (jW l).isSome],Y,Z):=
 Ja l _ _ rfl (fun a b e=>by simp only[zk,zI]at e;exact wR e) h (.inl rfl)
noncomputable abbrev Crnm:Ctx:=zR prog [(253,zh false [] (FS yx)),(200,zh false [] FAt)]
theorem Ug:AM.Good Crnm (fun g=>[253].contains g):=qw mixed ⟨aX,fun _=>zt _ _,mA,by simp,trivial⟩
theorem uN(l:za)(f:l.length<=zu):zq Crnm f222 [str l,int 6]=some (Jc l):=by
 refine zm rfl ?_;have b:=fun Y Z=>ki yx l Y Z f
 cases a:yx l
 ·simp[b,a,Jc,jW,wa,f222]
 ·by_cases e:l.length<=6
  ·have c:¬((6:Int)<l.length):=by omega
   have g:=fun Y Z=>rZ l Y Z (by omega) a
   simp[b,a,e,c,g,Jc,jW,wa,f222]
  ·have c:(6:Int)<l.length:=by omega
   have d:6<l.length:=by omega
   simp[b,a,e,d,c,Jc,jW,wa,f222]
theorem pH:zg prog 222 (zh false [] FNm):=
 xy Ug func222 false [] fun l Y=>⟨by simp[f222],_,uN l Y,qb _⟩
noncomputable abbrev Crcp:Ctx:=zR prog [(298,zh false [] (FS xA)),(255,zh false [] (Zr tlP fun _ b=>mv b)),(153,zh false [] (SV wx)),(179,zh false [] (Np uh)),(188,zh false [] Nq)]
theorem Uh:Gd Crcp:=zU mixed ⟨fy,YI,Q2,mK,VW,trivial⟩
theorem fA(a b:za)(g:a.length<=zu)(h:b.length<=zu):zq Crcp f288 [str a,str b]=some (int (wP a b)):=by
 refine zm rfl ?_;have c:=fun Y Z=>ki xA a Y Z g
 have d:=fun Y Z=>ki xA b Y Z h
 have j:=fun Y Z=>iW a Y Z g
 have tb:=fun Y Z=>iW b Y Z h
 have i:=uJ;cases e:xA a<;>cases f:xA b
 ·simp[c,d,e,f,wP,i,f288]
 ·simp[c,d,e,f,wP,f288]
 ·simp[c,d,e,f,wP,f288]
 ·have k:∀(Y:Hp) (Z id:Nat),Y id=some ⟨3,1,true,[[int (wx (Lib.trimLeftB a 48).length (Lib.trimLeftB b 48).length)],[int (yD (Lib.trimLeftB a 48) (Lib.trimLeftB b 48))]]⟩->zh false [] Nq [.own id 0 2] Y Z=some (int (KC [wx (Lib.trimLeftB a 48).length (Lib.trimLeftB b 48).length,yD (Lib.trimLeftB a 48) (Lib.trimLeftB b 48)]),Y,Z):=fun Y Z id l=>cO [_,_] Y Z id _ (by show 2<=zu;decide) l
  simp[c,d,j,tb,e,f,k,i,zp,zE,zo,wP,f288]
theorem dk:zg prog 288 (zh false [] (Zr (fun a b=>int (wP a b)) fun _ _=>True)):=
 wW (fn:=f288) Uh (qD func288) false [] _ fun args r h=>by obtain⟨a,b,rfl,c,d,_,rfl⟩:=kl h;exact⟨by simp[f288],_,fA a b c d,qb _⟩
noncomputable abbrev Crcv:Ctx:=zR prog [(153,zh false [] (SV wx)),(188,zh false [] Nq),(288,zh false [] (Zr (fun a b=>int (wP a b)) fun _ _=>True))]
theorem Ui:AM.Good Crcv (fun g=>[153,188,288].contains g):=qw mixed ⟨Q2,fun _=>zt _ _,VW,fun _=>zt _ _,dk,fun _=>zt _ _,trivial⟩
theorem Vw(v w:wy)(W:v.small)(X:w.small):zq Crcv f264 [.agg v.V,.agg w.V]=some (int (xI v w)):=by
 obtain⟨a,b,c,p⟩:=v;obtain⟨t,u,x,f⟩:=w;obtain⟨Y1,Y2⟩:=W;obtain⟨y,z⟩:=X;simp only at Y1 Y2 y z;refine zm rfl ?_;obtain⟨o,S⟩:=jc (KC [wx a t,wx b u,wx c x]);have j:∀(Y:Hp) (Z id:Nat),Y id=some ⟨3,1,true,[[int (wx a t)],[int (wx b u)],[int (wx c x)]]⟩->zh false [] Nq [.own id 0 3] Y Z=some (int o,Y,Z):=fun Y Z id hh=>S ▸ cO [_,_,_] Y Z id _ (by show 3<=zu;decide) hh
 have d:xI ⟨a,b,c,p⟩ ⟨t,u,x,f⟩=if o=0 then(if p.length=0 then(if f.length=0 then 0 else 1)else if f.length=0 then -1 else w9 wP p f)else o:=by rw[<-S];rfl
 by_cases F:o=0
 case neg=>have G:=Za F;simp[wy.V,j,zp,zE,zo,F,G,d,f264]
 subst F;have g:(zy p).length=p.length:=by simp[zy]
 have e:(zy f).length=f.length:=by simp[zy]
 by_cases A:p.length=0
 ·have s:wx f.length 0=if f.length=0 then 0 else 1:=by unfold wx;split<;>(try split)<;>(try split)<;>first|omega|rfl
  simp[wy.V,j,zp,zE,zo,A,d,g,e,s,f264]
 by_cases H:f.length=0
 ·have n:((p.length:Int)==0)=false:=by simpa using A
  have s:wx 0 p.length=-1:=by unfold wx;rw[zd (by omega)]
  simp[wy.V,j,zp,zE,zo,A,n,H,d,g,e,s,f264]
 have n:((p.length:Int)==0)=false:=by simpa using A
 have I:((f.length:Int)==0)=false:=by simpa using H
 obtain⟨m,hm,J,K,B⟩:=uK p.length f.length;unfold zu at Y1 y;have d:xI ⟨a,b,c,p⟩ ⟨t,u,x,f⟩=w9 wP p f:=by rw[d];simp[A,H]
 rw[d];simp[wy.V,j,zp,zE,zo,n,I,g,e,hm];refine zP (fun k U Y Z=>U 2=.ref 0 0 0/\U 3=.ref 1 0 0/\Y 0=some ⟨135,4,false,[[int a,int b,int c,.sl 1 (zy p)]]⟩/\Y 1=some ⟨135,4,false,[[int t,int u,int x,.sl 1 (zy f)]]⟩/\U 51=int m/\U 52=int k/\w9 wP p f=w9 wP (p.drop k) (f.drop k)) m
  ⟨by simp,by simp,by simp,by simp,by simp,by simp,by simp⟩ ?_
 rintro k U Y Z hk ⟨L,M,N,P,q,r,l⟩;by_cases C:k<m
 ·have h:k<p.length:=by omega
  have i:k<f.length:=by omega
  have Q:=qG k;have s:=fun Y Z=>r9 p[k] f[k] Y Z (Y2 _ (zj h)) (z _ (zj i))
  have T:=JR h;have D:=JR i;rw[ze h,ze i]at l;simp only[w9]at l;by_cases E:wP p[k] f[k]=0
  ·rw[zd E]at l;simp[L,M,q,r,N,P,C,h,i,g,e,T,D,s,E,Q];exact⟨by omega,l⟩
  ·rw[zc E]at l;have R:=Za E;simp[L,M,q,r,N,P,C,h,i,g,e,T,D,s,R,l,f264]
 ·obtain rfl:k=m:=by omega
  rw[nz wP J K B]at l;simp[L,M,q,r,N,P,g,e,l,f264]
theorem KO:zg prog 264 (qn [.g jY,.g jY] (Oz fun v w=>int (xI v w))):=
 wO (fn:=f264) Ui (qD func264) _ _ fun args r h=>by obtain⟨⟨v,w⟩,rfl,⟨a,b⟩,rfl⟩:=zN h;exact⟨by simp[f264],_,Vw v w a b,qX.refl _⟩
noncomputable abbrev Crcu:Ctx:=zR prog [(264,qn [.g jY,.g jY] (Oz fun v w=>int (xI v w)))]
theorem Uj:Gd Crcu:=zU mixed ⟨KO,trivial⟩
theorem dm(x y:Cut)(l:x.v.small)(m:y.v.small):zq Crcu f233 [.agg x.V,.agg y.V]=some (int (wb x y)):=by
 obtain⟨⟨a,b,c,p⟩,f⟩:=x;obtain⟨⟨h,i,j,k⟩,f'⟩:=y;refine zm rfl ?_;have d:=fun Y Z=>uk ⟨a,b,c,p⟩ ⟨h,i,j,k⟩ Y Z l m
 simp only[wy.V]at d;by_cases e:xI ⟨a,b,c,p⟩ ⟨h,i,j,k⟩=0
 ·cases f<;>cases f'<;>simp[Cut.V,d,e,wb,f233]
 ·have g:=wU e;simp[Cut.V,d,e,g,wb,f233]
theorem xf:zg prog 233 (qn [.g jm,.g jm] (um fun v w=>int (wb v w))):=
 wO (fn:=f233) Uj (qD func233) _ _ fun args r h=>by obtain⟨⟨v,w⟩,rfl,⟨a,b⟩,rfl⟩:=zN h;exact⟨by simp[f233],_,dm v w a b,qX.refl _⟩
theorem L1{l:List qK}{c:Cut}{k:Nat}(h:k<l.length):yl (l.drop k) c=(kY l[k] c||yl (l.drop (k+1)) c):=by rw[ze h];rfl
noncomputable abbrev Crco:Ctx:=zR prog [(233,qn [.g jm,.g jm] (um fun v w=>int (wb v w)))]
theorem Uk:AM.Good Crco (fun g=>[233].contains g):=qw mixed ⟨xf,fun _=>yG _ _,trivial⟩
theorem uO(l:List qK)(c:Cut)(D:yE l)(B:c.v.small):zq Crco f185 [.sl 11 (zW l),.agg c.V]=some (qS (yl l c)):=by
 obtain⟨y,z⟩:=D;refine zm rfl ?_;unfold zu at y;have d:(zW l).length=l.length:=by simp[zW]
 simp[d,Cut.V];refine zP (fun k U Y Z=>U 3=.ref 0 0 0/\1<=Z/\Y 0=some ⟨179,5,false,[c.V]⟩/\U 7=.sl 11 (zW l)/\U 8=int l.length/\U 9=int k/\yl l c=yl (l.drop k) c) l.length
  ⟨by simp,by simp,by simp[Cut.V],by simp,by simp,by simp,by simp⟩ ?_
 rintro k U Y Z F ⟨j,E,m,n,o,p,g⟩;by_cases b:k<l.length
 ·have C:=qG k;obtain⟨s,hs⟩:=jc (l[k]);have q:s.small:=z s (by rw[<-hs];exact zj b);have e:∀h:k<(zW l).length,(zW l)[k]=s.V:=fun h=>by simp[zW,hs]
  have r:=fun Y Z=>ZD s.lo c Y Z q.1 B
  have t:=fun Y Z=>ZD c s.hi Y Z B q.2
  have w:¬0=Z:=by omega
  have n1:¬Z=0:=by omega
  rw[L1 b,hs]at g;have f:kY s c=(decide (wb s.lo c<=0)&&(s.yv||decide (wb c s.hi<0))):=rfl;simp only[qK.V,Cut.V,q6,jJ]at r t e m;cases x:kY s c
  ·rw[x,kQ]at g;rw[x]at f;by_cases A:wb s.lo c<=0
   ·rw[Em A,jK]at f;have a:=f.symm;rw[wE]at a;simp[j,n,o,p,b,d,e,r,t,m,w,n1,A,a.1,a.2,C,-decide_eq_false_iff_not];exact⟨by omega,rfl,g⟩
   ·simp[j,n,o,p,b,d,e,r,t,m,w,n1,A,C];exact⟨by omega,rfl,g⟩
  ·rw[x,dU]at g;rw[x]at f;have a:=f.symm;simp only[zz,zT]at a;have u:=a.2;cases i:s.yv
   ·rw[i,kQ,zT]at u;simp[j,n,o,p,b,d,e,r,t,m,w,n1,a.1,i,u,g,f185]
   ·simp[j,n,o,p,b,d,e,r,t,m,w,n1,a.1,i,g,f185]
 ·obtain rfl:k=l.length:=by omega
  have g:yl l c=false:=by rw[g,zn];rfl
  simp[j,n,o,p,g,f185]
theorem aY:zg prog 185 (qn [.s 11 jn,.g jm] (FRC fun l c=>qS (yl l c))):=
 wO (fn:=f185) Uk (qD func185) _ _ fun args r h=>by obtain⟨⟨l,c⟩,rfl,⟨a,b⟩,rfl⟩:=zN h;exact⟨by simp[f185],_,uO l c a b,qX.refl _⟩
def QP(w:Int)(a b:Bool):Bool:=if w=0 then a||b else if w=1 then a&&b else a&&!b
def FTk:zb->Option O
 |[.v (.int .i64 w),.v (.bool a),.v (.bool b)]=>some (qS (QP w a b))
 |_=>none
@[simp]theorem Xa(w:Int)(a b:Bool)(Y:Hp)(Z:Nat):zh false [] FTk [.v (.int .i64 w),.v (.bool a),.v (.bool b)] Y Z=some (qS (QP w a b),Y,Z):=yA rfl rfl (.inl rfl)
theorem CH:zg prog 231 (zh false [] FTk):=
 wW (fn:=f231) jG (qD func231) false [] _ fun args r h=>by
  have:∃w a b,args=[int w,qS a,qS b]/\r=qS (QP w a b):=by
   unfold FTk at h;split at h
   ·injection h with h;exact⟨_,_,_,rfl,h.symm⟩
   ·cases h
  obtain⟨w,a,b,rfl,rfl⟩:=this;refine⟨by simp[f231],_,zm rfl ?_,qb _⟩;by_cases c:w=0
  ·subst c;simp[QP,f231]
  ·have d:=wU c;by_cases e:w=1
   ·subst e;simp[QP,f231]
   ·have f:=wU e;simp[c,d,e,f,QP,f231]
def y8(st:Part×Bool)(i:Nat)(t:za):Option (Part×Bool):=
 if yh t=true then some (st.1,true)else if st.2=false/\(jW t).isSome=true then some (st.1.put i ((jW t).getD 0),false)else none
def yy:Part×Bool->Nat->List za->Option (Part×Bool)
 |st,_,[]=>some st
 |st,i,t::l=>match y8 st i t with
  |some q=>yy q (i+1) l
  |none=>none
def rdR(s:za):Option Part:=if 3<(qc (Lib.cut s [45]).1 [46]).length then none else
 match yy (q9,false) 0 (qc (Lib.cut s [45]).1 [46])with
 |none=>none
 |some st=>if(jH s).any wD=true then none else if((Lib.cut s [45]).2.2=false\/st.1.has=3)/\(jH s).length<=10 then some {st.1 with pre:=jH s}else none
def Qe(s:za):Option Part:=match rdR s with
 |some p=>if p.has=0 then none else some p
 |none=>none
theorem Qy{t:za}(h:yh t=true):jW t=none:=by simp only[yh,qp,yJ]at h;rcases h with(rfl|rfl)|rfl<;>rfl
theorem dn(p:Part)(i:Nat)(n:Int):(p.put i n).has=p.has+1/\(p.put i n).pre=p.pre:=by unfold Part.put;split<;>exact⟨rfl,rfl⟩
theorem fB:∀(l:List za) (p:Part) (i:Nat),p.has<i->i≠0->(yy (p,true) i l).map (·.1)=yi p i l/\∀st,yy (p,true) i l=some st->st.1=p
 |[],p,i,_,_=>⟨rfl,fun st h=>by simp only[yy]at h;injection h with h;rw[<-h]⟩
 |t::l,p,i,h,hi=>by
  have b:¬p.has=i:=by omega
  obtain⟨e,f⟩:=fB l p (i+1) (by omega) (by omega);by_cases a:yh t=true
  ·have c:y8 (p,true) i t=some (p,true):=by simp[y8,a]
   have d:wK p i t=some p:=by simp[wK,a,hi,Qy a]
   simp only[yy,yi,c,d];exact⟨e,f⟩
  ·have c:y8 (p,true) i t=none:=by simp[y8,a]
   have d:wK p i t=none:=by simp[wK,a,b]
   simp only[yy,yi,c,d];exact⟨rfl,fun st h=>by cases h⟩
theorem CI:∀(l:List za) (p:Part) (i:Nat),p.has=i->i≠0->(yy (p,false) i l).map (·.1)=yi p i l
 |[],p,i,_,_=>rfl
 |t::l,p,i,h,hi=>by
  by_cases a:yh t=true
  ·have b:y8 (p,false) i t=some (p,true):=by simp[y8,a]
   have c:wK p i t=some p:=by simp[wK,a,hi,Qy a]
   simp only[yy,yi,b,c];exact(fB l p (i+1) (by omega) (by omega)).1
  ·cases d:jW t with
   |none=>
    have b:y8 (p,false) i t=none:=by simp[y8,a,d]
    have c:wK p i t=none:=by simp[wK,a,d]
    simp only[yy,yi,b,c];rfl
   |some n=>
    have b:y8 (p,false) i t=some (p.put i n,false):=by simp[y8,a,d]
    have c:wK p i t=some (p.put i n):=by simp[wK,d,h]
    simp only[yy,yi,b,c];exact CI l (p.put i n) (i+1) (by rw[(dn p i n).1];omega) (by omega)
theorem L2(t:za)(l:List za):(∃st,yy (q9,false) 0 (t::l)=some st/\((st.1.has=0/\yi q9 0 (t::l)=none)\/(1<=st.1.has/\yi q9 0 (t::l)=some st.1)))\/(yy (q9,false) 0 (t::l)=none/\yi q9 0 (t::l)=none):=by
 by_cases b:yh t=true
 ·have c:y8 (q9,false) 0 t=some (q9,true):=by simp[y8,b]
  have a:wK q9 0 t=none:=by simp[wK,Qy b]
  simp only[yy,yi,c,a];cases d:yy (q9,true) 1 l with
  |none=>exact .inr ⟨by simp,trivial⟩
  |some st=>have:=(fB l q9 1 (by show(0:Int)<1;omega) (by omega)).2 st d;exact .inl ⟨st,by simp,.inl ⟨by rw[this];rfl,trivial⟩⟩
 ·cases e:jW t with
  |none=>
   have c:y8 (q9,false) 0 t=none:=by simp[y8,b,e]
   have a:wK q9 0 t=none:=by simp[wK,b,e]
   simp only[yy,yi,c,a];exact .inr ⟨trivial,trivial⟩
  |some n=>
   have c:y8 (q9,false) 0 t=some (q9.put 0 n,false):=by simp[y8,b,e]
   have a:wK q9 0 t=some (q9.put 0 n):=by simp[wK,e,q9]
   have g:(q9.put 0 n).has=1:=by rw[(dn q9 0 n).1];rfl
   have hs:=CI l (q9.put 0 n) 1 g (by omega);simp only[yy,yi,c,a];cases d:yy (q9.put 0 n,false) 1 l with
   |none=>rw[d]at hs;exact .inr ⟨by simp,by simpa using hs.symm⟩
   |some st=>
    rw[d]at hs;simp only[zC]at hs;refine .inl ⟨st,by simp,.inr ⟨?_,by simpa using hs.symm⟩⟩;have f:yi q9 0 (t::l)=some st.1:=by simp only[yi,a];simpa using hs.symm
    have:=(lg (t::l) q9 st.1 0 f (by simp[q9])).2.2.2.2.2.1;exact this (by simp)
theorem zcK{s:za}(h:Lib.contains s [45]=false):Lib.cut s [45]=(s,[],false):=by unfold Lib.contains at h;rw[yw]at h;unfold Lib.cut;rw[zc h]
theorem Ul{s:za}(h:Lib.contains s [45]=true):(Lib.cut s [45]).2.2=true:=by unfold Lib.contains at h;rw[zT]at h;unfold Lib.cut;rw[zd h]
theorem Um(a b c:Int)(l:List za)(f:0<=a/\a<=999999)(g:0<=b/\b<=999999)(i:0<=c/\c<=999999):yS ⟨a,b,c,l⟩=0↔l.any wD=false/\l.length<=10:=by
 have e:kI a 0 999999=true/\kI b 0 999999=true/\kI c 0 999999=true:=by simp[kI];omega
 unfold yS;rw[zd e];simp only;by_cases d:10<l.length
 ·rw[zd d];constructor
  ·intro h;cases h
  ·rintro⟨_,h⟩;omega
 ·rw[zc d];cases j:l.any wD
  ·simp;omega
  ·simp
theorem lj(s:za):Qe s=if(zQ s).2=true then some (zQ s).1 else none:=by
 cases K:Lib.contains s [45]
 ·have o:=zcK K;have p:jH s=[]:=by unfold jH;rw[o];rfl
  unfold Qe rdR zQ;simp only[K,zF,qR,o,p];by_cases x:3<(qc s [46]).length
  ·rw[zd x,zd x];rfl
  rw[zc x,zc x];obtain⟨t,l,C⟩:∃t l,qc s [46]=t::l:=by
   cases h:qc s [46]with
   |nil=>exact absurd h (sk _ _)
   |cons t l=>exact⟨t,l,rfl⟩
  rw[C];rcases L2 t l with⟨st,D,⟨B,w⟩|⟨B,w⟩⟩|⟨D,w⟩
  ·rw[D,w];simp[B]
  ·have Y:st.1.pre=[]:=(lg (t::l) q9 st.1 0 w (by simp[q9])).2.2.2.2.2.2;have P:({st.1 with pre:=[]}:Part)=st.1:=by obtain⟨⟨a,b,c,d,e⟩,f⟩:=st;simp only at Y;subst Y;rfl
   have Q:¬st.1.has=0:=by omega
   rw[D,w];simp[Q,P]
  ·rw[D,w];rfl
 ·have o:=Ul K;unfold Qe rdR zQ;rw[zd K,o];simp only[Bool.true_eq_false,false_or];obtain⟨l,C⟩:=jc (qc (Lib.cut s [45]).1 [46]);obtain⟨pre,p⟩:=jc (jH s);rw[C,p];have j:∀(m:List za) (st v:Part×Bool) (i:Nat),yy st i m=some v->v.1.has<=st.1.has+m.length:=by
   intro m
   induction m with
   |nil=>intro st v i h;simp only[yy]at h;injection h with h;rw[<-h];simp
   |cons t m R=>
    intro st v i h;simp only[yy]at h;cases hs:y8 st i t with
    |none=>rw[hs]at h;cases h
    |some q=>
     rw[hs]at h;have D:=R q v (i+1) h;have B:q.1.has<=st.1.has+1:=by
      unfold y8 at hs;split at hs
      ·injection hs with hs;rw[<-hs];simp only;omega
      ·split at hs
       ·injection hs with hs;rw[<-hs];simp only;rw[(dn _ _ _).1];omega
       ·cases hs
     simp only[zO];omega
  by_cases x:l.length=3
  ·obtain⟨u,r,k,rfl⟩:∃a b c,l=[a,b,c]:=Om x;unfold cK;rw[C,p];simp only;have y:¬3<[u,r,k].length:=by simp
   rw[zc y];cases E:jW u with
   |none=>
    have F:∀st,yy (q9,false) 0 [u,r,k]=some st->st.1.has<=2:=by
     intro st h;simp only[yy]at h;cases hs:y8 (q9,false) 0 u with
     |none=>rw[hs]at h;cases h
     |some q=>
      rw[hs]at h;have M:q.1.has=0:=by
       unfold y8 at hs;split at hs
       ·injection hs with hs;rw[<-hs];rfl
       ·rw[E]at hs;simp at hs
      have:=j [r,k] q st 1 (by simpa[yy]using h);simp only[zO,yV]at this;omega
    cases g:yy (q9,false) 0 [u,r,k]with
    |none=>rfl
    |some st=>
     have B:=F st g;have n:¬(st.1.has=3/\pre.length<=10):=by omega
     simp only[zc n];cases pre.any wD<;>rfl
   |some a=>
    have S:yh u=false:=by
     cases h:yh u with
     |false=>rfl
     |true=>rw[Qy h]at E;cases E
    have L:y8 (q9,false) 0 u=some (q9.put 0 a,false):=by simp[y8,S,E]
    cases G:jW r with
    |none=>
     have F:∀st,yy (q9,false) 0 [u,r,k]=some st->st.1.has<=2:=by
      intro st h;simp only[yy,L]at h;cases hs:y8 (q9.put 0 a,false) (0+1) r with
      |none=>rw[hs]at h;cases h
      |some q=>
       rw[hs]at h;have M:q.1.has=1:=by
        unfold y8 at hs;split at hs
        ·injection hs with hs;rw[<-hs];rfl
        ·rw[G]at hs;simp at hs
       have:=j [k] q st 2 (by simpa[yy]using h);simp only[zO,yV]at this;omega
     cases g:yy (q9,false) 0 [u,r,k]with
     |none=>rfl
     |some st=>
      have B:=F st g;have n:¬(st.1.has=3/\pre.length<=10):=by omega
      simp only[zc n];cases pre.any wD<;>rfl
    |some b=>
     have T:yh r=false:=by
      cases h:yh r with
      |false=>rfl
      |true=>rw[Qy h]at G;cases G
     have N:y8 (q9.put 0 a,false) (0+1) r=some ((q9.put 0 a).put 1 b,false):=by simp[y8,T,G]
     cases H:jW k with
     |none=>
      have F:∀st,yy (q9,false) 0 [u,r,k]=some st->st.1.has<=2:=by
       intro st h;simp only[yy,L,N]at h;cases hs:y8 ((q9.put 0 a).put 1 b,false) (0+1+1) k with
       |none=>rw[hs]at h;cases h
       |some q=>
        rw[hs]at h;have M:q.1.has=2:=by
         unfold y8 at hs;split at hs
         ·injection hs with hs;rw[<-hs];rfl
         ·rw[H]at hs;simp at hs
        simp only at h;injection h with h
        rw[<-h];omega
      cases g:yy (q9,false) 0 [u,r,k]with
      |none=>rfl
      |some st=>
       have B:=F st g;have n:¬(st.1.has=3/\pre.length<=10):=by omega
       simp only[zc n];cases pre.any wD<;>rfl
     |some c=>
      have W:yh k=false:=by
       cases h:yh k with
       |false=>rfl
       |true=>rw[Qy h]at H;cases H
      have X:y8 ((q9.put 0 a).put 1 b,false) (0+1+1) k=some (((q9.put 0 a).put 1 b).put 2 c,false):=by simp[y8,W,H]
      have g:yy (q9,false) 0 [u,r,k]=some (((q9.put 0 a).put 1 b).put 2 c,false):=by simp only[yy,L,N,X]
      rw[g];have I:=Um a b c pre (ZZ E) (ZZ G) (ZZ H);by_cases J:yS ⟨a,b,c,pre⟩=0
      ·obtain⟨z,A⟩:=I.1 J;simp[J,z,A,q9,Part.put]
      ·have y:¬(pre.any wD=false/\pre.length<=10):=fun h=>J (I.2 h)
       cases z:pre.any wD
       ·have A:¬pre.length<=10:=fun h=>y ⟨z,h⟩
        simp[J,A]
       ·simp[J]
  ·have hd:cK s=none:=by
    unfold cK;rw[C];split
    ·exact absurd rfl x
    ·rfl
   rw[hd];simp only[zF,qR];by_cases w:3<l.length
   ·rw[zd w]
   rw[zc w];cases g:yy (q9,false) 0 l with
   |none=>rfl
   |some st=>
    have h5:=j l (q9,false) st 0 g;have h6:st.1.has<=2:=by have:(q9:Part).has=0:=rfl;simp only[this]at h5;omega
    have n:¬(st.1.has=3/\pre.length<=10):=by omega
    simp only[zc n];cases pre.any wD<;>rfl
end Go.Q
namespace Go.AM
def bK(sh:Sh)(r y z:O)(x:O)(Y:Hp)(_:Nat):Prop:=∃a,(AM.freeze Y x).map (·.1)=some (.wG [a,y,z])/\sh.fix a=r
theorem pI{C:Ctx}{fn:Func}{code:Code}{args:zb}{sh:Sh}{r y z:O}(b:fn.body=some code)
  (h:Zy C code ⟨j9 args,fun _=>none,0⟩ (Jt C.P fn (bK sh r y z))):∃a,zq C fn args=some a/\qX a (.wG [r,y,z]):=by
 obtain⟨x,f,g,c,a,d,e⟩:=qE b h;exact⟨.wG [a,y,z],by unfold zq;simp only[c];exact d,e ▸ (jT.cons (Ky sh a) (.cons (qX.refl y) (.cons (qX.refl z) .nil))).wG⟩
end Go.AM
namespace Go.Q
def WC(s:za):wy×Int×Bool:=if 3<(qc (Lib.cut s [45]).1 [46]).length then(Vd,0,false)else
 match yy (q9,false) 0 (qc (Lib.cut s [45]).1 [46])with
 |none=>(Vd,0,false)
 |some st=>if(jH s).any wD=true then(⟨st.1.n0,st.1.n1,st.1.n2,jH s⟩,0,false)else(⟨st.1.n0,st.1.n1,st.1.n2,jH s⟩,st.1.has,(!(Lib.cut s [45]).2.2||st.1.has==3)&&decide ((jH s).length<=10))
def A3(s:za):O:=.wG [.agg (WC s).1.V,int (WC s).2.1,qS (WC s).2.2]
theorem Gh{st:Part×Bool}{k:Nat}{l:List za}(h:k<l.length):yy st k (l.drop k)=match y8 st k l[k]with
  |some q=>yy q (k+1) (l.drop (k+1))
  |none=>none:=by
 rw[ze h];rfl
noncomputable abbrev Crrv:Ctx:=zR prog [(161,zh false [] (Zr ph fun _ _=>True)),(162,yR [] FSp),(222,zh false [] FNm),(223,zh false [] (FS fun l=>!wD l))]
theorem Un:Gd Crrv:=zU mixed ⟨mu,Ww,pH,dj,trivial⟩
theorem dp(t:za)(ht:t.length+1<=zu):∃r0,zq Crrv f180 [str t]=some r0/\qX r0 (A3 t):=by
 refine pI (sh:=.g jY) (r:=.agg (WC t).1.V) (y:=int (WC t).2.1) (z:=qS (WC t).2.2) rfl ?_;have hcl:=Ol t [45];have u:=fun Y Z=>mr t [45] Y Z (by omega) (by decide)
 have E:=fun Y Z=>ZW (Lib.cut t [45]).1 [46] Y Z (by omega) (by decide) (by decide)
 have v:=fun Y Z=>ZW (Lib.cut t [45]).2.1 [46] Y Z (by omega) (by decide) (by decide)
 have G:∀p∈qc (Lib.cut t [45]).1 [46],p.length<=zu:=fun p Y=>by have:=vr Y;omega
 have H:∀p∈qc (Lib.cut t [45]).2.1 [46],p.length<=zu:=fun p Y=>by have:=vr Y;omega
 have I:(qc (Lib.cut t [45]).2.1 [46]).length<=zu:=by have:=xQ (s:=(Lib.cut t [45]).2.1) (sep:=[46]) (by simp);omega
 have m:jH t=if(Lib.cut t [45]).2.2=true then qc (Lib.cut t [45]).2.1 [46]else[]:=rfl
 have a:WC t=if 3<(qc (Lib.cut t [45]).1 [46]).length then(Vd,0,false)else
   match yy (q9,false) 0 (qc (Lib.cut t [45]).1 [46])with
   |none=>(Vd,0,false)
   |some st=>if(jH t).any wD=true then(⟨st.1.n0,st.1.n1,st.1.n2,jH t⟩,0,false)else(⟨st.1.n0,st.1.n1,st.1.n2,jH t⟩,st.1.has,(!(Lib.cut t [45]).2.2||st.1.has==3)&&decide ((jH t).length<=10)):=rfl
 obtain⟨l,hl⟩:=jc (qc (Lib.cut t [45]).1 [46]);obtain⟨n,w⟩:=jc (qc (Lib.cut t [45]).2.1 [46]);obtain⟨c1,c2,c3,hc⟩:∃c1 c2 c3,Lib.cut t [45]=(c1,c2,c3):=⟨_,_,_,rfl⟩;rw[hc]at u E v hl w m a G H I;simp only at u E v hl w m a G H I;rw[hl]at a G;rw[w]at m H I;simp only[hl,Kz]at E;simp only[w,Kz]at v;unfold zu at I;by_cases h3:3<l.length
 ·have Q:(3:Int)<l.length:=by omega
  rw[zd h3]at a;simp[u,E,h3,Q,A3,a,bK,Vd,wy.V,f180]
 have Q:¬(3:Int)<l.length:=by omega
 rw[zc h3]at a;simp[u,E,h3,Q];refine zP (fun k U Y Z=>∃(p:Part) (op:Bool),p.pre=[]/\U 2=.ref 0 0 0/\U 3=int p.has/\U 4=qS false/\U 6=str c2/\U 7=qS c3/\U 8=.ref 1 0 0/\U 9=qS op/\U 29=.own 2 0 l.length/\U 30=int l.length/\U 31=int k/\p.has<=k/\0<=p.has/\Z=3 /\
   Y 0=some ⟨135,4,false,[[int 0,int 0,int 0,.nil]]⟩/\Y 1=some ⟨159,3,false,[[int p.n0,int p.n1,int p.n2]]⟩/\Y 2=some ⟨9,1,true,zy l⟩/\yy (q9,false) 0 l=yy (p,op) k (l.drop k)) l.length
  ⟨q9,false,rfl,by simp,by simp[q9],by simp,by simp,by simp,by simp,by simp,by simp,by simp,by simp,by simp[q9],by simp[q9],by simp,by simp,by simp[q9],(by simp;rfl),by simp⟩ ?_
 rintro k U Y Z hk ⟨p,op,R,x,o,A,J,B,K,L,c,d,e,hh,hh0,hnx,C,F,M,q⟩;subst hnx;by_cases b:k<l.length
 ·have hn:=fun Y Z=>Pr l[k] Y Z (G _ (zj b))
  have hw:=qG k;have N:=wz (p.has+1);have i:(l[k]==[120]||l[k]==[88]||l[k]==[42])=yh l[k]:=rfl;have f:=JR b;have D:(zy l).length=l.length:=by simp[zy]
  rw[Gh b]at q;cases ho:yh l[k]
  ·rw[ho]at i;cases hv:(jW l[k]).isSome
   ·have hs:y8 (p,op) k l[k]=none:=by simp[y8,ho,hv]
    rw[hs]at q;rw[q]at a;simp only at a;simp[x,o,A,J,B,K,L,c,d,e,C,F,M,b,D,f,hn,i,hv,A3,a,bK,Vd,wy.V,f180]
   ·cases op
    ·have hs:y8 (p,false) k l[k]=some (p.put k ((jW l[k]).getD 0),false):=by simp[y8,ho,hv]
     rw[hs]at q;simp only at q;obtain⟨n0,n1,n2,has,pre⟩:=p;simp only at R hh hh0 N F o;subst R;have hk3:k=0\/k=1\/k=2:=by omega
     rcases hk3 with rfl|rfl|rfl
     ·have j:(0:Int)<(l.length:Int):=by omega
      simp[x,o,A,J,B,K,L,c,d,e,C,F,M,b,j,D,f,hn,i,hv,hw,N];refine⟨by omega,_,?_,?_,?_,?_,?_,(by simpa using q)⟩<;>simp[Part.put]<;>omega
     ·have j:(1:Int)<(l.length:Int):=by omega
      simp[x,o,A,J,B,K,L,c,d,e,C,F,M,b,j,D,f,hn,i,hv,hw,N];refine⟨by omega,_,?_,?_,?_,?_,?_,(by simpa using q)⟩<;>simp[Part.put]<;>omega
     ·have j:(2:Int)<(l.length:Int):=by omega
      simp[x,o,A,J,B,K,L,c,d,e,C,F,M,b,j,D,f,hn,i,hv,hw,N];refine⟨by omega,_,?_,?_,?_,?_,?_,(by simpa using q)⟩<;>simp[Part.put]<;>omega
    ·have hs:y8 (p,true) k l[k]=none:=by simp[y8,ho]
     rw[hs]at q;rw[q]at a;simp only at a;simp[x,o,A,J,B,K,L,c,d,e,C,F,M,b,D,f,hn,i,A3,a,bK,Vd,wy.V,f180]
  ·have hs:y8 (p,op) k l[k]=some (p,true):=by simp[y8,ho]
   rw[hs]at q;rw[ho]at i;simp[x,o,A,J,B,K,L,c,d,e,C,F,M,b,D,f,i,hw];exact⟨by omega,p,R,rfl,by omega,hh0,⟨rfl,rfl,rfl⟩,q⟩
 ·obtain rfl:k=l.length:=by omega
  rw[zn]at q;simp only[yy]at q;rw[q]at a;simp only at a;have hbe:((p.has:Int)==3)=(p.has==3):=rfl;cases c3
  ·rw[zc (by simp)]at m;rw[m]at a;simp at a;simp[x,o,A,J,B,K,L,c,d,e,C,F,M,z8,qB,A3,a,bK,wy.V,zy,f180]
  ·rw[zd rfl]at m;rw[m]at a;have P:(zy n).length=n.length:=by simp[zy]
   simp[x,o,A,J,B,K,L,c,d,e,C,F,M,v,z8,qB];refine zP (fun k U Y Z=>U 2=.ref 0 0 0/\U 3=int p.has/\U 4=qS false/\U 7=qS true/\U 75=.own 3 0 n.length/\U 76=int n.length/\U 77=int k/\Y 0=some ⟨135,4,false,[[int p.n0,int p.n1,int p.n2,.own 3 0 n.length]]⟩/\Y 3=some ⟨9,1,true,zy n⟩/\n.any wD=(n.drop k).any wD) n.length
    ⟨by simp[x],by simp[o],by simp[A],by simp[B],by simp,by simp,by simp,by simp,(by simp;rfl),by simp⟩ ?_
   clear x o A J B K L c d e C F M hk b hh U Y;rintro k U Y Z hk ⟨x,o,A,B,S,T,W,C,b3,X⟩;by_cases b:k<n.length
   ·have hw:=qG k;have f:=JR b;have hip:=fun Y Z=>ki (fun l=>!wD l) n[k] Y Z (H _ (zj b))
    rw[ze b,y9]at X;cases hb:wD n[k]
    ·rw[hb,kQ]at X;simp[x,o,A,B,S,T,W,C,b3,b,P,f,hip,hb,hw];exact⟨by omega,X⟩
    ·rw[hb,dU]at X;rw[X,zd rfl]at a;simp[x,o,A,B,S,T,W,C,b3,b,P,f,hip,hb,A3,a,bK,wy.V,f180]
   ·obtain rfl:k=n.length:=by omega
    rw[zn,List.any_nil]at X;rw[X,zc (by simp)]at a;have hd:decide (n.length<=10)=decide ((n.length:Int)<=10):=by congr 1;exact propext ⟨fun h=>by omega,fun h=>by omega⟩
    rw[hd]at a;simp[x,o,A,B,S,T,W,C,b3,A3,a,bK,wy.V,f180]
theorem Z2:zg prog 180 (zh false [] (YY A3)):=
 Qq (fn:=f180) Un (qD func180) false [] _ fun args r h w S vs a=>by obtain⟨l,rfl,Y,rfl⟩:=zN h;obtain⟨b,c,d⟩:=dp l Y;exact⟨_,b,a,by simp[f180],c,d⟩
theorem H2(s:za):Qe s=if(WC s).2.2=true/\(WC s).2.1≠0 then some ⟨(WC s).1.a,(WC s).1.b,(WC s).1.c,(WC s).2.1,(WC s).1.pre⟩else none:=by
 unfold Qe rdR WC;by_cases e:3<(qc (Lib.cut s [45]).1 [46]).length
 ·rw[zd e,zd e];simp
 rw[zc e,zc e];cases yy (q9,false) 0 (qc (Lib.cut s [45]).1 [46])with
 |none=>simp
 |some st=>
  simp only;cases h:(jH s).any wD
  ·simp only[zF,qR];by_cases f:((Lib.cut s [45]).2.2=false\/st.1.has=3)/\(jH s).length<=10
   ·rw[zd f];have d:((!(Lib.cut s [45]).2.2||st.1.has==3)&&decide ((jH s).length<=10))=true:=by simp only[zz,qp,yI,yJ,zT];exact f
    simp only[d,true_and];by_cases g:st.1.has=0
    ·simp[g]
    ·simp[g]
   ·rw[zc f];have d:¬((!(Lib.cut s [45]).2.2||st.1.has==3)&&decide ((jH s).length<=10))=true:=by simp only[zz,qp,yI,yJ,zT];exact f
    simp only[d,false_and,qR];simp
  ·simp
theorem CJ:zq C0 f226 []=some (.agg qU.V):=by refine zm rfl ?_;simp[qU,Cut.V,zy,str,z8,qB,zp,zE,zo,wa,f226]
theorem dq:zg prog 226 (qn [] (YK (.agg qU.V))):=
 wO (fn:=f226) jG (qD func226) _ _ fun args r h=>by obtain⟨_,rfl,_,rfl⟩:=zN h;exact⟨by simp[f226],_,CJ,qX.refl _⟩
def wy.part(v:wy)(m:Int):Part:=⟨v.a,v.b,v.c,m,v.pre⟩
def wy.ok(v:wy):Prop:=(0<=v.a/\v.a<=999999)/\(0<=v.b/\v.b<=999999)/\(0<=v.c/\v.c<=999999)/\vt v.pre
noncomputable def SY (f:wy->Int->O) (pre:Int->Prop):zb->Option O:=ql (α:=wy×Int) (fun a=>[.agg a.1.V,int a.2]) (fun a=>a.1.ok/\pre a.2) (fun a=>f a.1 a.2)
theorem zcL:∀a b:wy×Int,[O.agg a.1.V,int a.2]=[O.agg b.1.V,int b.2]->a=b:=by rintro⟨f,g⟩ ⟨h,i⟩ e;simp only[zk,zI]at e;obtain⟨c,d⟩:=e;injection c with c;rw[Wx c,qV d]
theorem Xb(f:wy->Int->O)(pre:Int->Prop)(v:wy)(i:Int)(u:O)(Y:Hp)(Z:Nat)(h:v.ok)(hi:pre i)(b:(Sh.g jY).fix u=.agg v.V)(c:qA Y u=some (u,Y))(d:u.noOwn=true):qn [.g jY] (SY f pre) [u,int i] Y Z=some (f v i,Y,Z):=
 vN (show zD Y [u,int i]=some ([u,int i],Y) by simp only[zD,c];rfl) (by show SY f pre [(Sh.g jY).fix u,int i]=_;rw[b];exact qF (V:=fun a:wy×Int=>[O.agg a.1.V,int a.2]) (a:=(v,i)) zcL ⟨h,hi⟩) (.inr (by rw[wI,d];rfl))
theorem J5(v:wy):(Sh.g jY).fix (.agg v.V)=.agg v.V:=by simp[wy.V]
theorem Xc(v:wy)(Y:Hp):qA Y (.agg v.V)=some (.agg v.V,Y):=by simp[wy.V]
theorem Xd(v:wy):O.noOwn (.agg v.V)=true:=by simp[wy.V]
def xX(v:wy)(i:Int):O:=kX (v.part 3) i.toNat
noncomputable abbrev Crra:Ctx:=xC prog [] 7 [(6,4),(28,4),(30,4),(32,4),(38,4)] [4,6,28,30,32,38] []
theorem Uo:Gd Crra:=sb mixed trivial trivial
theorem uP(v:wy)(i:Int)(f:v.ok)(hi:0<=i/\i<3):∃d,zq Crra f260 [.agg v.V,int i]=some d/\qX d (xX v i):=by
 obtain⟨a,b,c,e⟩:=v;obtain⟨⟨h,j⟩,⟨k,l⟩,⟨m,n⟩,_⟩:=f;simp only at h j k l m n;refine yB (sh:=.g jm) rfl ?_;have o:=wz (a+1);have p:=wz (b+1);have q:=wz (c+1);rcases(by omega:i=0\/i=1\/i=2)with rfl|rfl|rfl
 ·simp[wy.V,z8,qB,o];rw[zH];simp;rw[zH];simp;rw[zH];simp;rw[j7 (yd (Yw (by simp;exact⟨rfl,rfl,rfl⟩) (by simp;exact⟨rfl,rfl,rfl⟩) (by omega) (by simp;rfl) rfl) (yd (jN (by simp;rfl)) (yd (jN (by simp;rfl)) (yd (jN (by simp;rfl)) (yd (jN (by simp;rfl)) (Yv _))))))
   (xl (by simp;exact⟨rfl,rfl,rfl⟩) (by simp) (by simp;rfl) rfl (xl (by simp;exact⟨rfl,rfl,rfl⟩) (by simp) (by simp;rfl) rfl (kz (by simp;rfl) (kz (by simp;rfl) (kz (by simp;rfl) (kz (by simp;rfl) (JV _)))))))]
  simp[z8,qB,zp,zE,zo,qi,xX,wy.part,kX,jk,vD,Cut.V,zy,str,f260];exact⟨_,⟨rfl,rfl⟩,rfl⟩
 ·simp[wy.V,z8,qB,p];rw[zH];simp;rw[zH];simp;rw[j7 (yd (Yw (by simp;exact⟨rfl,rfl,rfl⟩) (by simp;exact⟨rfl,rfl,rfl⟩) (by omega) (by simp;rfl) rfl) (yd (jN (by simp;rfl)) (yd (jN (by simp;rfl)) (yd (jN (by simp;rfl)) (yd (jN (by simp;rfl)) (Yv _))))))
   (xl (by simp;exact⟨rfl,rfl,rfl⟩) (by simp) (by simp;rfl) rfl (xl (by simp;exact⟨rfl,rfl,rfl⟩) (by simp) (by simp;rfl) rfl (kz (by simp;rfl) (kz (by simp;rfl) (kz (by simp;rfl) (kz (by simp;rfl) (JV _)))))))]
  simp[z8,qB,zp,zE,zo,qi,xX,wy.part,kX,jk,vD,Cut.V,zy,str,f260];exact⟨_,⟨rfl,rfl⟩,rfl⟩
 ·simp[wy.V,z8,qB,q];rw[zH];simp;rw[j7 (yd (Yw (by simp;exact⟨rfl,rfl,rfl⟩) (by simp;exact⟨rfl,rfl,rfl⟩) (by omega) (by simp;rfl) rfl) (yd (jN (by simp;rfl)) (yd (jN (by simp;rfl)) (yd (jN (by simp;rfl)) (yd (jN (by simp;rfl)) (Yv _))))))
   (xl (by simp;exact⟨rfl,rfl,rfl⟩) (by simp) (by simp;rfl) rfl (xl (by simp;exact⟨rfl,rfl,rfl⟩) (by simp) (by simp;rfl) rfl (kz (by simp;rfl) (kz (by simp;rfl) (kz (by simp;rfl) (kz (by simp;rfl) (JV _)))))))]
  simp[z8,qB,zp,zE,zo,qi,xX,wy.part,kX,jk,vD,Cut.V,zy,str,f260];exact⟨_,⟨rfl,rfl⟩,rfl⟩
theorem a6:zg prog 260 (qn [.g jY] (SY xX fun i=>0<=i/\i<3)):=
 wO (fn:=f260) Uo (qD func260) _ _ fun args r h=>by obtain⟨⟨p,i⟩,rfl,⟨a,b⟩,rfl⟩:=zN h;obtain⟨c,d,e⟩:=uP p i a b;exact⟨by simp[f260],c,d,e⟩
def Wm(v:wy)(m:Int):O:=Je (v.part m)
noncomputable abbrev Crup:Ctx:=zR prog [(260,qn [.g jY] (SY xX fun i=>0<=i/\i<3))]
theorem Uq:Gd Crup:=zU mixed ⟨a6,trivial⟩
theorem gL(v:wy)(m n:Int)(i:Nat):jk (v.part m) i=jk (v.part n) i/\vD (v.part m) i=vD (v.part n) i:=by
 match i with
 | 0=>exact⟨rfl,rfl⟩
 | 1=>exact⟨rfl,rfl⟩
 |_+2=>exact⟨rfl,rfl⟩
theorem CK(v:wy)(m:Int)(e:v.ok)(k:1<=m/\m<=3):zq Crup f258 [.agg v.V,int m]=some (Wm v m):=by
 refine zm rfl ?_;have b:=fun Y Z=>Xb xX (fun i=>0<=i/\i<3) v (m-1) (.agg v.V) Y Z e
 obtain⟨f,g⟩:=gL v m 3 (m-1).toNat;have h:=wz (m-1);by_cases d:m=3
 ·subst d;simp[wy.V,z8,qB,Wm,Je,vy,Qt,wy.part,Cut.V,wa,f258]
 ·have b:=fun Y Z=>b Y Z (by omega) (J5 v) (Xc v Y) (Xd v)
  have c:=wU d;have a:m<3:=by omega
  simp only[xX,kX,wy.V,Cut.V,<-f,<-g]at b;have j:(v.part m).has=m:=rfl;simp[wy.V,c,h,b,Wm,Je,vy,Qt,j,a,Cut.V,wa,f258]
theorem dt:zg prog 258 (qn [.g jY] (SY Wm fun m=>1<=m/\m<=3)):=
 wO (fn:=f258) Uq (qD func258) _ _ fun args r h=>by obtain⟨⟨p,i⟩,rfl,⟨a,b⟩,rfl⟩:=zN h;exact⟨by simp[f258],_,CK p i a b,qX.refl _⟩
noncomputable abbrev Crct:Ctx:=zR prog []
theorem Ur:Gd Crct:=qw mixed trivial
def xD(v:wy)(m:Int):O:=int (jB (v.part m))
theorem CL(v:wy)(m:Int)(k:1<=m/\m<=3):zq Crct f261 [.agg v.V,int m]=some (xD v m):=by
 obtain⟨a,b,c,e⟩:=v;refine zm rfl ?_;rcases(by omega:m=1\/m=2\/m=3)with rfl|rfl|rfl
 ·simp[wy.V,zp,zE,zo,jy];rw[zH];by_cases f:a=0
  ·have d:(a != 0)=false:=by simpa using f
   simp[d];rw[zH];simp[xD,jB,wy.part,f261]
  ·have d:=Za f;simp[d,xD,jB,wy.part,f261]
 ·simp[wy.V,zp,zE,zo,jy];rw[zH];by_cases f:a=0
  ·have d:(a != 0)=false:=by simpa using f
   simp[d];rw[zH];by_cases h:b=0
   ·have g:(b != 0)=false:=by simpa using h
    simp[g];rw[zH];simp[xD,jB,wy.part,f,f261]
   ·have g:=Za h;simp[g,xD,jB,wy.part,f,f261]
  ·have d:=Za f;simp[d,xD,jB,wy.part,f,f261]
 ·simp[wy.V,zp,zE,zo,jy];rw[zH];by_cases f:a=0
  ·have d:(a != 0)=false:=by simpa using f
   simp[d];rw[zH];by_cases h:b=0
   ·have g:(b != 0)=false:=by simpa using h
    simp[g];rw[zH];by_cases j:c=0
    ·have i:(c != 0)=false:=by simpa using j
     simp[i];rw[zH];simp[xD,jB,wy.part,f,h,f261]
    ·have i:=Za j;simp[i,xD,jB,wy.part,f,h,f261]
   ·have g:=Za h;simp[g,xD,jB,wy.part,f,h,f261]
  ·have d:=Za f;simp[d,xD,jB,wy.part,f,f261]
theorem uQ:zg prog 261 (qn [.g jY] (SY xD fun m=>1<=m/\m<=3)):=
 wO (fn:=f261) Ur (qD func261) _ _ fun args r h=>by obtain⟨⟨p,i⟩,rfl,⟨b,a⟩,rfl⟩:=zN h;exact⟨by simp[f261],_,CL p i a,qX.refl _⟩
noncomputable abbrev Crut:Ctx:=zR prog [(233,qn [.g jm,.g jm] (um fun v w=>int (wb v w)))]
theorem Us:Gd Crut:=zU mixed ⟨xf,trivial⟩
theorem Gi(x y:Cut)(c:x.v.small)(d:y.v.small):∃b,zq Crut f259 [.agg x.V,.agg y.V]=some b/\qX b (KE x y):=by
 refine Yn (sh:=.s 11 jn) rfl ?_;have a:=fun Y Z=>uo x y (.agg x.V) (.agg y.V) Y Z (by simp[Cut.V]) (by simp[Cut.V]) (by simp[Cut.V]) c d
 simp only[Cut.V]at a;by_cases h:0<=wb x y
 ·simp[Cut.V,a,h,cG,KE,eU,zW,f259]
 ·simp[Cut.V,a,h,z8,qB,zp,zE,zo,cG,KE,eU,zW,bE,qK.V,f259]
theorem gM:zg prog 259 (qn [.g jm,.g jm] (um KE)):=
 wO (fn:=f259) Us (qD func259) _ _ fun args r h=>by obtain⟨⟨v,w⟩,rfl,⟨a,b⟩,rfl⟩:=zN h;obtain⟨c,d,e⟩:=Gi v w a b;exact⟨by simp[f259],c,d,e⟩
noncomputable abbrev Crop:Ctx:=zR prog [(121,zh false [] (Zr Oe fun _ _=>True))]
theorem Ut:Gd Crop:=zU mixed ⟨WV,trivial⟩
def Gj(s:za):O:=str (wB wo s).1
theorem nB(s:za)(h:s.length<=zu):zq Crop f256 [str s]=some (Gj s):=by
 refine zm rfl ?_;have l:∀Y Z,zp prog Y Z 33 7 [(0,str [62,61]),(1,str [60,61]),(2,str [62]),(3,str [60]),(4,str [61]),(5,str [126]),(6,str [94])]=some (.own Z 0 7,qv Y Z (some ⟨9,1,true,zy wo⟩),Z+1):=fun Y Z=>by simp[zp,zE,zo,wo,str]
 simp[str]at l;simp[l];refine zP (fun k U Y Z=>U 0=str s/\U 5=.own 0 0 7/\U 6=int 7/\U 7=int k/\Y 0=some ⟨9,1,true,zy wo⟩/\wB wo s=wB (wo.drop k) s) 7 ⟨by simp,by simp,by simp,by simp,by simp,by simp⟩ ?_;rintro k U Y Z r ⟨f,g,i,b,m,a⟩;by_cases c:k<7
 ·have e:k<wo.length:=c;have j:wo[k].length<=zu:=by
   have:∀q∈wo,q.length<=zu:=by decide
   exact this _ (zj e)
  have n:=fun Y Z=>XN s wo[k] Y Z h j
  have o:=qG k;have d:(k:Int)<7:=by omega
  rw[ze e]at a;simp only[wB]at a;by_cases Y:(wo[k]).isPrefixOf s=true
  ·rw[zd Y]at a;simp[f,g,i,b,m,d,c,e,n,Y,o,Gj,a,wa,f256]
  ·rw[zc Y]at a;have p:(wo[k]).isPrefixOf s=false:=Bool.eq_false_iff.2 Y;simp[f,g,i,b,m,d,c,e,n,p,o];exact⟨by omega,a⟩
 ·obtain rfl:k=7:=by omega
  rw[show wo.drop 7=[]from rfl]at a;simp only[wB]at a;simp[f,g,i,b,Gj,a,wa,f256]
theorem iH:zg prog 256 (zh false [] (Nn Gj)):=
 xy Ut func256 false [] fun l Y=>⟨by simp[f256],_,nB l Y,qb _⟩
def oY(c:UInt8):za->List za
 |[]=>[[]]
 |b::l=>if b=c then[]::oY c l else match oY c l with
  |[]=>[[b]]
  |p::a=>(b::p)::a
theorem Ps(c:UInt8):∀l,∃p a,oY c l=p::a
 |[]=>⟨[],[],rfl⟩
 |b::l=>by
  unfold oY;split
  ·exact⟨_,_,rfl⟩
  ·split
   ·exact⟨_,_,rfl⟩
   ·exact⟨_,_,rfl⟩
theorem Xe{s sep:za}(h:Lib.index s sep=-1):qc s sep=[s]:=by unfold qc Lib.split;rw[Lib.count_miss h];rfl
theorem bL{s sep:za}{i:Nat}(a:sep≠[])(h:Lib.index s sep=i):qc s sep=s.take i::qc (s.drop (i+sep.length)) sep:=by unfold qc Lib.split;rw[Lib.count_hit a h,AO 1,bz h]
theorem bM(c:UInt8):∀s:za,qc s [c]=oY c s
 |[]=>Xe rfl
 |b::l=>by
  have a:=bM c l;by_cases h:b=c
  ·subst h;have hi:Lib.index (b::l) [b]=((0:Nat):Int):=by simp[Lib.index]
   rw[bL (by simp) hi];simp[oY,a]
  ·have f:¬c=b:=fun e=>h e.symm
   rcases Lib.index_spec l [c]with⟨d,_⟩|⟨i,d,_⟩
   ·have hi:Lib.index (b::l) [c]=-1:=by simp[Lib.index,f,d]
    rw[Xe hi];rw[Xe d]at a;simp[oY,h,<-a]
   ·have hi:Lib.index (b::l) [c]=((i+1:Nat):Int):=by
     have:¬((i:Int)=-1):=by omega
     simp[Lib.index,f,d,this]
    rw[bL (by simp) hi];rw[bL (by simp) d]at a;simp only[oY,zc h,<-a];simp
def yO(s:za):List za:=wq (oY 32 s)
theorem fC(s:za):wq (qc s [32])=yO s:=by rw[bM];rfl
theorem uR:yO []=[]:=rfl
theorem Xf(x:za)(l:List za):wq (x::l)=if x=[]then wq l else x::wq l:=by cases x<;>simp[wq,oV]
theorem Pt(s:za):yO (32::s)=yO s:=by simp[yO,oY,Xf]
theorem XY:∀s:za,yO (Lib.trimLeftB s 32)=yO s
 |[]=>rfl
 |b::l=>by
  unfold Lib.trimLeftB;by_cases h:b=32
  ·subst h;rw[Ep (by simp),Pt];exact XY l
  ·rw[ZN (by simpa using h)]
theorem CM(c:UInt8):∀s:za,oY c (s++[c])=oY c s++[[]]
 |[]=>by simp[oY]
 |b::l=>by
  have a:=CM c l;obtain⟨p,d,e⟩:=Ps c l;by_cases h:b=c
  ·simp[oY,h,a]
  ·simp[oY,h,a,e]
theorem Pu(s:za):yO (s++[32])=yO s:=by unfold yO;rw[CM];simp[wq,oV]
theorem L3(s:za):yO (Lib.trimRightB s 32)=yO s:=by
 have a:∀m:za,yO ((m.dropWhile (·==32)).reverse)=yO m.reverse:=by
  intro m
  induction m with
  |nil=>rfl
  |cons b m c=>
   by_cases h:b=32
   ·subst h;rw[Ep (by simp),c,List.reverse_cons,Pu]
   ·rw[ZN (by simpa using h)]
 have:=a s.reverse;rwa [List.reverse_reverse]at this
theorem Pv(s:za):yO (Lib.trimB s 32)=yO s:=by unfold Lib.trimB;rw[XY,L3]
def hd(s:za):za:=s.takeWhile (· != 32)
def tl(s:za):za:=s.dropWhile (· != 32)
theorem gN(s:za):hd s++tl s=s:=List.takeWhile_append_dropWhile
theorem uS:∀(u:za),(∀c∈u,c≠32)->∀r,(oY 32 (u++32::r)=u::oY 32 r)/\oY 32 u=[u]
 |[],_,r=>⟨by simp[oY],rfl⟩
 |b::u,h,r=>by
  obtain⟨d,e⟩:=uS u (fun c f=>h c (by simp[f])) r;have a:¬b=32:=h b (by simp);constructor
  ·rw[q6,oY,zc a,d]
  ·rw[oY,zc a,e]
theorem Pw(s:za):∀c∈hd s,c≠32:=fun c a=>by have:=List.all_takeWhile (p:=fun c:UInt8=>c != 32) (l:=s);rw[zV]at this;simpa using this c a
theorem uT(s:za):tl s=[]\/∃r,tl s=32::r:=by
 unfold tl
 induction s with
 |nil=>exact .inl rfl
 |cons b s a=>
  by_cases h:b=32
  ·subst h;rw[ZN (by simp)];exact .inr ⟨s,rfl⟩
  ·rw[Ep (by simpa using h)];exact a
theorem CN{s:za}(h:hd s≠[]):yO s=hd s::yO (tl s):=by
 have e:=gN s;rcases uT s with a|⟨r,a⟩
 ·rw[a,yU]at e;rw[a,uR]
  conv=>lhs;rw[<-e]
  unfold yO;rw[(uS (hd s) (Pw s) []).2,Xf,zc h];rfl
 ·rw[a]at e⊢;rw[Pt]
  conv=>lhs;rw[<-e]
  unfold yO;rw[(uS (hd s) (Pw s) r).1,Xf,zc h]
def H3(s:za):Prop:=s=[]\/hd s≠[]
theorem Jj:∀s:za,H3 (Lib.trimLeftB s 32)
 |[]=>.inl rfl
 |b::l=>by
  unfold Lib.trimLeftB;by_cases h:b=32
  ·subst h;rw[Ep (by simp)];exact Jj l
  ·rw[ZN (by simpa using h)];exact .inr (by simp[hd,h])
theorem Px{s:za}(h:H3 s):Lib.trimLeftB s 32=s:=by
 cases s with
 |nil=>rfl
 |cons b l=>
  rcases h with h|h
  ·cases h
  ·unfold Lib.trimLeftB;by_cases a:b=32
   ·subst a;exact absurd (by simp[hd]) h
   ·rw[ZN (by simpa using a)]
theorem XZ(s:za):(Lib.trimLeftB s 32).length<=s.length:=(List.dropWhile_sublist _).length_le
theorem zcM{g:za}(d:∀c∈g,c≠32)(s:za):g.isPrefixOf s=g.isPrefixOf (hd s):=by
 induction g generalizing s with
 |nil=>simp
 |cons a g h=>
  cases s with
  |nil=>rfl
  |cons b s=>
   have i:=d a (by simp);by_cases f:b=32
   ·subst f;have e:hd (32::s)=[]:=by simp[hd]
    rw[e];simp[List.isPrefixOf,i]
   ·have e:hd (b::s)=b::hd s:=by simp[hd,f]
    rw[e];simp only[List.isPrefixOf];rw[h (fun c j=>d c (by simp[j])) s]
theorem Py:∀(a:List za) (_:∀g∈a,∀c∈g,c≠32) (s:za),wB a s=((wB a (hd s)).1,(wB a (hd s)).2++tl s)
 |[],_,s=>by simp[wB,gN]
 |g::a,h,s=>by
  have Y:=zcM (h g (by simp)) s;simp only[wB];rw[Y];split
  ·rename_i b;have d:=(El.1 b).length_le;have e:=gN s
   conv=>lhs;rw[<-e]
   rw[List.drop_append_of_le_length d]
  ·exact Py a (fun g f=>h g (by simp[f])) s
theorem zcN:∀g∈wo,∀c∈g,c≠32:=by decide
theorem Qz:∀(a:List za) (s:za),(wB a s).2=s.drop (wB a s).1.length
 |[],s=>rfl
 |g::a,s=>by
  simp only[wB];split
  ·rfl
  ·exact Qz a s
theorem Gk(a:List za)(s:za):(wB a s).2 <:+ s:=by rw[Qz];exact List.drop_suffix _ _
abbrev ba:=za×za
def jO:List za->Option (List ba)
 |[]=>some []
 |[w]=>if(wB wo w).2=[]then none else some [wB wo w]
 |w::x::a=>if(wB wo w).2=[]then(jO a).map (((wB wo w).1,x)::·)else(jO (x::a)).map (wB wo w::·)
theorem Yy(w:za)(a:List za)(h:(wB wo w).2≠[]):jO (w::a)=(jO a).map (wB wo w::·):=by
 cases a with
 |nil=>simp[jO,h]
 |cons x a=>simp[jO,h]
def uU(s:za):ba×za:=((((wB wo s).1,hd (Lib.trimLeftB (wB wo s).2 32)):ba),tl (Lib.trimLeftB (wB wo s).2 32))
theorem Pz{s:za}(h:hd s≠[]):jO (yO s)=if(uU s).1.2=[]then none else(jO (yO (uU s).2)).map ((uU s).1::·):=by
 have f:=Py wo zcN s;obtain⟨o,r,a⟩:∃o r,wB wo (hd s)=(o,r):=⟨_,_,rfl⟩;rw[a]at f;simp only at f;have d:∀c∈r,c≠32:=fun c g=>by have:=Gk wo (hd s);rw[a]at this;exact Pw s c (this.mem g)
 rw[CN h];by_cases i:r=[]
 ·subst i;rw[jJ]at f;unfold uU;rw[f];simp only;obtain⟨u,j⟩:=jc (Lib.trimLeftB (tl s) 32);have l:yO (tl s)=yO u:=by rw[<-j,XY]
  have ht:H3 u:=by rw[<-j];exact Jj _
  rw[j,l];rcases ht with rfl|ht
  ·rw[uR,zd (show hd []=[]from rfl)];simp[jO,a]
  ·rw[CN ht,zc ht];simp[jO,a]
 ·have m:Lib.trimLeftB (r++tl s) 32=r++tl s:=by
   cases r with
   |nil=>exact absurd rfl i
   |cons b r=>have n:=d b (by simp);exact Px (.inr (by simp[hd,n]))
  have p:hd (r++tl s)=r:=by unfold hd;rw[List.takeWhile_append_of_pos (fun c g=>by simpa using d c g)];rcases uT s with e|⟨q,e⟩<;>rw[e]<;>simp
  have t:tl (r++tl s)=tl s:=by
   unfold tl;rw[List.dropWhile_append_of_pos (fun c g=>by simpa using d c g)];rcases uT s with e|⟨q,e⟩
   ·have k:List.dropWhile (fun x=>x != 32) s=[]:=e;rw[k];rfl
   ·have k:List.dropWhile (fun x=>x != 32) s=32::q:=e;rw[k];rfl
  unfold uU;rw[f];simp only;rw[m,p,t,zc i,Yy _ _ (by rw[a];exact i),a]
theorem PA{s:za}(h:(uU s).1.2≠[]):(uU s).2.length<s.length:=by unfold uU at h⊢;simp only at h⊢;have a:=gN (Lib.trimLeftB (wB wo s).2 32);have b:=zr List.length a;rw[zL]at b;have c:=XZ (wB wo s).2;have d:=KH wo s;have e:=vm.2 h;omega
end Go.Q
