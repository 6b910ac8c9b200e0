/- Lemmas. -/
import Derived.Orders
import Derived.LoopNIn
import Derived.RangeFuncRecord
import Derived.RangeFuncSeq
import Derived.Test.YtdlbkbojibiiaaaGreatDoorG1
set_option maxRecDepth 8000
open Go Proofs Proofs.YtdlbkbojibiiaaaGreatDoor Proofs.Tryz RowKit AM SpanLaw Q Zz
namespace Go.AM
variable{dr:Prop}
section
variable{P:Program}{w:World}{S:Nat->Prop}{G:Nat->GI}{Y:Hp}{Z:Nat}
theorem Tn(hi:Inv P w S G Y Z){t ty:TypeId}{p x:O}{u:Value}(h:VK P t p=some x)(b:qx w S G Z p u):Ww dr P w Y Z S G x Y Z ((Builtin.len_ #[t] ty #[u]).run P w):=by
 have sl:∀{A:Option Addr} {n c:Nat} {e:TypeId},yg P t=some e->(Builtin.len_ #[t] ty #[.slice A n c]).run P w=.ok (.int .i64 n) w:=fun a=>by simp[Builtin.len_,zO (vM a),goInt]
 unfold VK at h;split at h
 ·obtain⟨rfl,_⟩:=b.yq;split at h
  ·rename_i d;injection h with h
   subst h;exact qK (v:=_) hi (by simp[Builtin.len_,zO d,goInt]) (Zn _ rfl)
  ·cases h
 ·cases a:yg P t with
  |none=>simp[a]at h
  |some e=>simp[a]at h;subst h;obtain⟨rfl,_⟩:=b.yq;exact qK (v:=_) hi (sl a) (Zn _ rfl)
 ·cases a:yg P t with
  |none=>simp[a]at h
  |some e=>
   simp[a]at h;subst h;cases b.eo with
   |sl us f g i j k l=>exact qK (v:=_) hi (sl a) (Zn _ rfl)
 ·cases a:yg P t with
  |none=>simp[a]at h
  |some e=>simp[a]at h;subst h;have:=b.ZV;subst this;exact qK (v:=_) hi (sl a) (Zn _ rfl)
 ·cases a:yg P t with
  |none=>simp[a]at h
  |some e=>simp[a]at h;subst h;obtain⟨ad,cap,rfl,_⟩:=b.sN;exact qK (v:=_) hi (sl a) (Zn _ rfl)
 ·cases a:yg P t with
  |none=>simp[a]at h
  |some e=>simp[a]at h;subst h;obtain⟨cap,_,_,_,_,rfl⟩:=b.xA;exact qK (v:=_) hi (sl a) (Zn _ rfl)
 ·cases h
theorem lK{k:IntKind}:∀{l:zb} {x:Int} {r:O} {us:List Value},bl k x l=some r->Zip (qx w S G Z) l us->∃n,r=.v (.int k n)/\(us.foldlM Builtin.min2 (.int k x)).run P w=.ok (.int k n) w
 |[],x,r,us,h,a=>by
  simp only[bl]at h;injection h with h
  subst h;rw[a.YU];exact⟨x,rfl,by simp⟩
 |p::l,x,r,us,h,a=>by
  obtain⟨u,c,rfl,d,b⟩:=a.kc;unfold bl at h;split at h
  ·cases ‹p::l=[]›
  ·rename_i m y l' e;injection e with f g
   subst f;subst g;split at h
   ·rename_i i;subst i;obtain⟨rfl,_⟩:=d.yq;obtain⟨n,rfl,j⟩:=lK h b;exact⟨n,rfl,by simp only[List.foldlM_cons,xL,Builtin.min2,YQ,vi];exact j⟩
   ·cases h
  ·cases h
theorem lL{k:IntKind}:∀{l:zb} {x:Int} {r:O} {us:List Value},bm k x l=some r->Zip (qx w S G Z) l us->∃n,r=.v (.int k n)/\(us.foldlM Builtin.max2 (.int k x)).run P w=.ok (.int k n) w
 |[],x,r,us,h,a=>by
  simp only[bm]at h;injection h with h
  subst h;rw[a.YU];exact⟨x,rfl,by simp⟩
 |p::l,x,r,us,h,a=>by
  obtain⟨u,c,rfl,d,b⟩:=a.kc;unfold bm at h;split at h
  ·cases ‹p::l=[]›
  ·rename_i m y l' e;injection e with f g
   subst f;subst g;split at h
   ·rename_i i;subst i;obtain⟨rfl,_⟩:=d.yq;obtain⟨n,rfl,j⟩:=lL h b;exact⟨n,rfl,by simp only[List.foldlM_cons,xL,Builtin.max2,YQ,vi];exact j⟩
   ·cases h
  ·cases h
theorem To(hi:Inv P w S G Y Z){ts:Array TypeId}{ty:TypeId}{xs:zb}{x:O}{us:Array Value}(h:Td xs=some x)(c:Zip (qx w S G Z) xs us.toList):Ww dr P w Y Z S G x Y Z ((Builtin.min_ ts ty us).run P w):=by
 unfold Td at h;split at h
 ·rename_i k y l;obtain⟨u,d,a,e,b⟩:=c.kc;obtain⟨rfl,_⟩:=e.yq;obtain⟨n,rfl,f⟩:=lK (P:=P) h b;exact qK (v:=_) hi (by simp only[Builtin.min_,a];exact f) (Zn _ rfl)
 ·cases h
theorem Tp(hi:Inv P w S G Y Z){ts:Array TypeId}{ty:TypeId}{xs:zb}{x:O}{us:Array Value}(h:Te xs=some x)(c:Zip (qx w S G Z) xs us.toList):Ww dr P w Y Z S G x Y Z ((Builtin.max_ ts ty us).run P w):=by
 unfold Te at h;split at h
 ·rename_i k y l;obtain⟨u,d,a,e,b⟩:=c.kc;obtain⟨rfl,_⟩:=e.yq;obtain⟨n,rfl,f⟩:=lL (P:=P) h b;exact qK (v:=_) hi (by simp only[Builtin.max_,a];exact f) (Zn _ rfl)
 ·cases h
theorem uC:∀(l:List Value) (k off:Nat) (a:Array Value),off+k+l.length<=a.size ->
  ((l.zipIdx k).foldl (fun(cs:Array Value) (p:Value×Nat)=>cs.setIfInBounds (off+p.2) p.1) a).size=a.size /\
  ∀i:Nat,((l.zipIdx k).foldl (fun(cs:Array Value) (p:Value×Nat)=>cs.setIfInBounds (off+p.2) p.1) a)[i]?=if off+k<=i/\i<off+k+l.length then l[i-(off+k)]? else a[i]?
 |[],k,off,a,h=>by simp;omega
 |x::l,k,off,a,h=>by
  simp only[zV]at h;obtain⟨c,e⟩:=uC l (k+1) off (a.setIfInBounds (off+k) x) (by simp;omega);simp only[List.zipIdx_cons,Q0];refine⟨by rw[c];simp,fun i=>?_⟩;rw[e];by_cases b:off+(k+1)<=i/\i<off+(k+1)+l.length
  ·rw[zd b,zd ⟨by omega,by simp;omega⟩];obtain⟨d,rfl⟩:∃d,i=off+(k+1)+d:=⟨i-(off+(k+1)),by omega⟩;rw[show off+(k+1)+d-(off+(k+1))=d from by omega,show off+(k+1)+d-(off+k)=d+1 from by omega];simp
  ·rw[ze b];by_cases f:i=off+k
   ·subst f;have hs:(a.setIfInBounds (off+k) x)[off+k]?=some x:=by rw[Array.getElem?_setIfInBounds_self_of_lt (by omega)]
    rw[zd ⟨by omega,by simp⟩,hs];simp
   ·rw[ze (by simp;omega),lE (by omega)]
theorem Nt{u:Value}{off:Nat}{cells:Array Value}(h:off+u.cells.size<=cells.size) :
  (u.cells.zipIdx.foldl (fun cs (c,j)=>cs.setIfInBounds (off+j) c) cells).size=cells.size /\
  ∀i:Nat,(u.cells.zipIdx.foldl (fun cs (c,j)=>cs.setIfInBounds (off+j) c) cells)[i]?=if off<=i/\i<off+u.cells.size then u.cells[i-off]? else cells[i]?:=by
 have:=uC u.cells.toList 0 off cells (by simpa using h);simp only[Wt,yk,Array.getElem?_toList]at this;rw[<-Array.foldl_toList,Array.toList_zipIdx];exact this
theorem ot{a:Nat->Option (Nat×Nat)}:∀{q:List (Nat×O)} {vs:List (Nat×Value)} {cs d:zb} {cells:Array Value},qM a cs q=some d ->
  Zip (fun p v=>p.1=v.1/\qx w S G Z p.2 v.2) q vs->cs.length=cells.size->(∀(j:Nat) (f:O) (u:Value),cs[j]?=some f->cells[j]?=some u->qx w S G Z f u) ->
  ∃b,Instr.fill a cells vs=some b/\d.length=b.size/\∀(j:Nat) (f:O) (u:Value),d[j]?=some f->b[j]?=some u->qx w S G Z f u
 |[],vs,cs,d,cells,h,r,s,t=>by
  simp only[qM]at h;injection h with h
  subst h;rw[r.YU];exact⟨cells,rfl,s,t⟩
 |(i,x)::q,vs,cs,d,cells,h,r,s,t=>by
  obtain⟨⟨i',u⟩,k,rfl,⟨e,A⟩,y⟩:=r.kc;simp only at e A;subst e;simp only[qM]at h;split at h
  ·rename_i off n Y;split at h
   ·rename_i C;obtain⟨B,D,E⟩:=C;obtain⟨F,H⟩:=gN A E;have z:u.cells.size=n:=by rw[<-F,B]
    obtain⟨I,J⟩:=Nt (u:=u) (off:=off) (cells:=cells) (by omega);have g:Instr.fill a cells ((i,u)::k)=Instr.fill a (u.cells.zipIdx.foldl (fun cs (c,j)=>cs.setIfInBounds (off+j) c) cells) k:=by
     have K:¬(off+n>cells.size):=by omega
     simp[Instr.fill,Y,z];omega
    rw[g];refine ot h y (by rw[YW,I,s]) (fun j f v l m=>?_);rw[VM _ _ _ _ (by rw[B];exact D)]at l;rw[J]at m;by_cases o:off<=j/\j<off+u.cells.size
    ·rw[zd o]at m;rw[zd (by omega)]at l;exact(H (j-off) f v l m).1
    ·rw[ze o]at m;rw[ze (by omega)]at l;exact t j f v l m
   ·cases h
  ·cases h
theorem gP{d:Operand->Option O}{a:Operand->Value}(b:∀y e,d y=some e->qx w S G Z e (a y)):∀{l:List (Nat×Operand)} {c:List (Nat×O)},xb d l=some c ->
  Zip (fun(p:Nat×O) (v:Nat×Value)=>p.1=v.1/\qx w S G Z p.2 v.2) c (l.map fun(i,x)=>(i,a x))
 |[],c,h=>by
  simp only[xb]at h;injection h with h
  subst h;exact .nil
 |(i,x)::l,c,h=>by
  simp only[xb]at h;split at h
  ·rename_i p r Y f;injection h with h
   subst h;exact .cons ⟨rfl,b _ _ Y⟩ (gP b f)
  ·cases h
theorem IG(hi:Inv P w S G Y Z){t:TypeId}{k:List (Nat×O)}{vs:Array (Nat×Value)}{x:O}(h:qe P t k=some x)(K:Zip (fun p v=>p.1=v.1/\qx w S G Z p.2 v.2) k vs.toList) :
  Ww dr P w Y Z S G x Y Z ((Instr.build t vs).run P w):=by
 unfold qe at h;split at h
 ·rename_i L z g o;obtain⟨i,q,r,s,y⟩:=Q5 o;obtain⟨A,B⟩:=jJ (w:=w) (S:=S) y;cases b:qM (fun i=>L[i]?) z k with
  |none=>simp[b]at h
  |some C=>
   simp[b]at h;subst h;obtain⟨a,D,E,F⟩:=ot b K (cells:=q.cells) (by rw[A];simp) (fun j H u I d=>.c (B j H u I (by simpa using d)).1);have J:P.built t vs.toList=some a:=by
    unfold xU at g;split at g
    ·rename_i M d;unfold Program.built;simp only[r,d,s,g];simpa using D
    ·cases g
   exact qK (v:=_) hi (run_build w t vs a J) (.agg E F)
 ·rename_i z g o;split at h
  ·rename_i m e d;split at h
   ·rename_i n l;obtain⟨i,q,r,s,y⟩:=Q5 o;obtain⟨A,B⟩:=jJ (w:=w) (S:=S) y;cases b:qM (fun i=>some (i*n,n)) z k with
    |none=>simp[b]at h
    |some C=>
     simp[b]at h;subst h;obtain⟨a,D,E,F⟩:=ot b K (cells:=q.cells) (by rw[A];simp) (fun j H u I d=>.c (B j H u I (by simpa using d)).1);have J:P.built t vs.toList=some a:=by
      unfold Program.built;unfold qF at l;cases f:P.info? e with
      |none=>simp[f]at l
      |some N=>simp only[f,zK,qj]at l;simp only[r,d,s,f,l];exact D
     exact qK (v:=_) hi (run_build w t vs a J) (.agg E F)
   ·cases h
  ·cases h
 ·cases h
theorem Kl:∀{c a:List (Nat×O)} {Y Y1:Hp} {S:Nat->Prop} {vs:List (Nat×Value)} (_:Inv P w S G Y Z),zy Y c=some (a,Y1) ->
  Zip (fun p v=>p.1=v.1/\qx w S G Z p.2 v.2) c vs->∃g,vA dr P Y Z S G w Y1 Z g G w/\Zip (fun p v=>p.1=v.1/\yb w g p.2 v.2) a vs
 |[],a,Y,Y1,S,vs,hi,h,d=>by
  simp only[zy]at h;injection h with h
  injection h with j k;subst j;subst k;rw[d.YU];exact⟨S,.refl hi,.nil⟩
 |(i,x)::c,a,Y,Y1,S,vs,hi,h,d=>by
  obtain⟨⟨i',u⟩,o,rfl,⟨e,l⟩,f⟩:=d.kc;simp only at e l;simp only[zy]at h;split at h
  ·rename_i y j q;split at h
   ·rename_i r k s;injection h with h
    injection h with t z;subst t;subst z;obtain⟨A,b,B,_⟩:=vL (dr:=dr) hi q l;have C:=b.same hi;obtain⟨D,m,E⟩:=Kl (S:=A) b.inv s (f.imp fun x u n=>⟨n.1,n.2.mono C (zl _) (fun _ _=>rfl)⟩);exact⟨D,b.trans m,.cons ⟨e,B.mono (m.same b.inv)⟩ E⟩
   ·cases h
  ·cases h
theorem IH{y:O}{u:Value}(h:yb w S y u)(a:y.cells.all O.yo=true):y.cells.length=u.cells.size/\∀(j:Nat) (d:O) (c:Value),y.cells[j]?=some d->u.cells[j]?=some c->yb w S d c/\c.oneCell'=true:=by
 by_cases e:∃cs,y=.agg cs
 ·obtain⟨cs,rfl⟩:=e;cases h with
  |agg k l=>refine⟨k,fun j d c b f=>?_⟩;have g:=l j d c b f;refine⟨g,g.XE ?_⟩;simp only[O.cells]at a b;exact ql.1 a d (zM b)
 ·have m:y.cells=[y]:=by cases y<;>first|rfl|exact(e ⟨_,rfl⟩).elim
  rw[m]at a⊢;have hi:y.yo=true:=by simpa using a
  have i:=h.XE hi;have f:u.cells=#[u]:=by cases u<;>first|rfl|simp[Value.oneCell']at i
  rw[f];refine⟨rfl,fun j d c b a=>?_⟩;cases j with
  |zero=>simp at b a;subst b;subst a;exact⟨h,i⟩
  |succ j=>simp at b
theorem eB{n:Nat}:∀{t:List (Nat×O)} {vs:List (Nat×Value)} {es d:List zb} {cells:Array Value},zS n es t=some d->Zip (fun p v=>p.1=v.1/\yb w S p.2 v.2) t vs ->
  es.length*n=cells.size->(∀c∈es,c.length=n)->(∀(i j:Nat) (c:zb) (f:O),es[i]?=some c->c[j]?=some f->∃u,cells[i*n+j]?=some u/\yb w S f u/\u.oneCell'=true) ->
  ∃a,Instr.fill (fun i=>some (i*n,n)) cells vs=some a/\d.length=es.length/\a.size=cells.size/\(∀c∈d,c.length=n) /\
   ∀(i j:Nat) (c:zb) (f:O),d[i]?=some c->c[j]?=some f->∃u,a[i*n+j]?=some u/\yb w S f u/\u.oneCell'=true
 |[],vs,es,d,cells,h,y,D,r,z=>by
  simp only[zS]at h;injection h with h
  subst h;rw[y.YU];exact⟨cells,rfl,rfl,rfl,r,z⟩
 |(i,x)::t,vs,es,d,cells,h,y,D,r,z=>by
  obtain⟨⟨i',u⟩,l,rfl,⟨e,E⟩,A⟩:=y.kc;simp only at e E;subst e;simp only[zS]at h;split at h
  ·rename_i B;obtain⟨C,F,I⟩:=B;obtain⟨J,K⟩:=IH E I;have m:u.cells.size=n:=by rw[<-J,C]
   have G:i*n+n<=cells.size:=by have:(i+1)*n<=es.length*n:=zY _ F;rw[q7]at this;omega
   obtain⟨H,L⟩:=Nt (u:=u) (off:=i*n) (cells:=cells) (by omega);have g:Instr.fill (fun i=>some (i*n,n)) cells ((i,u)::l)=Instr.fill (fun i=>some (i*n,n)) (u.cells.zipIdx.foldl (fun cs (c,j)=>cs.setIfInBounds (i*n+j) c) cells) l:=by simp[Instr.fill,m];omega
   rw[g];obtain⟨a,M,N,P,Q,R⟩:=eB h A (cells:=u.cells.zipIdx.foldl (fun cs (c,j)=>cs.setIfInBounds (i*n+j) c) cells) (by rw[H];simpa using D) (fun c B=>by
     rcases xx B with h|h
     ·exact r c h
     ·subst h;exact C) (fun i' j c f b s=>by
     rw[L];by_cases k:i'=i
     ·subst k;rw[ZT F]at b;injection b with b
      subst b;have o:j<n:=by rw[<-C];exact(zn.1 s).1
      rw[zd ⟨by omega,by omega⟩,show i'*n+j-i'*n=j from by omega];have q:j<u.cells.size:=by omega
      have T:=K j f u.cells[j] s (by simp[q]);exact⟨u.cells[j],by simp[q],T⟩
     ·rw[jC (fun e=>k e.symm)]at b;have o:j<n:=by rw[<-r c (zM b)];exact(zn.1 s).1
      have:=oh o k 0 n (by omega);rw[ze (by rw[m];simpa using this)];exact z i' j c f b s)
   exact⟨a,M,by rw[N];simp,by rw[P,H],Q,R⟩
  ·cases h
theorem mQ(hi:Inv P w S G Y Z){t:TypeId}{len:Nat}{H:List (Nat×O)}{vs:Array (Nat×Value)}{x:O}{I:Hp}{J:Nat}(h:zz P Y Z t len H=some (x,I,J))(T:Zip (fun p v=>p.1=v.1/\qx w S G Z p.2 v.2) H vs.toList) :
  Ww dr P w Y Z S G x I J ((Instr.buildSlice t len vs).run P w):=by
 unfold zz at h;split at h
 ·rename_i e K;split at h
  ·rename_i n z qs Y1 q W X;split at h
   ·rename_i r;obtain⟨s,y,c3⟩:=r;split at h
    ·rename_i es A;injection h with h
     injection h with ex h;injection h with eh en;subst ex;subst eh;subst en;obtain⟨i,f,i1,i2,i3⟩:=Q5 W;obtain⟨z1,z2⟩:=jJ (w:=w) (S:=S) i3;have B:f.cells.size=n:=by rw[<-y,z1];simp
     obtain⟨S1,C,q1⟩:=Kl (dr:=dr) hi X T;obtain⟨a,L,g2,M,g4,g5⟩:=eB (w:=w) A q1 (cells:=madeCells f.cells (len*n)) (by simp[size_madeCells]) (fun c r=>by rw[(List.mem_replicate.1 r).2];exact y) (fun i' j c D d o=>by
      have g:i'<len:=by have:=(zn.1 d).1;simpa using this
      rw[YR,zd g]at d;injection d with d
      subst d;have E:j<n:=by rw[<-y];exact(zn.1 o).1
      have k:j<f.cells.size:=by omega
      rw[Ea B g E];have N:=z2 j D f.cells[j] o (by simp[k]);exact⟨f.cells[j],by simp[k],N.1.mono (C.same (dr:=dr) hi),N.2.1⟩)
     have F:es.length=len:=by rw[g2];simp
     have k2:=vA.alloc (dr:=dr) C.inv a e true es n s (by simpa[qF]using q) g4 (by rw[M,size_madeCells,F];exact zl _) (fun i' j c D d o=>by obtain⟨u,u1,Q,u3⟩:=g5 i' j c D d o;exact⟨u,u1,fun _=>Q,.c Q,u3⟩)
     have R:¬(len*n>2 ^ 24):=by simp;omega
     refine⟨.slice (some ⟨w.heap.size,0,none⟩) len len,_,_,_,?_,C.trans k2,?_⟩
     ·by_cases l:len*n=0
      ·have hl0:len=0:=by
        rcases Nat.mul_eq_zero.1 l with h|h
        ·exact h
        ·omega
       have b:Instr.fill (fun i=>some (i*n,n)) ((Array.range (len*n)).map ((#[]:Array Value)[· % (#[]:Array Value).size]!)) vs.toList=some a:=by rw[<-L];congr 1;rw[l];simp[madeCells]
       simp[Instr.buildSlice,zO (vM K),yx q,l,newRow];simp[l]at b;simp[b]
      ·have b:Instr.fill (fun i=>some (i*n,n)) ((Array.range (len*n)).map (f.cells[· % f.cells.size]!)) vs.toList=some a:=L;simp[Instr.buildSlice,zO (vM K),yx q,l,newRow,Yf i1 i2,b];omega
     ·have m:len<=maxLen:=by have:len*1<=len*n:=Nat.mul_le_mul_left _ s;simp only[maxLen];omega
      have:=qx.own (w:=w.alloc (.cells a e)) (S:=S1) (G:=qR G Z ⟨w.heap.size,a.size,n⟩) (Z:=Z+1) (id:=Z) (off:=0) (n:=len) (cap:=len) (by omega) (zl _) m (by simp[M,size_madeCells]) (by simpa using s);simpa using this
    ·cases h
   ·cases h
  ·cases h
 ·cases h
end
variable{dr:Prop}
section
variable{P:Program}{w:World}{S:Nat->Prop}{G:Nat->GI}{Y:Hp}{Z:Nat}
theorem OT(hi:Inv P w S G Y Z){t t' ty:TypeId}{d x y:O}{Y':Hp}{Z':Nat}{u v:Value}(h:Nr P Y Z t d x=some (y,Y',Z'))(hd:qx w S G Z d u)(hx:qx w S G Z x v) :
  Ww dr P w Y Z S G y Y' Z' ((Builtin.copy_ #[t,t'] ty #[u,v]).run P w):=by
 unfold Nr at h;split at h
 ·rename_i e id off k he;split at h
  ·rename_i b n hb hn;split at h
   ·rename_i xs hv;split at h
    ·rename_i hc;obtain⟨c1,c2,c3,c4⟩:=hc;injection h with h
     injection h with ey h;injection h with eh en;subst ey;subst eh;subst en;have a:=hd.Za;obtain⟨cap,g1,g2,g3,g4,rfl⟩:=hd.xA;obtain⟨A,c,f,rfl,R,f2⟩:=VP hi hv hx;have l:=hi.live id b hb;obtain⟨r,q1,q2,q3⟩:=l.row a;have T:=vM he;have p:(G id).s=n:=by
      have q:=l.size a;rw[c2]at q;have z:(P.info? e).map (·.size)=some n:=by simpa[qF]using hn
      rw[z]at q;injection q with q
      exact q.symm
     have K:Nat.min xs.length k=min xs.length k:=rfl;have W:min xs.length k<=xs.length:=Nat.min_le_left _ _;have hmk:min xs.length k<=k:=Nat.min_le_right _ _;generalize hm:min xs.length k=m at *;have F:=bo c4 R f2;have hmn:m*n<=xs.length*n:=zY _ W;have B:(Builtin.firstCells n m (.slice A xs.length c)).run P w=.ok ((List.range (m*n)).map f).toArray w:=by
      by_cases h0:m=0
      ·subst h0;cases A<;>simp[Builtin.firstCells,loadCells,loadCellsFrom]
      ·obtain⟨ad,rfl,_,_⟩:=F 0 (Nat.mul_pos (by omega) c4);have:=run_loadCells_list (P:=P) w ad ((List.range (m*n)).map f) (fun j u C=>by
        have X:j<m*n:=by have:=(zn.1 C).1;simpa using this
        obtain⟨ad',e1,e2,_⟩:=F j (by omega);injection e1 with e1;subst e1;rw[qQ,v8 X]at C;simp at C;rw[e2,C])
       simpa[Builtin.firstCells]using this
     have D:off*n+m*n<=r.size:=by rw[q2];have q:(off+m)*n<=b.es.length*n:=zY _ (by omega);have z:=l.fit a;rw[p]at z;rw[q7]at q;omega
     have L:=run_storeCells_at P (G id).g (off*n) b.e ((List.range (m*n)).map f) 0 r w q1 (by simpa using D) (fun u T=>by obtain⟨k,hk,rfl⟩:=wA.1 T;exact(F k (by have:=jo.1 hk;omega)).choose_spec.2.2)
     simp only[Wt]at L;have M:((List.range (m*n)).map f).length=m*n:=by simp
     have N:off*n+((List.range (m*n)).map f).length<=r.toList.length:=by simpa using D
     have k2:=vA.set (dr:=dr) hi hb a (r.toList.take (off*n)++(List.range (m*n)).map f++r.toList.drop (off*n+((List.range (m*n)).map f).length)).toArray (b.es.take off++xs.take m++b.es.drop (off+m))
      (by rw[jY,Yg _ _ _ N];simpa using q2)
      (fun E Q=>by
       rw[qT]at Q;rcases qg.1 Q with h|h
       ·exact l.len a E (XB _ _ h)
       ·rcases qg.1 h with h|h
        ·rw[p];exact R E (XB _ _ h)
        ·exact l.len a E (YP _ _ h))
      (by
       have q:=l.fit a;have:(b.es.take off++xs.take m++b.es.drop (off+m)).length=b.es.length:=by simp;omega
       rw[this];exact q)
      (fun i' j E pv o C=>by
       have H:(xs.take m).length=m:=by simp;omega
       rw[show off+m=off+(xs.take m).length from by rw[H],xc _ _ _ _ (by rw[H];omega),H]at o;rw[List.getElem?_toArray,xc _ _ _ _ N,M,p];by_cases I:off<=i'/\i'<off+m
       ·rw[zd I,qN,zd (by omega)]at o;have J:j<n:=by rw[<-R E (zM o)];exact(zn.1 C).1
        have q:off*n<=i'*n:=zY _ I.1;have z:=vO (i:=i'-off) (n:=m) (by omega) J;have h7:i'*n+j-off*n=(i'-off)*n+j:=by rw[Nat.sub_mul];omega
        rw[zd ⟨by omega,by rw[Nat.sub_mul]at z;omega⟩,h7,qQ,v8 z];obtain⟨ad',a1,a2,a3⟩:=f2 (i'-off) j E pv o C;refine⟨f ((i'-off)*n+j),rfl,?_⟩;rw[c1];exact a3
       ·rw[ze I]at o;have J:j<n:=by rw[<-p,<-l.len a E (zM o)];exact(zn.1 C).1
        have:¬(off*n<=i'*n+j/\i'*n+j<off*n+m*n):=by
         by_cases q:i'<off
         ·have z:=vO (n:=off) q J;omega
         ·have z:off+m<=i':=by omega
          have h7:(off+m)*n<=i'*n:=zY _ z;rw[q7]at h7;omega
        rw[ze this];obtain⟨u',u1,u2⟩:=q3 i' j E pv o C;rw[p]at u1;exact⟨u',by simpa using u1,u2⟩)
     rw[c1]at k2;refine⟨.int .i64 m,_,_,_,?_,k2,Zn _ rfl⟩;simp[Builtin.copy_,zO T,Builtin.lenOf,yx hn,K,B,p,L,goInt]
    ·cases h
   ·cases h
  ·cases h
 ·cases h
theorem Tq{ts:Array TypeId}{us:Array Value}{t:TypeId}{u:Value}(ty:TypeId)(a:ts[0]?=some t)(b:us[0]?=some u):Builtin.clear_ ts ty us=Builtin.clear_ #[t] ty #[u]:=by simp[Builtin.clear_,a,b]
theorem II(hi:Inv P w S G Y Z){t ty:TypeId}{x y:O}{R:Hp}{T:Nat}{v:Value}(h:gM P Y Z t x=some (y,R,T))(hd:qx w S G Z x v) :
  Ww dr P w Y Z S G y R T ((Builtin.clear_ #[t] ty #[v]).run P w):=by
 unfold gM at h;split at h
 ·rename_i e id off k he;split at h
  ·rename_i b n z W hn hz;split at h
   ·rename_i hc;obtain⟨c0,c1,c2,c3,c4⟩:=hc;subst c0;injection h with h
    injection h with ey h;injection h with eh en;subst ey;subst eh;subst en;have a:=hd.Za;obtain⟨cap,g1,g2,g3,g4,rfl⟩:=hd.xA;have f:=hi.live id b W;obtain⟨m,q1,X,q3⟩:=f.row a;have K:=vM he;have l:(G id).s=1:=by
     have r:=f.size a;rw[c2]at r;have L:(P.info? e).map (·.size)=some 1:=by simpa[qF]using hn
     rw[L]at r;injection r with r
     exact r.symm
    obtain⟨i,J,i1,i2,i3⟩:=Q5 hz;obtain⟨z1,z2⟩:=jJ (w:=w) (S:=S) i3;have M:J.cells.size=1:=by have:=z1;simp at this;omega
    obtain⟨o,B⟩:∃o,J.cells=#[o]:=⟨J.cells[0],by
     apply Array.ext';apply List.ext_getElem
     ·simp[M]
     ·intro j h1 N;have:j=0:=by simp at N;exact N
      subst this;simp⟩
    obtain⟨r1,r2,_⟩:=z2 0 z o rfl (by simp[B]);have p:(Builtin.zeroCells J.cells k).toList=List.replicate k o:=by
     rw[B];apply List.ext_getElem
     ·simp[Builtin.zeroCells]
     ·intro j h1 N;simp[Builtin.zeroCells,Nat.mod_one]
    have q:off+k<=m.size:=by rw[X];have L:=f.fit a;rw[l]at L;omega
    have C:=run_storeCells_at P (G id).g off b.e (List.replicate k o) 0 m w q1 (by simpa using q) (fun u K=>by rw[List.eq_of_mem_replicate K];exact r2);simp only[Wt]at C;have D:off+(List.replicate k o).length<=m.toList.length:=by simpa using q
    have k2:=vA.set (dr:=dr) hi W a (m.toList.take off++List.replicate k o++m.toList.drop (off+(List.replicate k o).length)).toArray (b.es.take off++List.replicate k [z]++b.es.drop (off+k))
     (by rw[jY,Yg _ _ _ D];simpa using X)
     (fun E F=>by
      rw[qT]at F;rcases qg.1 F with h|h
      ·exact f.len a E (XB _ _ h)
      ·rcases qg.1 h with h|h
       ·rw[l,List.eq_of_mem_replicate h];rfl
       ·exact f.len a E (YP _ _ h))
     (by
      have r:=f.fit a;have:(b.es.take off++List.replicate k [z]++b.es.drop (off+k)).length=b.es.length:=by simp;omega
      rw[this];exact r)
     (fun i' j E pv d H=>by
      have A:(List.replicate k [z]).length=k:=by simp
      rw[show off+k=off+(List.replicate k [z]).length from by rw[A],xc _ _ _ _ (by rw[A];omega),A]at d;rw[List.getElem?_toArray,xc _ _ _ _ D,l,List.length_replicate];by_cases I:off<=i'/\i'<off+k
      ·rw[zd I,YR,zd (by omega)]at d;injection d with d
       subst d;have Q:j=0:=by have:=(zn.1 H).1;simp at this;omega
       subst Q;simp at H;subst H;rw[zd (by omega),YR,zd (by omega)];exact⟨o,rfl,fun _=>r1,.c r1,r2⟩
      ·rw[ze I]at d;have hjn:j<1:=by rw[<-l,<-f.len a E (zM d)];exact(zn.1 H).1
       rw[ze (by omega)];obtain⟨u',u1,u2⟩:=q3 i' j E pv d H;rw[l]at u1;exact⟨u',by simpa using u1,u2⟩)
    rw[c1]at k2;refine⟨.tuple #[],_,_,_,?_,k2,.c (.wY rfl (by simp))⟩;obtain⟨k',rfl⟩:∃k',k=k'+1:=⟨k-1,by omega⟩;simp[Builtin.clear_,zO K,Yf i1 i2,p,l,C]
   ·cases h
  ·cases h
 ·cases h
theorem Yw{c:Operand->Option O}{a:Operand->Value}(b:∀y f,c y=some f->qx w S G Z f (a y)):∀{l:List Operand} {xs:zb},yF (l.map c)=some xs->Zip (qx w S G Z) xs (l.map a)
 |[],xs,h=>by
  simp only[XD,yF]at h;injection h with h
  subst h;exact .nil
 |x::l,xs,h=>by
  simp only[wD]at h;cases d:c x with
  |none=>rw[d]at h;simp[yF]at h
  |some p=>
   rw[d]at h;simp only[yF]at h;cases e:yF (l.map c)with
   |none=>rw[e]at h;simp at h
   |some r=>rw[e]at h;simp at h;subst h;exact .cons (b _ _ d) (Yw b e)
def xB(dr:Prop)(P:Program)(g:FuncId)(a:AM.Spec):Prop:=
 (∃fn,P.funcs[g]?=some fn/\(fn.name== "runtime.NumGoroutine")=false/\fn.body.isNone=false) /\
 ∀(args:zb) (Y:Hp) (Z:Nat) (r:O) (c:Hp) (b:Nat),a args Y Z=some (r,c,b)->∀(w:World) (S:Nat->Prop) (G:Nat->GI) (vs:List Value),Inv P w S G Y Z->Zip (qx w S G Z) args vs ->
  Calls P g vs.toArray w fun e w'=>∃v d f,e=.returned v/\vA dr P Y Z S G w c b d f w'/\qx w' d f b r v
abbrev zg:=xB True
def zfb(dr:Prop)(P:Program)(w:World)(Y:Hp)(Z:Nat)(S:Nat->Prop)(G:Nat->GI)(x:O)(d:Hp)(c:Nat)(r:Result Next):Prop:=
 (∃v w' a b,(r=.ok (.value v) w'\/(r=.ok .skip w'/\v=undef))/\vA dr P Y Z S G w d c a b w'/\qx w' a b c x v) \/
 ∃g vs,r=.ok (.enter g vs) w/\Calls P g vs w fun e w'=>∃v a b,e=.returned v/\vA dr P Y Z S G w d c a b w'/\qx w' a b c x v
theorem Ww.op{x:O}{a:Hp}{b:Nat}{s:Sem Value}(h:Ww dr P w Y Z S G x a b (s.run P w)):zfb dr P w Y Z S G x a b ((do pure (.value (<-s)):Sem Next).run P w):=by obtain⟨v,w',c,d,e,f,g⟩:=h;exact .inl ⟨v,w',c,d,.inl (by simp[e]),f,g⟩
theorem zgg{ts:Array TypeId}{us:Array Value}{t:TypeId}{u:Value}(ty:TypeId)(a:ts[0]?=some t)(b:us[0]?=some u):Builtin.len_ ts ty us=Builtin.len_ #[t] ty #[u]:=by simp[Builtin.len_,a,b]
theorem OU{ts:Array TypeId}{us:Array Value}{t t':TypeId}{u v:Value}(ty:TypeId)(a:ts[0]?=some t)(b:ts[1]?=some t')(c:us[0]?=some u)(d:us[1]?=some v):Builtin.append_ ts ty us=Builtin.append_ #[t,t'] ty #[u,v]:=by simp[Builtin.append_,a,b,c,d]
theorem zcp{ts:Array TypeId}{us:Array Value}{t:TypeId}{u v:Value}(ty:TypeId)(a:ts[0]?=some t)(b:us[0]?=some u)(c:us[1]?=some v):Builtin.copy_ ts ty us=Builtin.copy_ #[t,t] ty #[u,v]:=by simp[Builtin.copy_,a,b,c]
theorem Jr{α a:Type}{R:α->a->Prop}{x:α}{us:List a}(h:Zip R [x] us):∃u,us=[u]/\R x u:=by obtain⟨u,b,rfl,c,d⟩:=h.kc;rw[d.YU];exact⟨u,rfl,c⟩
theorem Nu{α a:Type}{R:α->a->Prop}{x y:α}{us:List a}(h:Zip R [x,y] us):∃u v,us=[u,v]/\R x u/\R y v:=by obtain⟨u,b,rfl,c,d⟩:=h.kc;obtain⟨v,rfl,e⟩:=Jr d;exact⟨u,v,rfl,c,e⟩
theorem Zip.append{α c:Type}{R:α->c->Prop}{xs ys:List α}{us vs:List c}(h:Zip R xs us)(k:Zip R ys vs):Zip R (xs++ys) (us++vs):=by
 refine⟨by simp[h.1,k.1],fun j x u a b=>?_⟩;by_cases d:j<xs.length
 ·rw[qp d]at a;rw[qp (by rw[<-h.1];exact d)]at b;exact h.2 j x u a b
 ·rw[z8 (by omega)]at a;rw[z8 (by rw[<-h.1];omega),<-h.1]at b;exact k.2 _ x u a b
theorem qh{α a:Type}{o:Option α}{f:α->a}{y:a}(h:o.map f=some y):∃x,o=some x/\f x=y:=by
 cases o with
 |none=>simp at h
 |some x=>exact⟨x,rfl,by simpa using h⟩
end
theorem eC{C:Ctx}{w:World}{S:Nat->Prop}{G:Nat->GI}{Y:Hp}{Z:Nat}(hΓ:∀g L,C.Γ g=some L->xB dr C.P g L)(hi:Inv C.P w S G Y Z)
  {ρ:Operand->Option O} {a:Operand->Value} (d:∀y pv,ρ y=some pv->qx w S G Z pv (a y)) {o:Oper} {x:O} {Y':Hp} {Z':Nat} (h:qf C ρ Y Z o.op=some (x,Y',Z')) :
  zfb dr C.P w Y Z S G x Y' Z' ((execOp a o).run C.P w):=by
 have A:∀{f:O} {y:O},(f,Y,Z)=(y,Y',Z')->f=y/\Y=Y'/\Z=Z':=by
  intro f y h;injection h with K h
  injection h with N Q;exact⟨K,N,Q⟩
 unfold qf at h;unfold execOp;split at h
 ·rename_i y B;obtain⟨p,D,F⟩:=qh h;obtain⟨rfl,rfl,rfl⟩:=A F;simp only[B];exact .inl ⟨a y,w,S,G,.inl rfl,.refl hi,d _ _ D⟩
 ·rename_i y B;obtain⟨p,D,F⟩:=qh h;obtain⟨rfl,rfl,rfl⟩:=A F;simp only[B];exact .inl ⟨a y,w,S,G,.inl rfl,.refl hi,d _ _ D⟩
 ·rename_i c y z B;simp only[B];split at h
  ·rename_i W;obtain⟨p,D,F⟩:=qh h;obtain⟨rfl,rfl,rfl⟩:=A F;obtain⟨e,_⟩:=(d _ _ W).yq;exact .inl ⟨a y,w,S,G,.inl (by simp[e,asBool]),.refl hi,d _ _ D⟩
  ·rename_i W;obtain⟨p,D,F⟩:=qh h;obtain⟨rfl,rfl,rfl⟩:=A F;obtain⟨e,_⟩:=(d _ _ W).yq;exact .inl ⟨a z,w,S,G,.inl (by simp[e,asBool]),.refl hi,d _ _ D⟩
  ·cases h
 ·rename_i t B;simp only[B];split at h
  ·rename_i n z D F;split at h
   ·rename_i hl;injection h with h
    injection h with K h;injection h with N Q;subst K;subst N;subst Q;exact(Iy hi D F hl.1 hl.2).op
   ·cases h
  ·cases h
 ·rename_i t y B;simp only[B];split at h
  ·rename_i n p D F;split at h
   ·rename_i W;injection h with h
    injection h with K h;injection h with N Q;subst K;subst N;subst Q;exact(Tf hi D (d _ _ F) W.1 W.2.1 W.2.2).op
   ·cases h
  ·cases h
 ·rename_i t parts B;simp only[B];split at h
  ·rename_i ps hps;obtain⟨p,D,F⟩:=qh h;obtain⟨rfl,rfl,rfl⟩:=A F;exact(IG hi D (by simpa using gP d hps)).op
  ·cases h
 ·rename_i t len parts B;simp only[B];split at h
  ·rename_i ps hps;exact(mQ hi h (by simpa using gP d hps)).op
  ·cases h
 ·rename_i t y B;simp only[B];split at h
  ·rename_i p Y1;obtain⟨q,D,F⟩:=qh h;obtain⟨rfl,rfl,rfl⟩:=A F;exact(uw hi D (d _ _ Y1)).op
  ·cases h
 ·rename_i t y z B;simp only[B];split at h
  ·rename_i p q D F;obtain⟨Y1,I,H⟩:=qh h;injection H with K H
   injection H with N Q;subst K;subst N;subst Q;obtain⟨w',S',G',r1,r2⟩:=Iz hi I (d _ _ D) (d _ _ F);exact .inl ⟨undef,w',S',G',.inr ⟨by simp[r1],rfl⟩,r2,kv⟩
  ·cases h
 ·rename_i y B;simp only[B];split at h
  ·rename_i id i j hy;injection h with h
   obtain⟨rfl,rfl,rfl⟩:=A h;have hr:=d _ _ hy;obtain⟨D,F⟩:=hr.JC;exact .inl ⟨a y,w,S,G,.inl (by rw[F];rfl),.refl hi,hr⟩
  ·rename_i cs hy;injection h with h
   obtain⟨rfl,rfl,rfl⟩:=A h;have hr:=d _ _ hy;have hr2:=hr;have W:=hr.XF;generalize hay:a y=u at *;cases W with
   |ptr us D F=>exact .inl ⟨_,w,S,G,.inl rfl,.refl hi,hr2⟩
  ·cases h
 ·rename_i op t y z t2 B;simp only[B];split at h
  ·rename_i p q D F;obtain⟨r,I,H⟩:=qh h;obtain⟨rfl,rfl,rfl⟩:=A H;exact(OO hi y z I (d _ _ D) (d _ _ F)).op
  ·cases h
 ·rename_i op t y B;simp only[B];split at h
  ·rename_i p D;obtain⟨r,I,H⟩:=qh h;obtain⟨rfl,rfl,rfl⟩:=A H;exact(OP hi I (d _ _ D)).op
  ·cases h
 ·rename_i src dst y B;simp only[B];split at h
  ·rename_i p D;obtain⟨r,I,H⟩:=qh h;obtain⟨rfl,rfl,rfl⟩:=A H;exact(OQ hi I (d _ _ D)).op
  ·cases h
 ·rename_i f first J B
  simp only[B];split at h
  ·rename_i xs ys D F;injection h with h
   obtain⟨rfl,rfl,rfl⟩:=A h;exact(sX hi (by simpa using Yw d D) (by simpa using Yw d F)).op
  ·cases h
 ·rename_i t l c B;simp only[B];split at h
  ·rename_i p q D F;exact(oo hi h (d _ _ D) (d _ _ F)).op
  ·cases h
 ·rename_i t y lo hh B;simp only[B];split at h
  ·rename_i p D;obtain⟨r,I,H⟩:=qh h;obtain⟨rfl,rfl,rfl⟩:=A H;have hd:∀o:Option Operand,o.map ρ=none->o.map a=none:=fun o h=>by cases o<;>simp_all
   have hs:∀(o:Option Operand) (p:O),o.map ρ=some (some p)->∃u,o.map a=some u/\qx w S G Z p u:=fun o p h=>by
    cases o with
    |none=>simp at h
    |some y=>exact⟨a y,rfl,d _ _ (by simpa using h)⟩
   exact(ID hi I (d _ _ D) (hd lo) (hs lo) (hd hh) (hs hh)).op
  ·cases h
 ·rename_i t y f B;simp only[B];split at h
  ·rename_i p D;obtain⟨r,I,H⟩:=qh h;obtain⟨rfl,rfl,rfl⟩:=A H;exact(oi hi I (d _ _ D)).op
  ·cases h
 ·rename_i t y f B;simp only[B];split at h
  ·rename_i p D;obtain⟨r,I,H⟩:=qh h;obtain⟨rfl,rfl,rfl⟩:=A H;exact(IA hi I (d _ _ D)).op
  ·cases h
 ·rename_i t y z B;simp only[B];split at h
  ·rename_i p q D F;obtain⟨r,I,H⟩:=qh h;obtain⟨rfl,rfl,rfl⟩:=A H;exact(oj hi I (d _ _ D) (d _ _ F)).op
  ·cases h
 ·rename_i t y z B;simp only[B];split at h
  ·rename_i p q D F;obtain⟨r,I,H⟩:=qh h;obtain⟨rfl,rfl,rfl⟩:=A H;exact(IB hi I (d _ _ D) (d _ _ F)).op
  ·cases h
 ·rename_i y i B;simp only[B];split at h
  ·rename_i vs D;obtain⟨r,I,H⟩:=qh h;obtain⟨rfl,rfl,rfl⟩:=A H;exact(Bj hi I (d _ _ D)).op
  ·cases h
 ·rename_i c B;simp only[B];obtain⟨callee,⟨E⟩,M⟩:=c;unfold ZB at h;simp only at h;split at h
  ·rename_i xs R;have hz:=Yw d R;split at h
   ·rename_i b;unfold yO at h;split at h
    ·split at h
     ·rename_i y t ht;obtain⟨u,hu1,hu2⟩:=Jr hz;obtain⟨r,I,H⟩:=qh h;obtain⟨rfl,rfl,rfl⟩:=A H;have hd:=(Tn (dr:=dr) (ty:=o.type) hi I hu2).op;rw[<-zgg (us:=(E.map a).toArray) o.type ht (by simp[hu1])]at hd;simpa[resolve,invoke,builtin,-bind_pure_comp]using hd
     ·cases h
    ·obtain⟨r,I,H⟩:=qh h;obtain⟨rfl,rfl,rfl⟩:=A H;have hd:=(To (dr:=dr) (us:=(E.map a).toArray) (ts:=M) (ty:=o.type) hi I (by simpa using hz)).op;simpa[resolve,invoke,builtin,-bind_pure_comp]using hd
    ·obtain⟨r,I,H⟩:=qh h;obtain⟨rfl,rfl,rfl⟩:=A H;have hd:=(Tp (dr:=dr) (us:=(E.map a).toArray) (ts:=M) (ty:=o.type) hi I (by simpa using hz)).op;simpa[resolve,invoke,builtin,-bind_pure_comp]using hd
    ·split at h
     ·rename_i s y t t' ht ht';obtain⟨u,v,T,hu,hv⟩:=Nu hz;have hd:=(Eb (dr:=dr) (ty:=o.type) hi h hu hv).op;rw[<-OU (us:=(E.map a).toArray) o.type ht ht' (by simp[T]) (by simp[T])]at hd;simpa[resolve,invoke,builtin,-bind_pure_comp]using hd
     ·cases h
    ·split at h
     ·rename_i s y t ht;obtain⟨u,v,T,hu,hv⟩:=Nu hz;have hd:=(OT (dr:=dr) (t':=t) (ty:=o.type) hi h hu hv).op;rw[<-zcp (us:=(E.map a).toArray) o.type ht (by simp[T]) (by simp[T])]at hd;simpa[resolve,invoke,builtin,-bind_pure_comp]using hd
     ·cases h
    ·split at h
     ·rename_i y t ht;obtain⟨u,hu1,hu2⟩:=Jr hz;have hd:=(II (dr:=dr) (ty:=o.type) hi h hu2).op;rw[<-Tq (us:=(E.map a).toArray) o.type ht (by simp[hu1])]at hd;simpa[resolve,invoke,builtin,-bind_pure_comp]using hd
     ·cases h
    ·cases h
   ·rename_i f;unfold kd at h;split at h
    ·rename_i g first J hf
     split at h
     ·rename_i L hg;obtain⟨⟨fn,f1,f2,f3⟩,X⟩:=hΓ g L hg;obtain⟨us,ts,K,l1,l2,r1,r2⟩:=(d _ _ hf).DW;have hz:Zip (qx w S G Z) (first++xs++J) (us.toList++E.map a++ts.toList):=
       (Zip.append ⟨by simpa using l1,fun j pv x p q=>r1 j pv x p (by simpa using q)⟩ (Yw d R)).append ⟨by simpa using l2,fun j pv x p q=>r2 j pv x p (by simpa using q)⟩
      refine .inr ⟨g,(us.toList++E.map a++ts.toList).toArray,?_,X _ _ _ _ _ _ h w S G _ hi hz⟩;have f2':¬fn.name= "runtime.NumGoroutine":=by simpa using f2
      have f3':¬fn.body=none:=by intro h;simp[h]at f3
      have e5:(us.toList++E.map a++ts.toList).toArray=us++(E.map a).toArray++ts:=by apply Array.ext';simp
      rw[e5];simp[resolve,K,Deferred.ofValue,invoke,callFunc,f1,f2',f3']
     ·cases h
    ·cases h
   ·cases h
  ·cases h
 ·rename_i t B;simp only[B];split at h
  ·rename_i kt hk;injection h with h
   injection h with K h;injection h with N Q;subst K;subst N;subst Q;exact(Bn hi t).op
  ·cases h
 ·rename_i t y z ok B;simp only[B];split at h
  ·rename_i p q D F;obtain⟨r,I,H⟩:=qh h;obtain⟨rfl,rfl,rfl⟩:=A H;exact(Ec hi I (d _ _ D) (d _ _ F)).op
  ·cases h
 ·rename_i t m k y B;simp only[B];split at h
  ·rename_i p q r D F I;obtain⟨Y1,H,h5⟩:=qh h;injection h5 with K h5
   injection h5 with N Q;subst K;subst N;subst Q;obtain⟨w',S',G',r1,r2⟩:=lJ hi H (d _ _ D) (d _ _ F) (d _ _ I);exact .inl ⟨undef,w',S',G',.inr ⟨by simp[r1],rfl⟩,r2,kv⟩
  ·cases h
 ·rename_i t m k y B;simp only[B];split at h
  ·rename_i p q r D F I;obtain⟨Y1,H,h5⟩:=qh h;injection h5 with K h5
   injection h5 with N Q;subst K;subst N;subst Q;obtain⟨w',S',G',r1,r2⟩:=lJ hi H (d _ _ D) (d _ _ F) (d _ _ I);exact .inl ⟨undef,w',S',G',.inr ⟨by simp[r1],rfl⟩,r2,kv⟩
  ·cases h
 ·cases h
def ZD(pf:FuncId->Bool):Op->Nat
 | .move _|.assign _|.pick ..|.build ..|.binOp ..|.unOp ..|.convert ..|.makeFunc ..|.fieldAddr ..|.field ..|.index ..|.extract ..|.nilCheck _=>0
 | .load ..|.indexAddr ..|.slice ..=>1
 | .call c=>match c.callee with
  | .builtin .len|.builtin .min|.builtin .max=>0
  | .value (.func g)=>if pf g then 1 else 2
  |_=>2
 |_=>2
def Yx(a:AM.Spec):Prop:=∀args Y Z r c d,a args Y Z=some (r,c,d)->(c=Y/\d=Z)/\∀b,Y Z=none->a args (qR Y Z b) (Z+1)=some (r,qR Y Z b,Z+1)
section
variable{C:Ctx}{pf:FuncId->Bool}
theorem VQ{α:Type}{o:Option O}{Y b:α}{Z c:Nat}{x:O}(h:(o.map fun y=>(y,Y,Z))=some (x,b,c)):o=some x/\b=Y/\c=Z:=by obtain⟨y,d,a⟩:=qh h;injection a with e a;injection a with f g;subst e;subst f;subst g;exact⟨d,rfl,rfl⟩
theorem Tr(k:∀g a,pf g=true->C.Γ g=some a->Yx a){op:Op}(e:ZD pf op<=1){U:Nat->O}{Y i:Hp}{Z j:Nat}{x:O}(h:qf C (get U) Y Z op=some (x,i,j)):i=Y/\j=Z:=by
 have d:∀{y:O},some (y,Y,Z)=some (x,i,j)->i=Y/\j=Z:=by
  intro y h;injection h with h
  injection h with _ h;injection h with p q;exact⟨p.symm,q.symm⟩
 cases op<;>simp only[ZD]at e<;>(try omega)<;>simp only[qf]at h
 case move=>exact(VQ h).2
 case assign=>exact(VQ h).2
 case pick=>split at h<;>first|exact(VQ h).2|cases h
 case build=>split at h<;>first|exact(VQ h).2|cases h
 case load=>split at h<;>first|exact(VQ h).2|cases h
 case nilCheck=>split at h<;>first|exact d h|cases h
 case binOp=>split at h<;>first|exact(VQ h).2|cases h
 case unOp=>split at h<;>first|exact(VQ h).2|cases h
 case convert=>split at h<;>first|exact(VQ h).2|cases h
 case makeFunc=>split at h<;>first|exact d h|cases h
 case slice t x lo hi s=>cases s<;>simp only at h<;>first|(split at h<;>first|exact(VQ h).2|cases h)|cases h
 case fieldAddr=>split at h<;>first|exact(VQ h).2|cases h
 case field=>split at h<;>first|exact(VQ h).2|cases h
 case indexAddr=>split at h<;>first|exact(VQ h).2|cases h
 case index=>split at h<;>first|exact(VQ h).2|cases h
 case extract=>split at h<;>first|exact(VQ h).2|cases h
 case call c=>
  unfold ZB at h;split at h
  ·rename_i xs _;cases l:c.callee with
   |invoke r m=>rw[l]at h;cases h
   |builtin b=>
    rw[l]at e h;cases b<;>simp at e<;>simp only[yO]at h
    ·split at h<;>first|exact(VQ h).2|cases h
    ·exact(VQ h).2
    ·exact(VQ h).2
   |value f=>
    rw[l]at e h;cases f<;>simp at e;rename_i n;simp only[kd,get]at h;split at h
    ·rename_i a u;exact(k n a (by by_cases o:pf n=true;exact o;simp[o]at e) u _ _ _ _ _ _ h).1
    ·cases h
  ·cases h
theorem OV{op:Op}(d:ZD pf op=0){e:Operand->Option O}(Y Y2:Hp)(Z g:Nat):qf C e Y2 g op=(qf C e Y Z op).map fun r=>(r.1,Y2,g):=by
 cases op<;>simp only[ZD]at d<;>(try (exact absurd d (by omega)))<;>simp only[qf]
 case move x=>cases e x<;>rfl
 case assign x=>cases e x<;>rfl
 case pick c a b=>split<;>simp[vX,jZ]
 case build t i=>split<;>simp[vX,jZ]
 case nilCheck x=>split<;>rfl
 case binOp=>split<;>simp[vX,jZ]
 case unOp=>split<;>simp[vX,jZ]
 case convert=>split<;>simp[vX,jZ]
 case makeFunc=>split<;>rfl
 case fieldAddr=>split<;>simp[vX,jZ]
 case field=>split<;>simp[vX,jZ]
 case index=>split<;>simp[vX,jZ]
 case extract=>split<;>simp[vX,jZ]
 case call c=>
  unfold ZB;cases yF (c.args.toList.map e)with
  |none=>rfl
  |some xs=>
   simp only;cases h:c.callee with
   |value f=>rw[h]at d;cases f<;>simp at d;split at d<;>omega
   |invoke r m=>rfl
   |builtin b=>
    rw[h]at d;cases b<;>simp at d<;>simp only[yO]
    ·split<;>simp[vX,jZ]
    ·simp[vX,jZ]
    ·simp[vX,jZ]
theorem zgh{op:Op}(c:ZD pf op=0){b:Operand->Option O}{Y d:Hp}{Z e:Nat}{x:O}(h:qf C b Y Z op=some (x,d,e))(Y2:Hp)(a:Nat):qf C b Y2 a op=some (x,Y2,a):=by rw[OV c Y Y2 Z a,h];rfl
theorem VR{b a:Operand->Option O}:∀{l:List (Nat×Operand)},(∀p∈l,b p.2=a p.2)->xb b l=xb a l
 |[],_=>rfl
 |(i,x)::l,h=>by simp only[xb];rw[h (i,x) (by simp),VR (l:=l) fun p Y=>h p (by simp[Y])]
theorem Bo{o e:Operand->Option O}{op:Op}{Y:Hp}{Z:Nat}(h:∀x∈op.operands.toList,o x=e x):qf C o Y Z op=qf C e Y Z op:=by
 cases op<;>simp only[Op.operands]at h<;>simp only[qf]
 case move x=>rw[h x (by simp)]
 case assign x=>rw[h x (by simp)]
 case pick c a b=>rw[h c (by simp),h a (by simp),h b (by simp)]
 case box t x=>rw[h x (by simp)]
 case build t q=>rw[VR (l:=q.toList) fun p Y=>h p.2 (by simp only[wA];exact⟨p,Y,rfl⟩)]
 case buildSlice t n q=>rw[VR (l:=q.toList) fun p Y=>h p.2 (by simp only[wA];exact⟨p,Y,rfl⟩)]
 case load t x=>rw[h x (by simp)]
 case store t a x=>rw[h a (by simp),h x (by simp)]
 case nilCheck x=>rw[h x (by simp)]
 case binOp op t x y B=>rw[h x (by simp),h y (by simp)]
 case unOp op t x=>rw[h x (by simp)]
 case convert s d x=>rw[h x (by simp)]
 case makeFunc f a b=>rw[Bb (g:=e) fun x j=>h x (by simp at j⊢;exact .inl j),Bb (l:=b.toList) (g:=e) fun x j=>h x (by simp at j⊢;exact .inr j)]
 case makeSlice t l c=>rw[h l (by simp),h c (by simp)]
 case slice t x lo hi w=>
  cases w with
  |some m=>rfl
  |none=>
   simp only;rw[h x (by simp)];have u:lo.map o=lo.map e:=by cases lo with
    |none=>rfl
    |some y=>simp only[zK];rw[h y (by simp)]
   have v:hi.map o=hi.map e:=by cases hi with
    |none=>rfl
    |some y=>simp only[zK];rw[h y (by simp)]
   rw[u,v]
 case fieldAddr t x f=>rw[h x (by simp)]
 case field t x f=>rw[h x (by simp)]
 case indexAddr t x i=>rw[h x (by simp),h i (by simp)]
 case index t x i=>rw[h x (by simp),h i (by simp)]
 case extract x i=>rw[h x (by simp)]
 case makeMap t r=>cases r<;>rfl
 case lookup t x i D=>rw[h x (by simp),h i (by simp)]
 case mapUpdate t m k x=>rw[h m (by simp),h k (by simp),h x (by simp)]
 case insert t m k x=>rw[h m (by simp),h k (by simp),h x (by simp)]
 case call c=>
  unfold ZB;have z:c.args.toList.map o=c.args.toList.map e:=Bb fun x j=>h x (by simp only[Call.operands,Array.toList_append,qg];exact .inr j)
  rw[z];cases yF (c.args.toList.map e)with
  |none=>rfl
  |some xs=>
   simp only;cases A:c.callee with
   |value f=>simp only;rw[h f (by simp[Call.operands,A])]
   |invoke r m=>rfl
   |builtin b=>rfl
def kR(C:Ctx)(a:Array Oper)(o:Oper)(U:Nat->O)(Y:Hp)(Z:Nat):Option (O×Hp×Nat):=
 if Region.wanted o (WN a U)=true then qf C (get U) Y Z o.op else some (.wY [],Y,Z)
theorem ji(a:Array Oper)(o:Oper)(st:St):jf C a o st=(kR C a o st.U st.Y st.Z).map fun r=>⟨put st.U o.dst r.1,r.2.1,r.2.2⟩:=by
 unfold jf kR;split
 ·cases qf C (get st.U) st.Y st.Z o.op<;>rfl
 ·rfl
theorem WO{a:Array Oper}{o:Oper}{U c:Nat->O}{Y:Hp}{Z:Nat}(h:∀t,t∈o.looksAt a->U t=c t):kR C a o U Y Z=kR C a o c Y Z:=by
 have e:Region.wanted o (WN a U)=Region.wanted o (WN a c):=by
  unfold Region.wanted;split
  ·rfl
  ·rename_i j b i;have:WN a U j=WN a c j:=by
    unfold WN;split
    ·rename_i d hd;rw[h d (by simp[Oper.looksAt,i,hd])]
    ·rfl
   rw[this]
 unfold kR;rw[e];split
 ·refine Bo fun x k=>?_
  cases x with
  |tmp t=>simp only[get];rw[h t];simp only[Oper.looksAt,qg,List.mem_filterMap];exact .inl ⟨.tmp t,k,rfl⟩
  |const x=>rfl
  |global g=>rfl
  |func f=>rfl
 ·rfl
theorem Zg{U:Nat->O}{d:Option Tmp}{x:O}{t:Nat}(h:∀e,d=some e->e≠t):put U d x t=U t:=by
 cases d with
 |none=>rfl
 |some e=>exact wM _ _ _ _ fun a=>h e rfl a.symm
theorem ou{U:Nat->O}{d e:Option Tmp}{x y:O}(h:∀k,d=some k->e≠some k):put (put U d x) e y=put (put U e y) d x:=by
 cases d with
 |none=>rfl
 |some k=>
  cases e with
  |none=>rfl
  |some m=>
   have a:m≠k:=fun b=>h k rfl (by rw[b])
   funext i;simp only[put,qR];by_cases c:i=m<;>by_cases f:i=k<;>simp_all
def Ts(pf:FuncId->Bool)(c:Array Oper)(a b:Oper):Bool:=
 a.apart c b&&(ZD pf a.op==0||ZD pf b.op==0||(decide (ZD pf a.op<=1)&&decide (ZD pf b.op<=1)))
theorem c7{b:Array Oper}{o:Oper}{U:Nat->O}{Y d:Hp}{Z f:Nat}{x:O}(g:ZD pf o.op=0)(h:kR C b o U Y Z=some (x,d,f))(Y2:Hp)(a:Nat):kR C b o U Y2 a=some (x,Y2,a):=by
 unfold kR at h⊢;split at h
 ·rename_i c;rw[zd c];exact zgh g h Y2 a
 ·rename_i c;rw[ze c];injection h with h
  injection h with e _;subst e;rfl
theorem JO(b:∀g a,pf g=true->C.Γ g=some a->Yx a){c:Array Oper}{o:Oper}{U:Nat->O}{Y d:Hp}{Z e:Nat}{x:O}(f:ZD pf o.op<=1)(h:kR C c o U Y Z=some (x,d,e)):d=Y/\e=Z:=by
 unfold kR at h;split at h
 ·exact Tr b f h
 ·injection h with h;injection h with _ h;injection h with i j;exact⟨i.symm,j.symm⟩
theorem Ed{c:Array Oper}{a b:Oper}(j:ZD pf a.op=0)(p:∀d,a.dst=some d->d ∉ b.looksAt c)(q:∀d,a.dst=some d->b.dst≠some d)(s:∀d,b.dst=some d->d ∉ a.looksAt c)(st:St) :
  (jf C c a st).bind (jf C c b)=(jf C c b st).bind (jf C c a):=by
 have u:∀x Y Z,kR C c b (put st.U a.dst x) Y Z=kR C c b st.U Y Z:=fun x Y Z=>WO fun t k=>Zg fun e l g=>p e l (g ▸ k)
 have o:∀x Y Z,kR C c a (put st.U b.dst x) Y Z=kR C c a st.U Y Z:=fun x Y Z=>WO fun t k=>Zg fun e l g=>s e l (g ▸ k)
 have i:∀x y,put (put st.U a.dst x) b.dst y=put (put st.U b.dst y) a.dst x:=fun x y=>ou q
 rw[ji c a st,ji c b st];cases f:kR C c a st.U st.Y st.Z with
 |none=>
  cases m:kR C c b st.U st.Y st.Z with
  |none=>rfl
  |some r=>
   obtain⟨y,Y2,n⟩:=r;simp only[xp,nD,zK,qo];rw[ji];simp only[o];cases v:kR C c a st.U Y2 n with
   |none=>rfl
   |some w=>obtain⟨x,z,D⟩:=w;rw[c7 j v st.Y st.Z]at f;cases f
 |some r=>
  obtain⟨x,Y1,n1⟩:=r;have h:=c7 j f st.Y st.Z;rw[f]at h;injection h with h;injection h with _ h;injection h with A B;subst A;subst B;simp only[zK,qo];rw[ji];simp only[u];cases m:kR C c b st.U st.Y st.Z with
  |none=>rfl
  |some r=>obtain⟨y,Y2,n⟩:=r;simp only[zK,qo];rw[ji];simp only[o,c7 j f Y2 n,zK,i]
theorem OW(i:∀g f,pf g=true->C.Γ g=some f->Yx f){c:Array Oper}{a b:Oper}(h:Ts pf c a b=true)(st:St) :
  (jf C c a st).bind (jf C c b)=(jf C c b st).bind (jf C c a):=by
 simp only[Ts,zH]at h;obtain⟨o,m⟩:=h;obtain⟨p,q,s⟩:=Oper.apart_spec o;simp only[qd,jq,zH,zP]at m;rcases m with(h|h)|⟨A,w⟩
 ·exact Ed h p q s st
 ·exact(Ed h s (fun d hd B=>q d B hd) p st).symm
 ·have D:∀x Y Z,kR C c b (put st.U a.dst x) Y Z=kR C c b st.U Y Z:=fun x Y Z=>WO fun t u=>Zg fun e v j=>p e v (j ▸ u)
  have z:∀x Y Z,kR C c a (put st.U b.dst x) Y Z=kR C c a st.U Y Z:=fun x Y Z=>WO fun t u=>Zg fun e v j=>s e v (j ▸ u)
  have n:∀x y,put (put st.U a.dst x) b.dst y=put (put st.U b.dst y) a.dst x:=fun x y=>ou q
  rw[ji c a st,ji c b st];cases k:kR C c a st.U st.Y st.Z with
  |none=>
   cases l:kR C c b st.U st.Y st.Z with
   |none=>rfl
   |some r=>obtain⟨y,Y2,E⟩:=r;obtain⟨rfl,rfl⟩:=JO i w l;simp only[xp,nD,zK,qo];rw[ji];simp only[z,k,xp]
  |some r=>
   obtain⟨x,Y1,n1⟩:=r;obtain⟨rfl,rfl⟩:=JO i A k;simp only[zK,qo];rw[ji];simp only[D];cases l:kR C c b st.U st.Y st.Z with
   |none=>rfl
   |some r=>obtain⟨y,Y2,E⟩:=r;obtain⟨rfl,rfl⟩:=JO i w l;simp only[zK,qo];rw[ji];simp only[z,k,zK,n]
def kW(C:Ctx)(a:Array Oper):List Nat->St->Option St
 |[],st=>some st
 |i::l,st=>match a[i]? with
  |none=>kW C a l st
  |some o=>(jf C a o st).bind (kW C a l)
def ov(acc:List Nat)(o:Oper):Nat:=o.after.toList.foldl (fun s e=>if Region.binds .any e then s||| 2 ^ e.on||| acc.getD e.on 0 else s) 0
def Bp(c:Oper->Oper->Bool)(b:Array Oper):List Oper->Nat->List Nat->Bool
 |[],_,_=>true
 |o::l,i,a=>
  o.after.toList.all (fun e=>!Region.binds .any e||decide (e.on<i)) &&
  (List.range i).all (fun j=>(ov a o).testBit j||(match b[j]? with|some p=>c p o|none=>false)) &&
  Bp c b l (i+1) (a++[ov a o])
def c8(a:Array Oper)(L:Nat->Prop):Prop:=∀k o,L k->a[k]?=some o->∀e∈o.after.toList,Region.binds .any e=true->L e.on
def uD(L:Nat->Prop)(o:Oper):Prop:=∀e∈o.after.toList,Region.binds .any e=true->L e.on
theorem uE(acc:List Nat)(j:Nat):∀(l:List Edge) (s:Nat),(l.foldl (fun s e=>if Region.binds .any e then s||| 2 ^ e.on||| acc.getD e.on 0 else s) s).testBit j=true ->
  s.testBit j=true\/∃e∈l,Region.binds .any e=true/\(j=e.on\/(acc.getD e.on 0).testBit j=true)
 |[],s,h=>.inl h
 |e::l,s,h=>by
  simp only[Q0]at h;rcases uE acc j l _ h with h1|⟨c,h1,d,f⟩
  ·split at h1
   ·rename_i a;simp only[Nat.testBit_or,qd]at h1;rcases h1 with(h1|h1)|h1
    ·exact .inl h1
    ·refine .inr ⟨e,by simp,a,.inl ?_⟩;by_cases b:j=e.on
     ·exact b
     ·rw[Nat.testBit_two_pow_of_ne (fun h=>b h.symm)]at h1;cases h1
    ·exact .inr ⟨e,by simp,a,.inr h1⟩
   ·exact .inl h1
  ·exact .inr ⟨c,by simp[h1],d,f⟩
def gQ(a:Array Oper)(b:List Nat):Prop:=∀(k m:Nat),b[k]?=some m->∀o,a[k]?=some o->∀L,c8 a L->uD L o->∀j,m.testBit j=true->L j
theorem bp{a:Array Oper}{b:List Nat}(n:gQ a b){o:Oper}(L:Nat->Prop)(k:c8 a L)(Y:uD L o)(p:∀e∈o.after.toList,Region.binds .any e=true->e.on<a.size)(j:Nat)(h:(ov b o).testBit j=true):L j:=by
 rcases uE b j _ 0 h with g|⟨e,g,l,c⟩
 ·simp at g
 ·have d:=Y e g l;rcases c with rfl|c
  ·exact d
  ·cases i:b[e.on]? with
   |none=>rw[VF,i]at c;simp at c
   |some m=>rw[VF,i]at c;have f:=p e g l;exact n e.on m i a[e.on] (by simp[f]) L k (k e.on _ d (by simp[f])) j c
theorem lM{y:Oper->Oper->Bool}{a:Array Oper}:∀{l:List Oper} {i:Nat} {b:List Nat},Bp y a l i b=true->b.length=i->(∀k,l[k]?=a[i+k]?)->gQ a b ->
  ∀k o,l[k]?=some o->(∀e∈o.after.toList,Region.binds .any e=true->e.on<i+k)/\∀j,j<i+k->(∀L,c8 a L->uD L o->L j)\/∃p,a[j]?=some p/\y p o=true
 |[],i,b,_,_,_,_,k,o,r=>by simp at r
 |o'::l,i,b,h,z,s,A,k,o,r=>by
  simp only[Bp,zH,ql,qd,vY,zP,jo]at h;obtain⟨⟨C,D⟩,E⟩:=h;have t:a[i]?=some o':=by have:=s 0;simpa using this.symm
  have hi:i<a.size:=(qE.1 t).1;have B:∀e∈o'.after.toList,Region.binds .any e=true->e.on<i:=fun e v d=>by
   rcases C e v with h|h
   ·rw[d]at h;cases h
   ·exact h
  have u:∀L,c8 a L->uD L o'->∀j,(ov b o').testBit j=true->L j:=fun L g Y j n=>bp A L g Y (fun e v d=>by have:=B e v d;omega) j n
  cases k with
  |zero=>
   simp at r;subst r;refine⟨by simpa using B,fun j n=>?_⟩;rcases D j (by simpa using n)with h|h
   ·exact .inl fun L g Y=>u L g Y j h
   ·split at h
    ·rename_i p Y;exact .inr ⟨p,Y,h⟩
    ·cases h
  |succ k=>
   have w:gQ a (b++[ov b o']):=by
    intro q m f F c L g Y j n;by_cases x:q<b.length
    ·rw[qp x]at f;exact A q m f F c L g Y j n
    ·rw[z8 (by omega)]at f;have:q=i:=by have:=(zn.1 f).1;simp at this;omega
     subst this;rw[z]at f;simp at f;subst f;rw[t]at c;injection c with c
     subst c;exact u L g Y j n
   have:=lM E (by simp[z]) (fun q=>by have:=s (q+1);simpa[nZ,DT 1 q]using this) w k o (by simpa using r);rwa [show i+1+k=i+(k+1)from by omega]at this
def ow(b:Oper->Oper->Bool)(a:Array Oper):Bool:=Bp b a a.toList 0 []
theorem lN{b:Oper->Oper->Bool}{a:Array Oper}(h:ow b a=true):∀i o,a[i]?=some o->(∀e∈o.after.toList,Region.binds .any e=true->e.on<i)/\∀j,j<i->(∀L,c8 a L->uD L o->L j)\/∃p,a[j]?=some p/\b p o=true:=by intro i o c;have:=lM h rfl (by simp) (fun k m d=>by simp at d) i o (by simpa using c);simpa using this
structure DX (C:Ctx) (ops:Array Oper) (cm:Oper->Oper->Bool) (A:St->Prop):Prop where
 keep:∀(i:Nat) (o:Oper) (st st':St),ops[i]?=some o->A st->jf C ops o st=some st'->A st'
 comm:∀(i j:Nat) (a b:Oper) (st st':St),ops[i]?=some a->ops[j]?=some b->cm a b=true->A st->(jf C ops a st).bind (jf C ops b)=some st'->(jf C ops b st).bind (jf C ops a)=some st'
theorem cu{a:Array Oper}{s:Oper->Oper->Bool}{A:St->Prop}(l:DX C a s A){i:Nat}{o:Oper}(f:a[i]?=some o)(b:List Nat):∀(pre:List Nat) (st r:St),A st->(∀j∈pre,∃p,a[j]?=some p/\s p o=true) ->
  kW C a (pre++i::b) st=some r->kW C a (i::(pre++b)) st=some r
 |[],st,r,_,_,h=>h
 |j::pre,st,r,t,h,d=>by
  obtain⟨p,Y,m⟩:=h j (by simp);simp only[wI,kW,Y]at d;cases hs:jf C a p st with
  |none=>rw[hs]at d;cases d
  |some c=>
   rw[hs,qo]at d;have e:=cu l f b pre c r (l.keep j p st c Y t hs) (fun k v=>h k (by simp[v])) d;simp only[kW,f]at e;cases n:jf C a o c with
   |none=>rw[n]at e;cases e
   |some q=>
    rw[n,qo]at e;have g:=l.comm j i p o st q Y f m t (by rw[hs,qo];exact n);simp only[kW,f,wI,Y];cases u:jf C a o st with
    |none=>rw[u]at g;cases g
    |some w=>rw[u,qo]at g;rw[qo,g,qo];exact e
def Yh(a:AM.Spec):Prop:=∀args Y Z r b c,a args Y Z=some (r,b,c)->Z<=c/\∀id blk,id<Z->Y id=some blk->blk.arr=false->b id=some blk
def Ee(L:List Tmp):Op->Bool
 | .load _ (.tmp a)=>L.contains a
 | .indexAddr _ (.tmp a) _=>L.contains a
 |_=>false
def ixB(L:List Tmp):Op->Bool
 | .indexAddr _ (.tmp a) _=>L.contains a
 |_=>false
def ox(a:FuncId->Bool):Op->Bool
 | .call ⟨.value (.func g),_,_⟩=>a g
 | .call ⟨.builtin .append,_,_⟩=>true
 | .buildSlice _ _ _=>true
 | .alloc _=>true
 |_=>false
def zgi:Op->Bool
 | .store _ _ _=>true
 |_=>false
def oy(D:List (Tmp×Tmp)):Op->Op->Bool
 | .load _ (.tmp a),.store _ (.tmp b) _=>D.contains (a,b)
 |_,_=>false
def half(D:List (Tmp×Tmp))(L:List Tmp)(a:FuncId->Bool)(p o:Op):Bool:=oy D p o||(Ee L p&&ox a o)||(ixB L p&&zgi o)
def zfc(D:List (Tmp×Tmp))(L:List Tmp)(b:FuncId->Bool)(a:Array Oper)(p o:Oper):Bool:=
 p.apart a o&&o.apart a p&&p.guard.isNone&&o.guard.isNone&&(half D L b p.op o.op||half D L b o.op p.op)
def OX(L:List Tmp):Bool:=L.any fun s=>decide (zB<=s)
def bq(L:List Tmp):Op->Bool
 | .buildSlice _ _ a=>a.toList.all fun p=>match p.2 with
  | .tmp z=>L.contains (z+zB)
  |_=>false
 |_=>false
def eD:Op->Bool
 | .load _ (.tmp _)=>true
 | .indexAddr _ (.tmp _) _=>true
 |_=>false
def gR(pf:FuncId->Bool):Op->Bool
 | .call ⟨.value (.func g),_,_⟩=>pf g
 |_=>false
def Tt:Op->Bool
 | .alloc _=>true
 |_=>false
def newB(pf:FuncId->Bool)(L:List Tmp)(a:Array Oper)(p o:Oper):Bool:=OX L&&p.apart a o&&p.guard.isNone&&o.guard.isNone&&(eD p.op||gR pf p.op)&&(bq L o.op||Tt o.op)
def Nv(pf:FuncId->Bool)(D:List (Tmp×Tmp))(L:List Tmp)(b:FuncId->Bool)(a:Array Oper)(p o:Oper):Bool:=Ts pf a p o||zfc D L b a p o||newB pf L a p o
def topB(pf:FuncId->Bool)(o:Op):Bool:=decide (ZD pf o<=1)||match o with
 | .store _ _ _=>true
 | .call ⟨.builtin .append,_,_⟩=>true
 | .buildSlice _ _ _=>true
 | .alloc _=>true
 |_=>false
def IJ(pf:FuncId->Bool)(L:List Tmp)(ops:Array Oper):Bool:=!OX L||ops.all fun o=>topB pf o.op&&L.all fun s=>decide (s<zB)||o.dst != some (s-zB)||(o.guard.isNone&&match o.op with
 | .move (.tmp b)=>L.contains (b+zB)
 | .build _ a=>a.toList.all fun p=>match p.2 with
  | .tmp z=>L.contains (z+zB)
  |_=>false
 |_=>false)
def Bq(pf:FuncId->Bool)(D:List (Tmp×Tmp))(L:List Tmp)(a:FuncId->Bool)(ops:Array Oper):Bool:=(D.isEmpty&&L.isEmpty)||ops.all fun o=>D.all (fun p=>o.dst != some p.2&&(o.dst != some p.1||match o.op with
    | .fieldAddr _ (.tmp s) _=>D.contains (s,p.2)
    | .indexAddr _ (.tmp s) _=>D.contains (s,p.2)&&L.contains s
    |_=>false)) &&
 L.all (fun s=>o.dst != some s||match o.op with
  | .fieldAddr _ (.tmp b) _=>L.contains b
  | .indexAddr _ (.tmp b) _=>L.contains b
  |_=>false) &&
 (decide (ZD pf o.op<=1)||match o.op with
  | .store _ _ _=>true
  | .call ⟨.value (.func g),_,_⟩=>D.all (fun p=>L.contains p.2)&&a g
  | .call ⟨.builtin .append,_,_⟩=>D.all (fun p=>L.contains p.2)
  | .buildSlice _ _ _=>D.all (fun p=>L.contains p.2)
  | .alloc _=>D.all (fun p=>L.contains p.2)
  |_=>false)
def Br(pf:FuncId->Bool)(D:List (Tmp×Tmp))(L:List Tmp)(b:FuncId->Bool)(a:Array Oper):Bool:=IJ pf L a&&Bq pf D L b a
end
section
variable{C:Ctx}{pf:FuncId->Bool}
theorem X9{Y Y1:Hp}{x y:O}(h:yf Y x=some (y,Y1)){id:Nat}{b:kV}(c:Y id=some b)(e:b.arr=false):Y1 id=some b:=by
 unfold yf at h;split at h
 ·split at h
  ·rename_i f a;split at h
   ·rename_i d;injection h with h
    injection h with _ h;subst h;rw[wM]
    ·exact c
    ·rintro rfl;rw[c]at a;injection a with a;subst a;rw[e]at d;cases d.1
   ·cases h
  ·cases h
 all_goals first
  |(injection h with h;injection h with _ h;subst h;exact c)
  |(split at h<;>first|(injection h with h;injection h with _ h;subst h;exact c)|cases h)
  |cases h
theorem XL:∀{xs ys:zb} {Y Y1:Hp},wV Y xs=some (ys,Y1)->∀{id:Nat} {b:kV},Y id=some b->b.arr=false->Y1 id=some b
 |[],ys,Y,Y1,h,id,b,a,c=>by simp only[wV]at h;injection h with h;injection h with _ h;subst h;exact a
 |x::l,ys,Y,Y1,h,id,b,a,c=>by
  simp only[wV]at h;split at h
  ·rename_i y Y2 d;split at h
   ·rename_i r e f;injection h with h;injection h with _ h;subst h
    exact XL f (X9 d a c) c
   ·cases h
  ·cases h
theorem KJ{Y Y1:Hp}{x y:O}(h:qH Y x=some (y,Y1)){id:Nat}{b:kV}(a:Y id=some b)(c:b.arr=false):Y1 id=some b:=by
 unfold qH at h;split at h
 ·split at h
  ·rename_i l e d;injection h with h;injection h with _ h;subst h
   exact XL d a c
  ·cases h
 ·exact X9 h a c
theorem OY{P:Program}{Y e:Hp}{t:TypeId}{p x:O}(h:WL P Y t p x=some e){id:Nat}{b:kV}(f:Y id=some b)(d:b.arr=false):∃g,e id=some g/\g.arr=false:=by
 unfold WL at h;split at h
 ·rename_i id' i j;split at h
  ·rename_i o m;split at h
   ·rename_i y Y1 c;have k:Y1 id=some b:=by
     split at c
     ·exact KJ c f d
     ·injection c with c;injection c with _ c;subst c;exact f
    split at h
    ·rename_i q n a _;split at h
     ·split at h
      ·injection h with h;subst h;by_cases l:id=id'
       ·subst l;rw[k]at a;injection a with a
        subst a;exact⟨_,yd _ _ _,d⟩
       ·exact⟨b,by rw[wM _ _ _ _ l];exact k,d⟩
      ·cases h
     ·cases h
    ·cases h
   ·cases h
  ·cases h
 ·cases h
theorem IK{P:Program}{Y a:Hp}{t:TypeId}{id i j:Nat}{x:O}{b:kV}(h:WL P Y t (.ref id i j) x=some a)(c:Y id=some b)(d:b.arr=false){k:Nat}(e:k≠id):a k=Y k:=by
 simp only[WL,c,d]at h;simp only[zF,qJ]at h;split at h
 ·split at h
  ·split at h
   ·injection h with h;subst h;exact wM _ _ _ _ e
   ·cases h
  ·cases h
 ·cases h
theorem eE{a:Array Oper}{l c:Oper}(o:l.apart a c=true){st:St}(p:∀Y Z y d f,kR C a l st.U Y Z=some (y,d,f)->d=Y/\f=Z)
  (g:∀z d f,kR C a c st.U st.Y st.Z=some (z,d,f)->(kR C a l st.U d f).map (·.1)=(kR C a l st.U st.Y st.Z).map (·.1)) :
  (jf C a l st).bind (jf C a c)=(jf C a c st).bind (jf C a l):=by
 obtain⟨B,D,E⟩:=Oper.apart_spec o;have cs:∀y Y Z,kR C a c (put st.U l.dst y) Y Z=kR C a c st.U Y Z:=fun y Y Z=>WO fun u s=>Zg fun e t h=>B e t (h ▸ s)
 have x:∀y Y Z,kR C a l (put st.U c.dst y) Y Z=kR C a l st.U Y Z:=fun y Y Z=>WO fun u s=>Zg fun e t h=>E e t (h ▸ s)
 have i:∀y z,put (put st.U l.dst y) c.dst z=put (put st.U c.dst z) l.dst y:=fun y z=>ou D
 rw[ji a l st,ji a c st];cases v:kR C a c st.U st.Y st.Z with
 |none=>
  cases j:kR C a l st.U st.Y st.Z with
  |none=>rfl
  |some q=>obtain⟨y,Y1,w⟩:=q;obtain⟨rfl,rfl⟩:=p _ _ _ _ _ j;simp only[zK,xp,qo,nD];rw[ji];simp only[cs,v,xp]
 |some q=>
  obtain⟨z,d,f⟩:=q;have b:=g z d f v;cases j:kR C a l st.U st.Y st.Z with
  |none=>
   rw[j]at b;have F:kR C a l st.U d f=none:=by
    cases m:kR C a l st.U d f with
    |none=>rfl
    |some r=>rw[m]at b;cases b
   simp only[zK,xp,qo,nD];rw[ji];simp only[x,F,xp]
  |some q=>
   obtain⟨y,Y1,w⟩:=q;obtain⟨rfl,rfl⟩:=p _ _ _ _ _ j;rw[j]at b;obtain⟨n,k,A⟩:∃n,kR C a l st.U d f=some n/\n.1=y:=by
    cases m:kR C a l st.U d f with
    |none=>rw[m]at b;cases b
    |some r=>rw[m]at b;injection b with b;exact⟨r,rfl,b⟩
   obtain⟨H,Y2,G⟩:=n;simp only at A;subst A;obtain⟨rfl,rfl⟩:=p _ _ _ _ _ k;simp only[zK,qo];rw[ji,ji];simp only[cs,v,x,k,zK,i]
theorem kF{a:Array Oper}{o:Oper}(g:o.guard=none)(U:Nat->O)(Y:Hp)(Z:Nat):kR C a o U Y Z=qf C (get U) Y Z o.op:=by
 have w:Region.wanted o (WN a U)=true:=by unfold Region.wanted;rw[g]
 simp only[kR,w,qA]
theorem KK{P:Program}{Y b:Hp}{t:TypeId}{p:O}(a:∀id o n,p≠.own id o n)(q:O):q6 P b t p q=q6 P Y t p q:=by
 cases q with
 |v y=>
  cases y with
  |int w i=>
   cases p with
   |own id o n=>exact absurd rfl (a id o n)
   |_=>
    simp only[q6];cases yg P t with
    |none=>rfl
    |some e=>simp only;cases qF P e<;>rfl
  |_=>simp only[q6]
 |_=>simp only[q6]
theorem OZ{L:List Tmp}{op:Op}(b:Ee L op=true){st:St}(g:QI L st){e:Hp}{Z k:Nat}(l:∀id blk,id<st.Z->st.Y id=some blk->blk.arr=false->e id=some blk) :
  (qf C (get st.U) e k op).map (·.1)=(qf C (get st.U) st.Y Z op).map (·.1):=by
 unfold Ee at b;split at b
 ·rename_i t a;obtain⟨⟨c,d⟩,_⟩:=g a (by simpa using b);have:Zm C.P e t (st.U a)=Zm C.P st.Y t (st.U a):=by
   cases f:st.U a with
   |ref id i j=>obtain⟨m,blk,h,n⟩:=d id i j f;simp only[Zm,l id blk m h n,h]
   |_=>rfl
  simp only[qf,get,this];cases Zm C.P st.Y t (st.U a)<;>rfl
 ·rename_i t a i;obtain⟨⟨c,d⟩,_⟩:=g a (by simpa using b);have:∀q,q6 C.P e t (st.U a) q=q6 C.P st.Y t (st.U a) q:=by exact fun q=>KK c q
  simp only[qf,show get st.U (.tmp a)=some (st.U a)from rfl];cases get st.U i with
  |none=>rfl
  |some q=>simp only[this];cases q6 C.P st.Y t (st.U a) q<;>rfl
 ·cases b
theorem c9{op:Op}{U:Nat->O}{Y b:Hp}{Z c:Nat}{y:O}(d:(∃t a,op=.load t (.tmp a))\/∃t a i,op=.indexAddr t (.tmp a) i)(h:qf C (get U) Y Z op=some (y,b,c)):b=Y/\c=Z:=by
 rcases d with⟨t,a,rfl⟩|⟨t,a,i,rfl⟩
 ·simp only[qf,get]at h;exact(VQ h).2
 ·simp only[qf,get]at h;split at h
  ·exact(VQ h).2
  ·cases h
theorem Tu{L:List Tmp}{op:Op}(h:Ee L op=true):(∃t a,op=.load t (.tmp a))\/∃t a i,op=.indexAddr t (.tmp a) i:=by
 unfold Ee at h;split at h
 ·exact .inl ⟨_,_,rfl⟩
 ·exact .inr ⟨_,_,_,rfl⟩
 ·cases h
theorem XM:∀{e a:List (Nat×O)} {Y Y1:Hp},zy Y e=some (a,Y1)->∀{id:Nat} {b:kV},Y id=some b->b.arr=false->Y1 id=some b
 |[],a,Y,Y1,h,id,b,c,d=>by simp only[zy]at h;injection h with h;injection h with _ h;subst h;exact c
 |(i,x)::l,a,Y,Y1,h,id,b,c,d=>by
  simp only[zy]at h;split at h
  ·rename_i y Y2 f;split at h
   ·rename_i r g j;injection h with h;injection h with _ h;subst h
    exact XM j (KJ f c d) d
   ·cases h
  ·cases h
theorem Ef{P:Program}{Y g:Hp}{Z i:Nat}{t u:TypeId}{s x y:O}(h:jU P Y Z t u s x=some (y,g,i)):Z<=i/\∀id blk,id<Z->Y id=some blk->blk.arr=false->g id=some blk:=by
 unfold jU at h;split at h
 ·split at h
  ·split at h
   ·split at h
    ·split at h
     ·split at h
      ·injection h with h;injection h with _ h;injection h with d f;subst d;subst f;exact⟨zl _,fun _ _ _ c _=>c⟩
      ·injection h with h;injection h with _ h;injection h with d f;subst d;subst f;exact⟨by omega,fun id blk hid c _=>by rw[wM _ _ _ _ (by omega)];exact c⟩
     ·cases h
    ·split at h
     ·rename_i b a;split at h
      ·rename_i j;injection h with h;injection h with _ h;injection h with d f
       subst d;subst f;refine⟨by omega,fun id blk hid c k=>?_⟩;rw[wM _ _ _ _ (by omega),wM _ _ _ _ (fun e=>by
        subst e;rw[c]at a;injection a with a
        subst a;rw[k]at j;cases j.1)]
       exact c
      ·cases h
     ·cases h
    ·cases h
   ·cases h
  ·cases h
 ·cases h
theorem gS{t:TypeId}{U:Nat->O}{Y a:Hp}{Z c:Nat}{z:O}(h:qf C (get U) Y Z (.alloc t)=some (z,a,c)):∃b,a=qR Y Z b/\c=Z+1:=by
 simp only[qf]at h;split at h
 ·split at h
  ·injection h with h;injection h with _ h;injection h with d e;exact⟨_,d.symm,e.symm⟩
  ·cases h
 ·cases h
theorem oz{k:FuncId->Bool}(c:∀g a,k g=true->C.Γ g=some a->Yh a){op:Op}(b:ox k op=true){U:Nat->O}{Y l:Hp}{Z m:Nat}{z:O}(h:qf C (get U) Y Z op=some (z,l,m)) :
  Z<=m/\∀id blk,id<Z->Y id=some blk->blk.arr=false->l id=some blk:=by
 unfold ox at b;split at b
 ·rename_i g o ts;simp only[qf,ZB]at h;split at h
  ·simp only[get,kd]at h;split at h
   ·rename_i a hs;exact c g a b hs _ _ _ _ _ _ h
   ·cases h
  ·cases h
 ·rename_i o ts;simp only[qf,ZB]at h;split at h
  ·simp only[yO]at h;split at h
   ·exact Ef h
   ·cases h
  ·cases h
 ·rename_i t len d;simp only[qf]at h;split at h
  ·rename_i r p;unfold zz at h;split at h
   ·split at h
    ·rename_i n s u Y1 _ _ e;split at h
     ·split at h
      ·injection h with h;injection h with _ h;injection h with f i;subst f;subst i;refine⟨by omega,fun id blk hid j q=>?_⟩;rw[wM _ _ _ _ (by omega)];exact XM e j q
      ·cases h
     ·cases h
    ·cases h
   ·cases h
  ·cases h
 ·rename_i t;obtain⟨v,f,i⟩:=gS h;subst f;subst i;refine⟨by omega,fun id blk hid j _=>?_⟩;rw[wM _ _ _ _ (by omega)];exact j
 ·cases b
theorem uF{I:FuncId->Bool}(B:∀g m,I g=true->C.Γ g=some m->Yh m){D:List (Tmp×Tmp)}{L:List Tmp}{d:Array Oper}{l c:Oper}(J:half D L I l.op c.op=true)(e:l.guard=none)(K:c.guard=none)(n:l.apart d c=true){st:St}(Q:YV D st)(M:QI L st) :
  (jf C d l st).bind (jf C d c)=(jf C d c st).bind (jf C d l):=by
 simp only[half,qd,zH]at J;rcases J with(f|⟨s,E⟩)|⟨k,R⟩
 ·unfold oy at f;split at f
  ·rename_i t a t' b x u S;refine eE n (fun Y Z y o v h=>?_) (fun z o v h=>?_)
   ·rw[kF e,u]at h;exact c9 (.inl ⟨_,_,rfl⟩) h
   ·rw[kF K,S]at h;rw[kF e,kF e,u];simp only[qf,get]at h;have r:Zm C.P o t (st.U a)=Zm C.P st.Y t (st.U a):=by
     cases F:st.U a with
     |ref id i j=>
      obtain⟨id',i',j',blk,T,G,W,w⟩:=Q (a,b) (by simpa using f) id i j F;rw[T]at h;split at h
      ·rename_i p q N X;simp only[qj]at N;subst N;obtain⟨h2,e1,A⟩:=qh h;injection A with _ A
       injection A with A _;subst A;simp only[Zm,IK e1 W w G]
      ·cases h
     |_=>rfl
    simp only[qf,get,r];cases Zm C.P st.Y t (st.U a)<;>rfl
  ·cases f
 ·refine eE n (fun Y Z y o v h=>?_) (fun z o v h=>?_)
  ·rw[kF e]at h;exact c9 (Tu s) h
  ·rw[kF K]at h;rw[kF e,kF e];exact OZ s M (oz B E h).2
 ·unfold ixB at k;split at k
  ·rename_i t a i u;refine eE n (fun Y Z y o v h=>?_) (fun z o v h=>?_)
   ·rw[kF e,u]at h;exact c9 (.inr ⟨_,_,_,rfl⟩) h
   ·rw[kF e,kF e,u];obtain⟨⟨H,_⟩,_⟩:=M a (by simpa using k);have:∀q,q6 C.P o t (st.U a) q=q6 C.P st.Y t (st.U a) q:=by exact fun q=>KK H q
    simp only[qf,show get st.U (.tmp a)=some (st.U a)from rfl];cases get st.U i with
    |none=>rfl
    |some q=>simp only[this];cases q6 C.P st.Y t (st.U a) q<;>rfl
  ·cases k
theorem aa{P:Program}{t:TypeId}{f:Nat}{p:O}{id i j:Nat}(h:jt P t f p=some (.ref id i j)):∃a b,p=.ref id a b:=by
 unfold jt at h;split at h
 ·split at h
  ·split at h
   ·cases h
   ·injection h with h;cases h
  ·cases h
 ·split at h
  ·split at h
   ·cases h
   ·injection h with h;injection h with c _ _;subst c;exact⟨_,_,rfl⟩
  ·cases h
 ·cases h
theorem oA{P:Program}{t:TypeId}{f:Nat}{p:O}{id o n:Nat}(h:jt P t f p=some (.own id o n)):False:=by
 unfold jt at h;split at h
 ·split at h
  ·split at h
   ·cases h
   ·injection h with h;cases h
  ·cases h
 ·split at h
  ·split at h
   ·cases h
   ·injection h with h;cases h
  ·cases h
 ·cases h
theorem ab{P:Program}{Y:Hp}{t:TypeId}{p q:O}{id i j:Nat}(h:q6 P Y t p q=some (.ref id i j))(a:∀id o n,p≠.own id o n):∃b c,p=.ref id b c:=by
 unfold q6 at h;split at h
 ·split at h
  ·split at h
   ·split at h
    ·obtain⟨z,_,e⟩:=qh h;cases e
    ·cases h
   ·exact absurd rfl (a _ _ _)
   ·cases h
  ·unfold ZO at h;split at h
   ·split at h
    ·split at h
     ·split at h
      ·injection h with h;cases h
      ·injection h with h;injection h with d _ _;subst d;exact⟨_,_,rfl⟩
      ·cases h
     ·cases h
    ·cases h
   ·cases h
 ·cases h
theorem oB{P:Program}{Y:Hp}{t:TypeId}{p q:O}{id o n:Nat}(h:q6 P Y t p q=some (.own id o n)):False:=by
 unfold q6 at h;split at h
 ·split at h
  ·split at h
   ·split at h
    ·obtain⟨z,_,e⟩:=qh h;cases e
    ·cases h
   ·split at h
    ·split at h
     ·injection h with h;cases h
     ·cases h
    ·cases h
   ·cases h
  ·unfold ZO at h;split at h
   ·split at h
    ·split at h
     ·split at h
      ·injection h with h;cases h
      ·injection h with h;cases h
      ·cases h
     ·cases h
    ·cases h
   ·cases h
 ·cases h
theorem oC{x:O}(h:x.Jk=true)(Y:Hp):yf Y x=some (x,Y):=by cases x<;>first|rfl|cases h
theorem oD:∀{cs:zb},cs.all O.Jk=true->∀Y:Hp,wV Y cs=some (cs,Y)
 |[],_,_=>rfl
 |x::cs,h,Y=>by simp only[q8,zH]at h;simp only[wV,oC h.1,oD h.2]
theorem Tv{x:O}(h:x.shut=true)(a:∀cs,x≠.agg cs):x.Jk=true:=by cases x<;>first|exact absurd rfl (a _)|exact h
theorem Tw{x:O}(h:x.shut=true)(Y:Hp):qH Y x=some (x,Y):=by
 by_cases a:∀cs,x≠.agg cs
 ·have b:=oC (Tv h a) Y;unfold qH;split
  ·exact absurd rfl (a _)
  ·exact b
 ·have:∃cs,x=.agg cs:=Classical.byContradiction fun c=>a fun cs e=>c ⟨cs,e⟩
  obtain⟨cs,rfl⟩:=this;simp only[qH,oD (cs:=cs) h]
theorem O0{x:O}(h:x.Kd=true)(a:∀cs,x≠.wY cs):x.shut=true:=by cases x<;>first|exact absurd rfl (a _)|exact h
theorem O1{x y:O}(h:x.Kd=true){Y Y1:Hp}(a:qH Y x=some (y,Y1)):Y1=Y:=by
 by_cases b:∀cs,x≠.wY cs
 ·rw[Tw (O0 h b)]at a;injection a with a
  injection a with _ a;exact a.symm
 ·exfalso;apply b;rintro cs rfl;cases a
theorem oE:∀{b a:List (Nat×O)} {Y Y1:Hp},(∀p∈b,p.2.Kd=true)->zy Y b=some (a,Y1)->Y1=Y
 |[],a,Y,Y1,_,h=>by injection h with h;injection h with _ h;exact h.symm
 |(i,x)::l,a,Y,Y1,hs,h=>by
  simp only[zy]at h;split at h
  ·rename_i y Y2 c;split at h
   ·rename_i r d e;injection h with h;injection h with _ h;subst h
    rw[oE (fun p Y=>hs p (by simp[Y])) e,O1 (hs (i,x) (by simp)) c]
   ·cases h
  ·cases h
theorem Bs{x:O}(h:x.Kd=true)(a:x.cells.all O.yo=true):x.cells.all O.Jk=true:=by
 cases x with
 |agg cs=>exact h
 |wY cs=>simp[O.cells,O.yo]at a
 |_=>simpa[O.cells,O.Kd,O.shut]using h
theorem Eg{v:Value}{p:O}(h:gL v=some p):p.Jk=true:=by unfold gL at h;split at h<;>first|(injection h with h;subst h;rfl)|cases h
theorem eF:∀{l:List Value} {a:zb},xz l=some a->a.all O.Jk=true
 |[],a,h=>by injection h with h;subst h;rfl
 |x::l,a,h=>by
  simp only[xz]at h;split at h
  ·rename_i p r b c;injection h with h
   subst h;rw[q8,Eg b,eF c];rfl
  ·cases h
theorem oF{P:Program}{t:TypeId}{z:zb}(h:yN P t=some z):z.all O.Jk=true:=by
 unfold yN at h;cases a:(P.info? t).bind (·.zero)with
 |none=>rw[a]at h;cases h
 |some q=>rw[a]at h;exact eF h
theorem cv:∀{xs cs:zb} {off:Nat},cs.all O.Jk=true->xs.all O.Jk=true->(jz cs off xs).all O.Jk=true
 |[],cs,off,h,_=>h
 |x::xs,cs,off,h,a=>by
  simp only[q8,zH]at a;simp only[jz];refine cv ?_ a.2;rw[ql]at h⊢;intro y b;rcases xx b with b|rfl
  ·exact h y b
  ·exact a.1
theorem da{b:Nat->Option (Nat×Nat)}:∀{c:List (Nat×O)} {cs r:zb},cs.all O.Jk=true->(∀p∈c,p.2.Kd=true)->qM b cs c=some r->r.all O.Jk=true
 |[],cs,r,h,_,a=>by injection a with a;subst a;exact h
 |(i,x)::l,cs,r,h,Y,a=>by
  simp only[qM]at a;split at a
  ·split at a
   ·rename_i d;exact da (cv h (Bs (Y (i,x) (by simp)) d.2.2)) (fun p e=>Y p (by simp[e])) a
   ·cases a
  ·cases a
theorem Eh{P:Program}{t:TypeId}{c:List (Nat×O)}{y:O}(Y:∀p∈c,p.2.Kd=true)(h:qe P t c=some y):y.shut=true:=by
 unfold qe at h;split at h
 ·rename_i d z _ a;obtain⟨r,b,rfl⟩:=qh h;exact da (oF a) Y b
 ·rename_i z _ a;split at h
  ·split at h
   ·obtain⟨r,b,rfl⟩:=qh h;exact da (oF a) Y b
   ·cases h
  ·cases h
 ·cases h
theorem oG{b:Operand->Option O}:∀{l:List (Nat×Operand)} {a:List (Nat×O)},xb b l=some a->∀p∈a,∃q∈l,b q.2=some p.2
 |[],a,h,p,Y=>by injection h with h;subst h;cases Y
 |(i,x)::l,a,h,p,Y=>by
  simp only[xb]at h;split at h
  ·rename_i y r c d;injection h with h
   subst h;rcases zA.1 Y with rfl|Y
   ·exact⟨(i,x),by simp,c⟩
   ·obtain⟨q,f,e⟩:=oG d p Y;exact⟨q,by simp[f],e⟩
  ·cases h
theorem Nw{L:List Tmp}{st:St}(h:QI L st){z:Tmp}(a:L.contains (z+zB)=true):(st.U z).Kd=true:=by have:=(h (z+zB) (by simpa using a)).2 (Nat.le_add_left _ _);simpa using this
theorem oH{L:List Tmp}{st:St}(h:QI L st){a:List (Nat×Operand)}(Y:(a.all fun p=>match p.2 with|.tmp z=>L.contains (z+zB)|_=>false)=true){c:List (Nat×O)}(hs:xb (get st.U) a=some c):∀p∈c,p.2.Kd=true:=by
 intro p b;obtain⟨q,d,e⟩:=oG hs p b;have:=ql.1 Y q d;split at this
 ·rename_i z f;rw[f]at e;simp only[get,qj]at e;rw[<-e];exact Nw h this
 ·cases this
theorem zgj{x:O}(h:x.shut=true):x.Kd=true:=by cases x<;>first|rfl|exact h
def db(Y:Hp)(Z:Nat):Prop:=∀id b,Y id=some b->id<Z
theorem ae{Y Y1:Hp}{x y:O}(h:yf Y x=some (y,Y1)){id:Nat}{b:kV}(a:Y1 id=some b):Y id=some b:=by
 unfold yf at h;split at h
 ·rename_i k off n;split at h
  ·rename_i d c;split at h
   ·injection h with h;injection h with _ h;subst h;by_cases e:id=k
    ·subst e;rw[yd]at a;cases a
    ·rwa [wM _ _ _ _ e]at a
   ·cases h
  ·cases h
 all_goals first
  |(injection h with h;injection h with _ h;subst h;exact a)
  |(split at h<;>first|(injection h with h;injection h with _ h;subst h;exact a)|cases h)
  |cases h
theorem XN:∀{xs ys:zb} {Y Y1:Hp},wV Y xs=some (ys,Y1)->∀{id:Nat} {b:kV},Y1 id=some b->Y id=some b
 |[],ys,Y,Y1,h,id,b,a=>by simp only[wV]at h;injection h with h;injection h with _ h;subst h;exact a
 |x::l,ys,Y,Y1,h,id,b,a=>by
  simp only[wV]at h;split at h
  ·rename_i y Y2 c;split at h
   ·rename_i r d e;injection h with h;injection h with _ h;subst h
    exact ae c (XN e a)
   ·cases h
  ·cases h
theorem cw{Y Y1:Hp}{x y:O}(h:qH Y x=some (y,Y1)){id:Nat}{b:kV}(a:Y1 id=some b):Y id=some b:=by
 unfold qH at h;split at h
 ·split at h
  ·rename_i l d c;injection h with h;injection h with _ h;subst h
   exact XN c a
  ·cases h
 ·exact ae h a
theorem XO:∀{d a:List (Nat×O)} {Y Y1:Hp},zy Y d=some (a,Y1)->∀{id:Nat} {b:kV},Y1 id=some b->Y id=some b
 |[],a,Y,Y1,h,id,b,c=>by simp only[zy]at h;injection h with h;injection h with _ h;subst h;exact c
 |(i,x)::l,a,Y,Y1,h,id,b,c=>by
  simp only[zy]at h;split at h
  ·rename_i y Y2 e;split at h
   ·rename_i r f g;injection h with h;injection h with _ h;subst h
    exact cw e (XO g c)
   ·cases h
  ·cases h
theorem Bt{Y:Hp}{Z:Nat}(h:∀id b,Y id=some b->id<Z)(x:kV):db (qR Y Z (some x)) (Z+1):=by
 intro id b a;by_cases e:id=Z
 ·omega
 ·rw[wM _ _ _ _ e]at a;have:=h id b a;omega
theorem O2{P:Program}{Y f:Hp}{t:TypeId}{p x:O}(h:WL P Y t p x=some f){Z:Nat}(g:db Y Z):db f Z:=by
 unfold WL at h;split at h
 ·rename_i k i j;split at h
  ·rename_i l d;split at h
   ·rename_i y Y1 a;have m:∀id b,Y1 id=some b->Y id=some b:=fun id b c=>by
     split at a
     ·exact cw a c
     ·injection a with a;injection a with _ a;subst a;exact c
    split at h
    ·split at h
     ·split at h
      ·injection h with h;subst h;intro id b c;by_cases e:id=k
       ·subst e;exact g id l d
       ·rw[wM _ _ _ _ e]at c;exact g id b (m id b c)
      ·cases h
     ·cases h
    ·cases h
   ·cases h
  ·cases h
 ·cases h
theorem IL{P:Program}{Y f:Hp}{Z g:Nat}{t u:TypeId}{s x y:O}(h:jU P Y Z t u s x=some (y,f,g))(e:db Y Z):db f g:=by
 unfold jU at h;split at h
 ·split at h
  ·split at h
   ·split at h
    ·split at h
     ·split at h
      ·injection h with h;injection h with _ h;injection h with a c;subst a;subst c;exact e
      ·injection h with h;injection h with _ h;injection h with a c;subst a;subst c;exact Bt e _
     ·cases h
    ·split at h
     ·rename_i k _ _ b i;split at h
      ·injection h with h;injection h with _ h;injection h with a c;subst a;subst c;refine Bt (fun id j d=>?_) _;unfold qR at d;split at d
       ·cases d
       ·exact e id j d
      ·cases h
     ·cases h
    ·cases h
   ·cases h
  ·cases h
 ·cases h
theorem O3{P:Program}{Y c:Hp}{Z d:Nat}{t:TypeId}{len:Nat}{e:List (Nat×O)}{y:O}(h:zz P Y Z t len e=some (y,c,d))(f:db Y Z):db c d:=by
 unfold zz at h;split at h
 ·split at h
  ·rename_i n k l Y1 _ _ a;split at h
   ·split at h
    ·injection h with h;injection h with _ h;injection h with g i;subst g;subst i;exact Bt (fun id b j=>f id b (XO a j)) _
    ·cases h
   ·cases h
  ·cases h
 ·cases h
theorem O4(f:∀g a,pf g=true->C.Γ g=some a->Yx a){op:Op}(c:topB pf op=true){U:Nat->O}{Y k:Hp}{Z l:Nat}{y:O}(h:qf C (get U) Y Z op=some (y,k,l))(e:db Y Z):db k l:=by
 simp only[topB,qd,zP]at c;rcases c with c|c
 ·obtain⟨rfl,rfl⟩:=Tr f c h;exact e
 ·split at c
  ·simp only[qf]at h;split at h
   ·obtain⟨n,i,d⟩:=qh h;injection d with _ d;injection d with d m;subst d;subst m;exact O2 i e
   ·cases h
  ·simp only[qf,ZB]at h;split at h
   ·simp only[yO]at h;split at h
    ·exact IL h e
    ·cases h
   ·cases h
  ·simp only[qf]at h;split at h
   ·exact O3 h e
   ·cases h
  ·obtain⟨o,i,d⟩:=gS h;subst i;subst d;intro id b j;unfold qR at j;split at j
   ·omega
   ·have:=e id b j;omega
  ·cases c
theorem O5{P:Program}{Y c:Hp}{t:TypeId}{p y:O}(hs:∀id b,Y id=some b->c id=some b)(h:Zm P Y t p=some y):Zm P c t p=some y:=by
 cases p with
 |ref id i j=>
  simp only[Zm]at h⊢;cases a:Y id with
  |none=>rw[a]at h;cases h
  |some b=>rw[a]at h;rw[hs id b a];exact h
 |_=>exact h
theorem oI{P:Program}{Y d:Hp}{t:TypeId}{p q y:O}(hs:∀id b,Y id=some b->d id=some b)(h:q6 P Y t p q=some y):q6 P d t p q=some y:=by
 by_cases a:∀id o n,p≠.own id o n
 ·rw[KK (Y:=Y) a];exact h
 ·have:∃id o n,p=.own id o n:=by refine Classical.byContradiction fun j=>a fun id o n e=>j ⟨id,o,n,e⟩
  obtain⟨id,o,n,rfl⟩:=this;cases q with
  |v z=>
   cases z with
   |int k i=>
    simp only[q6]at h⊢;cases f:yg P t with
    |none=>rw[f]at h;exact h
    |some e=>
     rw[f]at h;simp only at h⊢;cases g:qF P e with
     |none=>rw[g]at h;cases h
     |some m=>
      rw[g]at h;simp only at h⊢;cases c:Y id with
      |none=>rw[c]at h;cases h
      |some b=>rw[c]at h;rw[hs id b c];exact h
   |_=>cases h
  |_=>cases h
theorem O6{op:Op}(d:eD op=true){U:Nat->O}{Y e:Hp}{Z g:Nat}{y:O}{k:Hp}{n1:Nat}(hs:∀id b,Y id=some b->e id=some b)(h:qf C (get U) Y Z op=some (y,k,n1)):qf C (get U) e g op=some (y,e,g):=by
 unfold eD at d;split at d
 ·rename_i t a;simp only[qf,get]at h⊢;obtain⟨z,f,c⟩:=qh h;injection c with c _
  subst c;rw[O5 hs f];rfl
 ·rename_i t a i;simp only[qf,show get U (.tmp a)=some (U a)from rfl]at h⊢;cases j:get U i with
  |none=>rw[j]at h;cases h
  |some q=>
   rw[j]at h;obtain⟨z,f,c⟩:=qh h;injection c with c _
   subst c;simp only[oI hs f];rfl
 ·cases d
theorem IM{op:Op}(h:eD op=true):(∃t a,op=.load t (.tmp a))\/∃t a i,op=.indexAddr t (.tmp a) i:=by
 unfold eD at h;split at h
 ·exact .inl ⟨_,_,rfl⟩
 ·exact .inr ⟨_,_,_,rfl⟩
 ·cases h
theorem O7{L:List Tmp}{t:TypeId}{len:Nat}{a:Array (Nat×Operand)}{st:St}(j:QI L st)(c:bq L (.buildSlice t len a)=true){g:Hp}{i:Nat}{z:O}(h:qf C (get st.U) st.Y st.Z (.buildSlice t len a)=some (z,g,i)):∃b,g=qR st.Y st.Z b/\i=st.Z+1:=by
 simp only[bq]at c;simp only[qf]at h;split at h
 ·rename_i o e;have d:=oH j c e;unfold zz at h;split at h
  ·split at h
   ·rename_i n p q Y1 _ _ f;have k:=oE d f;subst k;split at h
    ·split at h
     ·injection h with h;injection h with _ h;injection h with l m;exact⟨_,l.symm,m.symm⟩
     ·cases h
    ·cases h
   ·cases h
  ·cases h
 ·cases h
theorem Tx(r:∀g m,pf g=true->C.Γ g=some m->Yx m){L:List Tmp}{n:Array Oper}{l c:Oper}(I:newB pf L n l c=true){st s:St}(P:QI L st)(J:db st.Y st.Z)(hs:(jf C n l st).bind (jf C n c)=some s):(jf C n c st).bind (jf C n l)=some s:=by
 simp only[newB,zH,Option.isNone_iff_eq_none]at I;obtain⟨⟨⟨⟨⟨_,B⟩,x⟩,Q⟩,d⟩,f⟩:=I;have D:ZD pf l.op<=1:=by
  rcases Bool.or_eq_true_iff.1 d with d|d
  ·rcases IM d with⟨t,a,e⟩|⟨t,a,i,e⟩<;>simp[e,ZD]
  ·unfold gR at d;split at d
   ·rename_i g E ts j;simp[j,ZD,d]
   ·cases d
 have F:st.Y st.Z=none:=by
  cases R:st.Y st.Z with
  |none=>rfl
  |some b=>have:=J _ b R;omega
 cases k:kR C n l st.U st.Y st.Z with
 |none=>rw[ji,k]at hs;cases hs
 |some q=>
  obtain⟨y,S,n1⟩:=q;rw[<-eE B (fun Y Z y K M h=>JO r D h) (fun z K M h=>?_)]
  ·exact hs
  ·rw[kF Q]at h;have u:∃b,K=qR st.Y st.Z b/\M=st.Z+1:=by
    rcases Bool.or_eq_true_iff.1 f with f|f
    ·have o:=f;unfold bq at f;split at f
     ·rename_i t len G j;rw[j]at h o;exact O7 P o h
     ·cases f
    ·unfold Tt at f;split at f
     ·rename_i t j;rw[j]at h;exact gS h
     ·cases f
   obtain⟨b,rfl,rfl⟩:=u;rcases Bool.or_eq_true_iff.1 d with d|d
   ·have v:∀id A,st.Y id=some A->qR st.Y st.Z b id=some A:=fun id A N=>by rw[wM _ _ _ _ (by have:=J id A N;omega)];exact N
    rw[kF x]at k⊢;rw[kF x,k,O6 d v k];rfl
   ·unfold gR at d;split at d
    ·rename_i g E ts j;rw[kF x,j]at k⊢;rw[kF x,j,k];have H:qf C (get st.U) (qR st.Y st.Z b) (st.Z+1) (.call ⟨.value (.func g),E,ts⟩)=some (y,qR st.Y st.Z b,st.Z+1):=by
      simp only[qf,ZB]at k⊢;cases w:yF (E.toList.map (get st.U))with
      |none=>rw[w]at k;cases k
      |some xs=>
       rw[w]at k;simp only[get,kd]at k⊢;cases p:C.Γ g with
       |none=>rw[p]at k;cases k
       |some m=>rw[p]at k;exact(r g m d p _ _ _ _ _ _ k).2 b F
     rw[H];rfl
    ·cases d
def AskA(D:List (Tmp×Tmp))(L:List Tmp)(st:St):Prop:=(YV D st/\QI L st)/\(OX L=true->db st.Y st.Z)
theorem IP(X:∀g k,pf g=true->C.Γ g=some k->Yx k){bk:FuncId->Bool}(hbk:∀g k,bk g=true->C.Γ g=some k->Yh k){D:List (Tmp×Tmp)}{L:List Tmp}{I:Array Oper}(hpl:Bq pf D L bk I=true){i:Nat}{o:Oper}{st J:St}(ho:I[i]?=some o)(G:YV D st/\zfa L st)(hs:jf C I o st=some J):YV D J/\zfa L J:=by
  simp only[Bq,qd,zH]at hpl;rcases hpl with⟨hD,hL⟩|hpl
  ·have hD:D=[]:=by simpa using hD
   have hL:L=[]:=by simpa using hL
   subst hD;subst hL;exact⟨(fun p Y=>(by cases Y)),(fun s hs=>(by cases hs))⟩
  have h0:=cn.1 hpl o (zhN ho);simp only[zH,qd,zP]at h0;obtain⟨⟨hd,hld⟩,hk⟩:=h0;rw[ji]at hs;obtain⟨r,a,D6⟩:=qh hs;obtain⟨y,Y1,Q⟩:=r;subst D6;have A:(∀id blk,st.Y id=some blk->blk.arr=false->D.all (fun p=>L.contains p.2)=false\/id<st.Z->∃K,Y1 id=some K/\K.arr=false)/\st.Z<=Q:=by
   have h:∀{op:Op},o.op=op->ox bk op=true->D.all (fun p=>L.contains p.2)=true->(∀id blk,st.Y id=some blk->blk.arr=false->D.all (fun p=>L.contains p.2)=false\/id<st.Z->∃K,Y1 id=some K/\K.arr=false)/\st.Z<=Q:=by
    intro op c hf M;unfold kR at a;split at a
    ·rw[c]at a;obtain⟨l,d⟩:=oz hbk hf a;refine⟨fun id blk w v h3=>?_,l⟩;rcases h3 with h3|h3
     ·rw[M]at h3;cases h3
     ·exact⟨blk,d id blk h3 w v,v⟩
    ·injection a with a;injection a with _ a;injection a with l d;subst l;subst d;exact⟨fun id blk w v _=>⟨blk,w,v⟩,zl _⟩
   rcases hk with hk|hk
   ·obtain⟨rfl,rfl⟩:=JO X hk a;exact⟨fun id blk w v _=>⟨blk,w,v⟩,zl _⟩
   ·split at hk
    ·rename_i t q x c;unfold kR at a;split at a
     ·rw[c]at a;simp only[qf]at a;split at a
      ·obtain⟨v,l,d⟩:=qh a;injection d with _ d;injection d with d B;subst d;subst B;exact⟨fun id blk w v _=>OY l w v,zl _⟩
      ·cases a
     ·injection a with a;injection a with _ a;injection a with l d;subst l;subst d;exact⟨fun id blk w v _=>⟨blk,w,v⟩,zl _⟩
    ·rename_i g aZ ts c;simp only[zH]at hk;exact h c (by simpa[ox]using hk.2) hk.1
    ·rename_i aZ ts c;exact h c rfl hk
    ·rename_i t n ps c;exact h c rfl hk
    ·rename_i t c;exact h c rfl hk
    ·cases hk
  refine⟨fun p Y=>?_,fun s R=>?_⟩
  rotate_left
  ·have hl:=ql.1 hld s R;simp only[qd,zeO]at hl;have H:(∀id o' n,put st.U o.dst y s≠.own id o' n)/\∀id i' j',put st.U o.dst y s=.ref id i' j'->id<st.Z/\∃blk,st.Y id=some blk/\blk.arr=false:=by
    by_cases m:o.dst=some s
    ·have u:put st.U o.dst y s=y:=by rw[m];exact yd _ _ _
     rw[u];rcases hl with hl|hl
     ·exact absurd m hl
     ·split at hl
      ·rename_i t b f c;obtain⟨E,F⟩:=G.2 b (by simpa using hl);unfold kR at a;split at a
       ·rw[c]at a;simp only[qf,get]at a;obtain⟨z,l,d⟩:=qh a;injection d with d _
        subst d;refine⟨fun id o' n e=>?_,fun id i' j' e=>?_⟩
        ·subst e;exact oA l
        ·subst e;obtain⟨i0,j0,B⟩:=aa l;exact F _ _ _ B
       ·injection a with a;injection a with a _;subst a;exact⟨(fun _ _ _ e=>by cases e),(fun _ _ _ e=>by cases e)⟩
      ·rename_i t b ix c;obtain⟨E,F⟩:=G.2 b (by simpa using hl);unfold kR at a;split at a
       ·rw[c]at a;simp only[qf,get]at a;split at a
        ·rename_i p0 q0 S hq0;simp only[qj]at S;subst S;obtain⟨z,l,d⟩:=qh a;injection d with d _
         subst d;refine⟨fun id o' n e=>?_,fun id i' j' e=>?_⟩
         ·subst e;exact oB l
         ·subst e;obtain⟨i0,j0,B⟩:=ab l E;exact F _ _ _ B
        ·cases a
       ·injection a with a;injection a with a _;subst a;exact⟨(fun _ _ _ e=>by cases e),(fun _ _ _ e=>by cases e)⟩
      ·cases hl
    ·have u:put st.U o.dst y s=st.U s:=Zg (fun e T=>by rintro rfl;exact m T);rw[u];exact G.2 s R
   refine⟨H.1,fun id i' j' e=>?_⟩;obtain⟨w,blk,v,h3⟩:=H.2 id i' j' e;exact⟨jF w A.2,A.1 id blk v h3 (.inr w)⟩
  ·have hd:=ql.1 hd p Y;simp only[zH,qd,zeO]at hd;obtain⟨hd2,hd1⟩:=hd;have hpb:put st.U o.dst y p.2=st.U p.2:=Zg (fun e T=>by rintro rfl;exact hd2 T);have N:∀id i j,put st.U o.dst y p.1=.ref id i j->∃id' i' j' blk,st.U p.2=.ref id' i' j'/\id≠id'/\st.Y id'=some blk/\blk.arr=false:=by
    intro id i j e;by_cases m:o.dst=some p.1
    ·have u:put st.U o.dst y p.1=y:=by rw[m];exact yd _ _ _
     rw[u]at e;subst e;rcases hd1 with hd1|hd1
     ·exact absurd m hd1
     ·split at hd1
      ·rename_i t b f c;unfold kR at a;split at a
       ·rw[c]at a;simp only[qf,get]at a;obtain⟨z,l,d⟩:=qh a;injection d with d _
        subst d;obtain⟨i0,j0,B⟩:=aa l;exact G.1 (b,p.2) (by simpa using hd1) _ _ _ B
       ·injection a with a;injection a with a _;cases a
      ·rename_i t b ix c;simp only[zH]at hd1;obtain⟨E,F⟩:=G.2 b (by simpa using hd1.2);unfold kR at a;split at a
       ·rw[c]at a;simp only[qf,get]at a;split at a
        ·rename_i p0 q0 S hq0;simp only[qj]at S;subst S;obtain⟨z,l,d⟩:=qh a;injection d with d _
         subst d;obtain⟨i0,j0,B⟩:=ab l E;exact G.1 (b,p.2) (by simpa using hd1.1) _ _ _ B
        ·cases a
       ·injection a with a;injection a with a _;cases a
      ·cases hd1
    ·have u:put st.U o.dst y p.1=st.U p.1:=Zg (fun e T=>by rintro rfl;exact m T);rw[u]at e;exact G.1 p Y id i j e
   intro id i j e;obtain⟨id',i',j',blk,eb,hne,hbl,W⟩:=N id i j e;have P:D.all (fun p=>L.contains p.2)=false\/id'<st.Z:=by
    cases M:D.all (fun p=>L.contains p.2)
    ·exact .inl rfl
    ·refine .inr ?_;have:=ql.1 M p Y;exact((G.2 p.2 (by simpa using this)).2 id' i' j' eb).1
   obtain⟨K,hb1,hb2⟩:=A.1 id' blk hbl W P;exact⟨id',i',j',K,by show put st.U o.dst y p.2=_;rw[hpb];exact eb,hne,hb1,hb2⟩
theorem zgk(v:∀g f,pf g=true->C.Γ g=some f->Yx f){L:List Tmp}{h:Array Oper}(F:IJ pf L h=true)(I:OX L=true){i:Nat}{o:Oper}{st d:St}(J:h[i]?=some o)(w:QI L st)(G:db st.Y st.Z)(hs:jf C h o st=some d) :
  (∀s∈L,zB<=s->(d.U (s-zB)).Kd=true)/\db d.Y d.Z:=by
 simp only[IJ,I,Bool.not_true,ye]at F;have H:=cn.1 F o (zhN J);simp only[zH]at H;obtain⟨l,m⟩:=H;rw[ji]at hs;obtain⟨r,a,x⟩:=qh hs;obtain⟨y,Y1,A⟩:=r;subst x;refine⟨fun s n p=>?_,?_⟩
 ·have c:=ql.1 m s n;simp only[qd,zP,zeO,zH,Option.isNone_iff_eq_none]at c;by_cases hd:o.dst=some (s-zB)
  ·have j:put st.U o.dst y (s-zB)=y:=by rw[hd];exact yd _ _ _
   show(put st.U o.dst y (s-zB)).Kd=true;rw[j];rcases c with(c|c)|⟨K,c⟩
   ·exact absurd c (Nat.not_lt.2 p)
   ·exact absurd hd c
   ·rw[kF K]at a;split at c
    ·rename_i b k;rw[k]at a;simp only[qf,get,zK]at a;injection a with a
     injection a with a _;rw[<-a];exact Nw w c
    ·rename_i t B k;rw[k]at a;simp only[qf]at a;split at a
     ·rename_i N q;obtain⟨z,D,u⟩:=qh a;injection u with u _
      subst u;exact zgj (Eh (oH w c q) D)
     ·cases a
    ·cases c
  ·have j:put st.U o.dst y (s-zB)=st.U (s-zB):=Zg (fun e M E=>hd (by rw[M,E]));show(put st.U o.dst y (s-zB)).Kd=true;rw[j];exact(w s n).2 p
 ·show db Y1 A;unfold kR at a;split at a
  ·exact O4 v l a G
  ·injection a with a;injection a with _ a;injection a with D u;subst D;subst u;exact G
theorem Ty(k:∀g d,pf g=true->C.Γ g=some d->Yx d){r:FuncId->Bool}(m:∀g d,r g=true->C.Γ g=some d->Yh d){D:List (Tmp×Tmp)}{L:List Tmp}{n:Array Oper}(l:Br pf D L r n=true):DX C n (Nv pf D L r n) (AskA D L):=by
 simp only[Br,zH]at l;obtain⟨B,l⟩:=l;refine⟨fun i o st t w f hs=>?_,fun i j a b st t H I c f hs=>?_⟩
 ·obtain⟨x,y⟩:=IP k m l w ⟨f.1.1,fun s hs=>(f.1.2 s hs).1⟩ hs;cases q:OX L
  ·refine⟨⟨x,fun s h=>⟨y s h,fun E=>?_⟩⟩,fun e=>by rw[q]at e;cases e⟩;have:=List.any_eq_false.1 q s h;simp at this;omega
  ·obtain⟨F,G⟩:=zgk k B q w f.1.2 (f.2 q) hs;exact⟨⟨x,fun s h=>⟨y s h,F s h⟩⟩,fun _=>G⟩
 ·simp only[Nv,qd]at c;rcases c with(c|c)|c
  ·rw[<-OW k c st];exact hs
  ·simp only[zfc,zH,qd,Option.isNone_iff_eq_none]at c;obtain⟨⟨⟨⟨u,p⟩,z⟩,A⟩,hm⟩:=c;rcases hm with hm|hm
   ·rw[<-uF m hm z A u f.1.1 f.1.2];exact hs
   ·rw[uF m hm A z p f.1.1 f.1.2];exact hs
  ·have v:OX L=true:=by simp only[newB,zH]at c;exact c.1.1.1.1.1
   exact Tx k c f.1.2 (f.2 v) hs
end
def ZY(C:Ctx)(code:Code)(st:St)(K:Exit->St->Prop):Prop:=∃e a,wx C code st=some (e,a)/\K e a
def uG(C:Ctx)(b:Array Oper)(l:List Oper)(st:St)(K:St->Prop):Prop:=∃a,Zc C b l st=some a/\K a
def af{α:Type}(o:Option α)(K:α->Prop):Prop:=∃x,o=some x/\K x
theorem Ei{α:Type}{o o':Option α}(K:α->Prop)(h:o=o'):af o K=af o' K:=by rw[h]
theorem IQ{α:Type}(x:α)(K:α->Prop):af (some x) K=K x:=by simp[af]
def lO(C:Ctx)(o:Option O)(x y:Code)(st:St)(K:Exit->St->Prop):Prop:=(o=some (.v (.bool true))/\ZY C x st K)\/(o=some (.v (.bool false))/\ZY C y st K)
theorem Ej{C:Ctx}{o o':Option O}{x y:Code}{st:St}{K:Exit->St->Prop}(h:o=o'):lO C o x y st K=lO C o' x y st K:=by rw[h]
theorem IU(C:Ctx)(x y:Code)(st:St)(K:Exit->St->Prop):lO C (some (.v (.bool true))) x y st K=ZY C x st K:=by simp[lO]
theorem Ek(C:Ctx)(x y:Code)(st:St)(K:Exit->St->Prop):lO C (some (.v (.bool false))) x y st K=ZY C y st K:=by simp[lO]
def oJ(C:Ctx)(b:Code)(K:Exit->St->Prop)(e:Exit)(st:St):Prop:=match e with
 | .normal=>ZY C b st K
 |e=>K e st
def YX(id:Nat)(K:Exit->St->Prop)(e:Exit)(st:St):Prop:=match e with
 | .exit i=>if i=id then K .normal st else K (.exit i) st
 |e=>K e st
def K7(K:Exit->St->Prop)(st:St):Prop:=K .normal st
theorem Bu(C:Ctx)(b:Code)(K:Exit->St->Prop)(st:St):oJ C b K .normal st=ZY C b st K:=rfl
theorem O8(C:Ctx)(b:Code)(K:Exit->St->Prop)(st:St):oJ C b K .ret st=K .ret st:=rfl
theorem IV(C:Ctx)(b:Code)(K:Exit->St->Prop)(i:Nat)(st:St):oJ C b K (.exit i) st=K (.exit i) st:=rfl
theorem sY(id:Nat)(K:Exit->St->Prop)(st:St):YX id K .normal st=K .normal st:=rfl
theorem IW(id:Nat)(K:Exit->St->Prop)(st:St):YX id K .ret st=K .ret st:=rfl
theorem gT(id:Nat)(K:Exit->St->Prop)(st:St):YX id K (.exit id) st=K .normal st:=by simp[YX]
theorem br{C:Ctx}{code:Code}{st:St}{b:Exit}{a:St}(K:Exit->St->Prop)(h:wx C code st=some (b,a)):ZY C code st K=K b a:=by
 unfold ZY;apply propext;constructor
 ·rintro⟨e,c,f,d⟩;rw[h]at f;obtain⟨rfl,rfl⟩:b=e/\a=c:=by simpa using f
  exact d
 ·exact fun d=>⟨_,_,h,d⟩
theorem Tz(C:Ctx)(st:St)(K:Exit->St->Prop):ZY C .skip st K=K .normal st:=br K (by simp only[wx])
theorem TA(C:Ctx)(id:Nat)(st:St)(K:Exit->St->Prop):ZY C (.exit id) st K=K (.exit id) st:=br K (by simp only[wx])
theorem zcq(C:Ctx)(st:St)(K:Exit->St->Prop):ZY C .ret st K=K .ret st:=br K (by simp only[wx])
theorem O9(C:Ctx)(l:Nat)(st:St)(K:Exit->St->Prop):ZY C (.label l) st K=K .normal st:=br K (by simp only[wx])
theorem El(C:Ctx)(i:Nat)(a:Array Oper)(d:Bool)(c st:St)(K:Exit->St->Prop)(g:DV (C.fz i) c=some st)(h:YV (C.dyn i) st)(j:QI (C.S6 i) st):ZY C (.region i a d) c K=uG C a a.toList st (K7 K):=by
 unfold ZY uG K7;simp only[wx,g,h,j,and_self,qA];apply propext;constructor
 ·rintro⟨e,b,h,f⟩;split at h
  ·rename_i s hs;obtain⟨rfl,rfl⟩:Exit.normal=e/\s=b:=by simpa using h
   exact⟨_,hs,f⟩
  ·cases h
 ·rintro⟨b,h,f⟩;exact⟨.normal,b,by rw[h],f⟩
theorem Yy(C:Ctx)(i:Nat)(a:Array Oper)(d:Bool)(st:St)(K:Exit->St->Prop)(h:YV (C.dyn i) st)(b:QI (C.S6 i) st)(c:C.fz i=[]:=by rfl):ZY C (.region i a d) st K=uG C a a.toList st (K7 K):=
 El C i a d st st K (by rw[c];rfl) h b
theorem JP(C:Ctx)(i:Nat)(a:Array Oper)(d:Bool)(st:St)(K:Exit->St->Prop)(h:C.dyn i=[])(b:C.S6 i=[])(c:C.fz i=[]:=by rfl):ZY C (.region i a d) st K=uG C a a.toList st (K7 K):=Yy C i a d st K (by rw[h];intro p Y;cases Y) (by rw[b];intro p Y;cases Y) c
theorem Bv(C:Ctx)(a b:Code)(st:St)(K:Exit->St->Prop):ZY C (.seq a b) st K=ZY C a st (oJ C b K):=by
 unfold ZY;simp only[wx];apply propext;constructor
 ·rintro⟨e,c,h,d⟩;split at h
  ·rename_i s hs;exact⟨.normal,s,hs,e,c,h,d⟩
  ·rename_i r k;refine⟨e,c,h,?_⟩;cases e<;>simp_all[oJ]
 ·rintro⟨e,c,h,d⟩;cases e
  case normal=>obtain⟨i,f,j,g⟩:=d;exact⟨i,f,by rw[h];exact j,g⟩
  all_goals exact⟨_,c,by rw[h],d⟩
theorem TB(C:Ctx)(c:Operand)(x y:Code)(st:St)(K:Exit->St->Prop):ZY C (.cond c x y) st K=lO C (get st.U c) x y st K:=by
 unfold ZY lO;simp only[wx];apply propext;constructor
 ·rintro⟨e,a,h,d⟩;split at h
  ·rename_i b;exact .inl ⟨b,e,a,h,d⟩
  ·rename_i b;exact .inr ⟨b,e,a,h,d⟩
  ·cases h
 ·rintro (⟨b,e,a,h,d⟩|⟨b,e,a,h,d⟩)
  ·exact⟨e,a,by rw[b];exact h,d⟩
  ·exact⟨e,a,by rw[b];exact h,d⟩
theorem Pb(C:Ctx)(id:Nat)(b:Code)(st:St)(K:Exit->St->Prop):ZY C (.block id b) st K=ZY C b st (YX id K):=by
 unfold ZY;simp only[wx];apply propext;constructor
 ·rintro⟨e,a,h,c⟩;split at h
  ·rename_i i s hs;refine⟨.exit i,s,hs,?_⟩;unfold YX;split at h
   ·rename_i hi;obtain⟨rfl,rfl⟩:Exit.normal=e/\s=a:=by simpa using h
    simp[hi,c]
   ·rename_i hi;obtain⟨rfl,rfl⟩:Exit.exit i=e/\s=a:=by simpa using h
    simp[hi,c]
  ·rename_i r d;refine⟨e,a,h,?_⟩;cases e<;>simp_all[YX]
 ·rintro⟨e,a,h,c⟩;cases e
  case exit i=>
   unfold YX at c;simp only[h];by_cases hi:i=id
   ·simp only[hi,qA]at c⊢;exact⟨_,_,rfl,c⟩
   ·simp only[hi,qJ]at c⊢;exact⟨_,_,rfl,c⟩
  all_goals exact⟨_,a,by rw[h],c⟩
def asgK(C:Ctx)(b:Code)(K:Exit->St->Prop)(e:Exit)(st:St):Prop:=match e with
 | .normal=>ZY C b st K
 |_=>False
def rngK(I:Nat->Hp->Nat->Prop)(k:Nat)(U:Nat->O)(K:Exit->St->Prop)(e:Exit)(st:St):Prop:=match e with
 | .normal=>I (k+1) st.Y st.Z
 | .ret=>K .ret ⟨U,st.Y,st.Z⟩
 | .exit i=>K (.exit i) ⟨U,st.Y,st.Z⟩
 |_=>False
theorem Pd{C:Ctx}{f:Operand}{s:Array Tmp}{a b:Code}{st:St}{K:Exit->St->Prop}{p:Tmp}{g:FuncId}{cap:zb}{it:Q1}{xs:zb}{Y1:Hp}
  (o:s.toList=[p]) (v:get st.U f=some (.fn (.func g) [] cap)) (hit:C.it g=some it) (w:it cap st.Y=some (xs,Y1)) (I:Nat->Hp->Nat->Prop) (x:I 0 Y1 st.Z)
  (h:∀k Y Z (t:k<xs.length),I k Y Z->ZY C a ⟨qR st.U p xs[k],Y,Z⟩ (asgK C b (rngK I k st.U K))) (i:∀Y Z,I xs.length Y Z->K .normal ⟨st.U,Y,Z⟩):ZY C (.rangeFunc f s a b) st K:=by
 have q:∀d k Y Z,xs.length-k=d->k<=xs.length->I k Y Z->∃e Y2 c,VL (wx C a) (wx C b) st.U p (xs.drop k) Y Z=some (e,Y2,c)/\K e ⟨st.U,Y2,c⟩:=by
  intro d
  induction d with
  |zero=>
   intro k Y Z hd t r;obtain rfl:k=xs.length:=by omega
   exact⟨.normal,Y,Z,by rw[zo];rfl,i Y Z r⟩
  |succ d y=>
   intro k Y Z hd t r;have j:k<xs.length:=by omega
   obtain⟨z,D,l,m⟩:=h k Y Z j r;rw[zc j];simp only[VL,l];cases z<;>try exact m.elim
   obtain⟨A,u,B,n⟩:=m;simp only[B];cases A<;>try exact n.elim
   ·exact y (k+1) u.Y u.Z (by omega) (by omega) n
   ·exact⟨_,_,_,rfl,n⟩
   ·exact⟨_,_,_,rfl,n⟩
 obtain⟨e,Y2,c,l,m⟩:=q _ 0 Y1 st.Z rfl (kM _) x;rw[ym]at l;exact⟨e,⟨st.U,Y2,c⟩,by simp only[wx,o,v,hit,w,l],m⟩
theorem zcr(C:Ctx)(a:Array Oper)(st:St)(K:St->Prop):uG C a [] st K=K st:=by simp[uG,Zc]
def TC(C:Ctx)(a:Array Oper)(l:List Oper)(K:St->Prop)(st:St):Prop:=uG C a l st K
theorem TD(C:Ctx)(a:Array Oper)(l:List Oper)(K:St->Prop)(st:St):TC C a l K st=uG C a l st K:=rfl
theorem TE(C:Ctx)(a:Array Oper)(o:Oper)(l:List Oper)(st:St)(K:St->Prop):uG C a (o::l) st K=af (jf C a o st) (TC C a l K):=by
 unfold uG af TC uG;simp only[Zc];apply propext;constructor
 ·rintro⟨b,h,c⟩;split at h
  ·rename_i s hs;exact⟨s,hs,b,h,c⟩
  ·cases h
 ·rintro⟨s,hs,b,h,c⟩;exact⟨b,by rw[hs];exact h,c⟩
theorem zT(C:Ctx)(b:Code)(st:St)(K:Exit->St->Prop):ZY C (.loop b) st K=ZY C b st (oJ C (.loop b) K):=by
 unfold ZY;simp only[wx];rw[Bh];apply propext;constructor
 ·rintro⟨e,a,h,c⟩;split at h
  ·rename_i s hs;exact⟨.normal,s,hs,e,a,by simpa only[wx]using h,c⟩
  ·rename_i r j;refine⟨e,a,h,?_⟩;cases e<;>simp_all[oJ]
 ·rintro⟨e,a,h,c⟩;cases e
  case normal=>obtain⟨g,d,i,f⟩:=c;exact⟨g,d,by rw[h];simpa only[wx]using i,f⟩
  all_goals exact⟨_,a,by rw[h],c⟩
def Bw(I:St->Prop)(a:St->Nat)(n:Nat)(K:Exit->St->Prop)(e:Exit)(st:St):Prop:=match e with
 | .normal=>I st/\a st<n
 |e=>K e st
theorem sZ(I:St->Prop)(a:St->Nat)(n:Nat)(K:Exit->St->Prop)(st:St):Bw I a n K .normal st=(I st/\a st<n):=rfl
theorem IX(I:St->Prop)(a:St->Nat)(n:Nat)(K:Exit->St->Prop)(st:St):Bw I a n K .ret st=K .ret st:=rfl
theorem Em(I:St->Prop)(a:St->Nat)(n i:Nat)(K:Exit->St->Prop)(st:St):Bw I a n K (.exit i) st=K (.exit i) st:=rfl
theorem ZY.mono{C:Ctx}{code:Code}{st:St}{K b:Exit->St->Prop}(h:ZY C code st K)(c:∀e st,K e st->b e st):ZY C code st b:=
 let⟨e,a,d,f⟩:=h
 ⟨e,a,d,c _ _ f⟩
theorem ZE{C:Ctx}{b:Code}{st:St}{K:Exit->St->Prop}(I:St->Prop)(d:St->Nat)(h:I st)(a:∀st,I st->ZY C b st (Bw I d (d st) K)):ZY C (.loop b) st K:=by
 have f:∀n st,d st=n->I st->ZY C (.loop b) st K:=by
  intro n
  induction n using Nat.strongRecOn with
  |_ n i=>
   intro st j k;rw[zT];refine(a st k).mono fun e c g=>?_
   cases e
   case normal=>exact i (d c) (j ▸ g.2) c rfl g.1
   all_goals exact g
 exact f _ st rfl h
def VS(P:Program)(fn:Func)(R:O->Hp->Nat->Prop)(e:Exit)(st:St):Prop:=match e with
 | .normal|.ret=>af (ZC P fn st) (fun x=>R x st.Y st.Z)
 |_=>False
theorem En(P:Program)(fn:Func)(R:O->Hp->Nat->Prop)(st:St):VS P fn R .normal st=af (ZC P fn st) (fun x=>R x st.Y st.Z):=rfl
theorem TF(P:Program)(fn:Func)(R:O->Hp->Nat->Prop)(st:St):VS P fn R .ret st=af (ZC P fn st) (fun x=>R x st.Y st.Z):=rfl
theorem qw{C:Ctx}{fn:Func}{code:Code}{args:zb}{Y:Hp}{Z:Nat}{R:O->Hp->Nat->Prop}(g:fn.body=some code)
  (h:ZY C code ⟨vn args,Y,Z⟩ (VS C.P fn R)):∃x d f,kj C fn args Y Z=some (x,d,f)/\R x d f:=by
 obtain⟨e,st,i,a⟩:=h;unfold kj;simp only[g,i];unfold VS at a;split at a
 ·obtain⟨x,b,c⟩:=a;exact⟨x,st.Y,st.Z,by simp[b],c⟩
 ·obtain⟨x,b,c⟩:=a;exact⟨x,st.Y,st.Z,by simp[b],c⟩
 ·exact a.elim
def qS(r:O)(x:O)(Y:Hp)(_:Nat):Prop:=(freeze Y x).map (·.1)=some r
theorem zm{C:Ctx}{fn:Func}{code:Code}{args:zb}{r:O}(a:fn.body=some code)
  (h:ZY C code ⟨vn args,fun _=>none,0⟩ (VS C.P fn (qS r))):zr C fn args=some r:=by
 obtain⟨x,d,e,b,c⟩:=qw a h;unfold zr;simp only[b];exact c
theorem Yz(d:Option Tmp)(op:Op)(t:TypeId)(p:String)(a:Array Edge)(y:Nat->Option Bool):Region.wanted ⟨d,op,t,p,a,none⟩ y=true:=rfl
theorem TG(C:Ctx)(a:Array Oper)(d:Option Tmp)(op:Op)(t:TypeId)(p:String)(b:Array Edge)(st:St):jf C a ⟨d,op,t,p,b,none⟩ st =
  (qf C (get st.U) st.Y st.Z op).map fun r=>⟨put st.U d r.1,r.2.1,r.2.2⟩:=by
 simp only[jf,Yz,qA];cases qf C (get st.U) st.Y st.Z op<;>rfl
variable{dr:Prop}
section
variable{C:Ctx}{pf:FuncId->Bool}
def Q6(a:Array Bool)(k:Nat):Prop:=a.getD k false=true
theorem lP{i n:Nat}(h:i<n):List.range n=List.range i++i::List.range' (i+1) (n-i-1):=by
 have a:List.range n=List.range' 0 i++List.range' i (n-i):=by rw[List.range_eq_range',show List.range' 0 n=List.range' 0 (i+(n-i))from by rw[show i+(n-i)=n from by omega],<-List.range'_append_1];simp
 rw[a,List.range_eq_range'];congr 1;rw[show n-i=(n-i-1)+1 from by omega,List.range'_succ];simp
theorem TH{a:Array Oper}{cm:Oper->Oper->Bool}{A:St->Prop}(D:DX C a cm A)(E:ow cm a=true):∀(fuel t:Nat) (listed:Array Bool) (st:St),A st->listed.size=a.size->c8 a (Q6 listed) ->
  ((List.range a.size).filter fun i=>!listed.getD i true).length<=fuel ->
  ∀r:St,kW C a ((List.range a.size).filter fun i=>!listed.getD i true) st=some r->kW C a (Region.linearise.go .any a fuel t listed []) st=some r:=by
 intro fuel
 induction fuel with
 |zero=>intro t listed st _ _ _ Q r c;rw[Ze (Nat.le_zero.1 Q)]at c;exact c
 |succ fuel ih=>
  intro t listed st R S F Q r c;simp only[Region.linearise.go];change kW C a (match(Region.ready .any a listed)[t % (Region.ready .any a listed).length]? with
   |some i=>Region.linearise.go .any a fuel (t/(Region.ready .any a listed).length) (listed.setIfInBounds i true) [i]
   |none=>[].reverse) st=some r
  have q:∀k,k<a.size->listed.getD k true=listed.getD k false:=fun k hk=>by
   have:k<listed.size:=by omega
   simp[this]
  have d:∀i,i∈Region.ready .any a listed↔i<a.size/\listed.getD i true=false/\∃o,a[i]?=some o/\uD (Q6 listed) o:=by
   intro i;unfold Region.ready;simp only[zgb,jo,zH,vY];constructor
   ·rintro⟨G,T,h3⟩;refine⟨G,T,a[i],by simp[G],fun e s u=>?_⟩;simp only[G,QX,zK,YS]at h3;have:=cn.1 h3 e (by simpa using s);simpa[u,Q6]using this
   ·rintro⟨G,T,o,m,Y⟩;refine⟨G,T,?_⟩;simp only[m,zK,YS];refine cn.2 fun e s=>?_
    cases u:Region.binds .any e with
    |false=>rfl
    |true=>simpa[Q6]using Y e (by simpa using s) u
  cases hi:(Region.ready .any a listed)[t % (Region.ready .any a listed).length]? with
  |none=>
   have H:Region.ready .any a listed=[]:=by
    cases c:Region.ready .any a listed with
    |nil=>rfl
    |cons x xs=>rw[c]at hi;have w:t % (x::xs).length<(x::xs).length:=Nat.mod_lt _ (by simp);simp at hi;simp at w;omega
   have I:∀n k,k<n->k<a.size->listed.getD k true=true:=by
    intro n
    induction n with
    |zero=>intro k hk;omega
    |succ n J=>
     intro k hk g;by_cases W:k<n
     ·exact J k W g
     ·have X:k=n:=by omega
      subst X;cases u:listed.getD k true with
      |true=>rfl
      |false=>
       have m:a[k]?=some a[k]:=by simp[g]
       have v:k∈Region.ready .any a listed:=(d k).2 ⟨g,u,a[k],m,fun e s hbe=>by have w:=(lN E k _ m).1 e s hbe;have:=J e.on w (by omega);rw[q e.on (by omega)]at this;exact this⟩
       rw[H]at v;cases v
   have:((List.range a.size).filter fun i=>!listed.getD i true)=[]:=by rw[List.filter_eq_nil_iff];intro k hk;have g:=jo.1 hk;rw[I (k+1) k (by omega) g];simp
   rw[this]at c;exact c
  |some i=>
   simp only[];obtain⟨K,hul,o,m,Y⟩:=(d i).1 (zM hi);rw[linearise_go_acc,List.reverse_singleton,List.singleton_append];have y:∀k,(listed.setIfInBounds i true).getD k true=if k=i then true else listed.getD k true:=by
    intro k;by_cases hk:k=i
    ·subst hk;have:k<listed.size:=by omega
     simp[this]
    ·rw[ze hk];simp[lE (fun h=>hk h.symm)]
   have hlf:∀k,Q6 (listed.setIfInBounds i true) k↔k=i\/Q6 listed k:=by
    intro k;unfold Q6;by_cases hk:k=i
    ·subst hk;have:k<listed.size:=by omega
     simp[this]
    ·simp[lE (fun h=>hk h.symm),hk]
   have f:((List.range a.size).filter fun k=>!listed.getD k true)=((List.range i).filter fun k=>!listed.getD k true)++i::((List.range' (i+1) (a.size-i-1)).filter fun k=>!listed.getD k true):=by rw[lP K,List.filter_append,List.filter_cons_of_pos (by rw[hul];rfl)]
   have b:((List.range a.size).filter fun k=>!(listed.setIfInBounds i true).getD k true)=((List.range i).filter fun k=>!listed.getD k true)++((List.range' (i+1) (a.size-i-1)).filter fun k=>!listed.getD k true):=by
    rw[lP K,List.filter_append,List.filter_cons_of_neg (by rw[y];simp)];congr 1
    ·exact List.filter_congr fun k hk=>by have:=jo.1 hk;rw[y,ze (by omega)]
    ·exact List.filter_congr fun k hk=>by have:=(List.mem_range'_1.1 hk).1;rw[y,ze (by omega)]
   have L:c8 a (Q6 (listed.setIfInBounds i true)):=by
    intro k o' hk l e s u;rw[hlf]at hk⊢;rcases hk with rfl|hk
    ·rw[m]at l;injection l with l
     subst l;exact .inr (Y e s u)
    ·exact .inr (F k o' hk l e s u)
   have p:((List.range a.size).filter fun k=>!(listed.setIfInBounds i true).getD k true).length<=fuel:=by rw[b];rw[f]at Q;simp only[qt,zV]at Q⊢;omega
   have M:=fun st R=>ih (t/(Region.ready .any a listed).length) (listed.setIfInBounds i true) st R (by simpa using S) L p
   rw[f]at c;have c:=cu D m _ _ _ r R (fun j hj=>by
    obtain⟨z,N⟩:=zgb.1 hj;have z:=jo.1 z;rcases(lN E i o m).2 j z with h|h
    ·have:=h (Q6 listed) F Y;unfold Q6 at this;rw[<-q j (by omega)]at this;rw[this]at N;cases N
    ·exact h) c
   simp only[kW,m]at c⊢;cases B:jf C a o st with
   |none=>rw[B]at c;cases c
   |some P=>rw[B]at c;simp only[qo]at c⊢;exact M P (D.keep i o st P m R B) r (by rw[b];exact c)
theorem Bx(a:Array Oper)(st:St):∀(l:List Oper) (i:Nat),(∀k,l[k]?=a[i+k]?)->i+l.length=a.size->kW C a (List.range' i l.length) st=Zc C a l st:=by
 intro l
 induction l generalizing st with
 |nil=>intro i _ _;rfl
 |cons o l d=>
  intro i c e;have f:a[i]?=some o:=by have:=c 0;simpa using this.symm
  simp only[zV,List.range'_succ,kW,f,Zc];cases hs:jf C a o st with
  |none=>rfl
  |some b=>simp only[qo];exact d b (i+1) (fun k=>by have:=c (k+1);simpa[nZ,DT 1 k]using this) (by simp at e;omega)
theorem cx(a:Array Oper)(st:St):kW C a (List.range a.size) st=Zc C a a.toList st:=by have:=Bx (C:=C) a st a.toList 0 (by simp) (by simp);rw[List.range_eq_range'];simpa using this
theorem zcs{a:Array Oper}{e:Oper->Oper->Bool}{A:St->Prop}(c:DX C a e A)(d:ow e a=true)(t:Nat)(st r:St)(f:A st)(g:Zc C a a.toList st=some r):kW C a (Region.linearise .any a t) st=some r:=by
 unfold Region.linearise;refine TH c d a.size t _ st f (by simp) (fun k o b=>by unfold Q6 at b;rw[KF,Array.getElem?_replicate]at b;split at b<;>simp at b) (zG (zhO _ _) (by simp)) r ?_
 have:((List.range a.size).filter fun i=>!(Array.replicate a.size false).getD i true)=List.range a.size:=by rw[List.filter_eq_self];intro i hi;have hi:=jo.1 hi;simp[hi]
 rw[this,cx];exact g
end
section
variable{C:Ctx}{pf:FuncId->Bool}{w0:World}{S0 L:Nat->Prop}{N Z0:Nat}{G0:Nat->GI}{n0:Nat}
theorem K8{w:World}{S:Nat->Prop}{G:Nat->GI}{Z:Nat}{f:Array Oper}{U:Nat->O}{a:Act}(hs:∀t,qx w S G Z (U t) (a.tmps.getD t undef)):yielded f a.tmps=WN f U:=by
 funext j;unfold yielded WN;cases hd:(f[j]?).bind (·.dst)with
 |none=>rfl
 |some d=>
  simp only[qo];have k:=hs d;have m:∀b:Bool,a.tmps.getD d undef=.bool b->a.tmps[d]?=some (.bool b):=by
   intro b l;by_cases g:d<a.tmps.size
   ·simp[g]at l⊢;exact l
   ·simp[g]at l;simp[undef]at l
  cases i:U d with
  |v x=>
   rw[i]at k;obtain⟨e,o⟩:=k.yq;cases x with
   |bool b=>simp only[m b e]
   |_=>
    cases n:a.tmps[d]? with
    |none=>rfl
    |some y=>
     have:a.tmps.getD d undef=y:=by simp[n]
     rw[this]at e;subst e;rfl
  |_=>
   cases n:a.tmps[d]? with
   |none=>rfl
   |some y=>
    have:a.tmps.getD d undef=y:=by simp[n]
    rw[i,this]at k;cases y with
    |bool b=>cases k with
     |c h=>cases h
    |_=>rfl
def H7(F:Fence):Prop:=F=Fence.wide\/∃l,F=Fence.wide.inRound l
theorem H7.fn{F:Fence}(h:H7 F)(f:FuncId):F.fn f:=by rcases h with rfl|⟨l,rfl⟩<;>trivial
theorem H7.deep{F:Fence}(h:H7 F):F.depth=none:=by rcases h with rfl|⟨l,rfl⟩<;>rfl
theorem H7.calls{F:Fence}(h:H7 F){n:Nat}{P:Program}{f:FuncId}{args:Array Value}{w:World}{R:Ending->World->Prop}(a:Calls P f args w R):CallsIn F n P f args w R:=by
 rcases h with rfl|⟨l,rfl⟩
 ·exact sM.2 a
 ·exact(sM.2 a:CallsIn Fence.wide n P f args w R)
theorem JE(k:∀g r,C.Γ g=some r->xB dr C.P g r){m:Array Oper}(s:∀(i:Nat) (o:Oper),m[i]?=some o->∀d,o.dst=some d->d<N){F:Fence}{n:Nat}(hF:H7 F){Q:Exit->Act->World->Prop} :
  ∀(l:List Nat) (st j:St) (a:Act) (w:World),kW C m l st=some j->nF dr C.P w0 S0 L N Z0 G0 n0 st a w->(∀T w',nF dr C.P w0 S0 L N Z0 G0 n0 j T w'->Q .normal T w')->wpOpsIn F n C.P m Q l a w
 |[],st,j,a,w,h,hs,A=>by
  simp only[kW]at h;injection h with h
  subst h;exact A a w hs
 |i::l,st,j,a,w,h,hs,A=>by
  simp only[wpOpsIn];cases B:m[i]? with
  |none=>simp only[kW,B]at h;exact JE k s hF l st j a w h hs A
  |some o=>
   simp only[kW,B]at h;cases b:jf C m o st with
   |none=>rw[b]at h;cases h
   |some W=>
    rw[b]at h;simp only[qo]at h;obtain⟨S,G,t⟩:=hs;unfold jf at b;simp only[];rw[K8 t.xO];split at b
    ·rename_i D;rw[zd D];split at b
     ·rename_i x Y Z u;injection b with b
      subst b;have E:∀c,o.op≠.defer c:=by intro c H;rw[H]at u;simp[qf]at u
      refine⟨fun f _=>hF.fn f,?_⟩;rw[zhP _ _ _ E];have I:=eC k t.inv (a:=a.eval) (fun y pv X=>Q4 t.xO X) (o:=o) u;rcases I with⟨v,w',J,K,z,M,R⟩|⟨g,vs,z,H⟩
      ·have p:nF dr C.P w0 S0 L N Z0 G0 n0 ⟨put st.U o.dst x,Y,Z⟩ (a.put o.dst v) w':=⟨J,K,t.step M R (s i o B)⟩;have q:=JE (n:=n) k s hF l _ j _ w' h p A;rcases z with z|⟨z,rfl⟩
       ·rw[z];exact q
       ·rw[z];exact q
      ·rw[z];refine⟨fun h=>by simp[hF.deep]at h,hF.calls (H.mono fun e w' hh=>?_)⟩;obtain⟨v,J,K,rfl,M,R⟩:=hh;have p:nF dr C.P w0 S0 L N Z0 G0 n0 ⟨put st.U o.dst x,Y,Z⟩ (a.put o.dst v) w':=⟨J,K,t.step M R (s i o B)⟩;exact JE k s hF l _ j _ w' h p A
     ·cases b
    ·rename_i D;rw[ze D];injection b with b
     subst b;exact⟨fun f _=>hF.fn f,JE k s hF l _ j _ w h ⟨S,G,t.step (.refl t.inv) kv (s i o B)⟩ A⟩
def ke:Code->Bool
 | .seq a b=>ke a&&ke b
 | .cond _ a b=>ke a&&ke b
 | .block _ b=>ke b
 | .loop b=>ke b
 | .rangeFunc _ _ _ _=>false
 | .scope _=>false
 |_=>true
def xC(pf:FuncId->Bool)(c:Nat->List (Tmp×Tmp))(e:Nat->List Tmp)(f:FuncId->Bool)(N:Nat):Code->Bool
 | .region i g h=>g.all (fun o=>match o.dst with|some d=>decide (d<N)|none=>true)&&(!h||(ow (Nv pf (c i) (e i) f g) g&&Br pf (c i) (e i) f g))
 | .seq a b=>xC pf c e f N a&&xC pf c e f N b
 | .cond _ a b=>xC pf c e f N a&&xC pf c e f N b
 | .block _ b=>xC pf c e f N b
 | .loop b=>xC pf c e f N b
 | .rangeFunc _ j a b=>j.all (fun p=>decide (p<N))&&ke a&&ke b&&xC pf c e f N a&&xC pf c e f N b
 |_=>true
theorem nF.drew{st:St}{a:Act}{w:World}(h:nF dr C.P w0 S0 L N Z0 G0 n0 st a w):nF dr C.P w0 S0 L N Z0 G0 n0 st a {w with drawn:=w.drawn+1}:=by obtain⟨S,G,c⟩:=h;refine⟨S,G,c.inv.same rfl,fun t=>(c.xO t).mono (fun b d=>⟨d,rfl⟩) (zl _) (fun _ _=>rfl),c.size,c.defers,c.s0,c.s1,c.own,c.fr.trans (Fr.drew w L) fun _ _ h=>h,c.up,c.loc⟩
theorem nF.top{st:St}{a:Act}{w:World}(h:nF dr C.P w0 S0 L N Z0 G0 n0 st a w):db st.Y st.Z:=by obtain⟨S,G,b⟩:=h;exact b.inv.top
theorem nF.zk5{st:St}{a:Act}{w:World}(h:nF dr C.P w0 S0 L N Z0 G0 n0 st a w){t:Nat}{y:O}{Y1:Hp}(g:qH st.Y (st.U t)=some (y,Y1)):nF dr C.P w0 S0 L N Z0 G0 n0 ⟨qR st.U t y,Y1,st.Z⟩ a w:=by
 obtain⟨S,G,h⟩:=h;obtain⟨f,k,c,_,_⟩:=vL (dr:=dr) h.inv g (h.xO t);have d:∀b,vo st.Y G b->L b\/w0.heap.size<=b:=by rintro b ⟨id,blk,hid,rfl⟩;exact h.own id blk hid
 refine⟨f,G,k.inv,fun s=>?_,h.size,h.defers.step k,fun b e=>k.keep (dr:=dr) b (h.s0 b e),fun b e=>?_,fun id b e=>?_,h.fr,h.up,h.loc⟩
 ·show qx w f G st.Z (qR st.U t y s) _;by_cases hs:s=t
  ·subst hs;rw[yd];exact .c c
  ·rw[wM _ _ _ _ hs];exact(h.xO s).mono (k.same h.inv) (zl _) (fun _ _=>rfl)
 ·rcases k.from_ b e with h1|h1|h1
  ·exact h.s1 b h1
  ·exact .inr (d b h1)
  ·exact .inr (.inr (zG h.fr.size h1))
 ·rcases k.own id b e with h1|h1
  ·exact d _ h1
  ·exact .inr (zG h.fr.size h1)
theorem nF.DV{a:Act}{w:World}:∀{l:List Tmp} {st b:St},nF dr C.P w0 S0 L N Z0 G0 n0 st a w->AM.DV l st=some b->nF dr C.P w0 S0 L N Z0 G0 n0 b a w
 |[],st,b,h,e=>by
  simp only[AM.DV]at e;injection e with e
  rw[<-e];exact h
 |t::l,st,b,h,e=>by
  simp only[AM.DV]at e;split at e
  ·rename_i y Y1 c;exact nF.DV (h.zk5 c) e
  ·cases e
def cp(S:Nat->Prop)(G:Nat->GI)(Y:Hp)(b:Nat):Prop:=¬S b/\∀id blk,Y id=some blk->(G id).g≠b
theorem cp.step{P:Program}{Y d:Hp}{Z g:Nat}{S e:Nat->Prop}{G f:Nat->GI}{w w':World}{b:Nat}(h:cp S G Y b)(k:vA dr P Y Z S G w d g e f w')(j:b<w.heap.size):cp e f d b:=by
 refine⟨fun hs=>?_,fun id blk hid i=>?_⟩
 ·rcases k.from_ b hs with h1|⟨id,blk,h1,c⟩|h1
  ·exact h.1 h1
  ·exact h.2 id blk h1 c
  ·omega
 ·rcases k.own id blk hid with⟨id',a,h1,c⟩|h1
  ·exact h.2 id' a h1 (c.trans i)
  ·omega
theorem cp.same{P:Program}{Y a:Hp}{Z c:Nat}{S d:Nat->Prop}{G e:Nat->GI}{w w':World}{b:Nat}(h:cp S G Y b)(k:vA dr P Y Z S G w a c d e w')(f:b<w.heap.size):w'.heap[b]?=w.heap[b]?:=
 k.fr.block b f fun⟨id,blk,g,i⟩=>h.2 id blk g i
section
variable{P:Program}{S:Nat->Prop}{G:Nat->GI}
theorem Inv.frame{w w':World}{Y:Hp}{Z:Nat}{B:Nat->Prop}(h:Inv P w S G Y Z)(d:Fr dr w B w')(e:∀b,B b->cp S G Y b):Inv P w' S G Y Z:=by
 have f:∀b,S b->S b/\w'.heap[b]?=w.heap[b]?:=fun b a=>⟨a,d.block b (h.st b a) fun c=>(e b c).1 a⟩
 exact⟨fun b a=>jF (h.st b a) d.size,h.top,fun id b a=>(h.live id b a).mono f (zl _) (fun _ _=>rfl) (d.block _ (h.live id b a).lt fun c=>(e _ c).2 id b a rfl),h.apart,h.inj,h.oa.mono f⟩
theorem Marks.frame{w w':World}{Y:Hp}{B:Nat->Prop}{ds:List Deferred}(h:Marks n0 w S Y G ds)(a:Fr dr w B w')(c:∀D,mP D∈ds->¬B D):Marks n0 w' S Y G ds:=by obtain⟨d,f,e,g,i⟩:=h;refine⟨zG d a.size,f,e,g,fun D hd=>?_⟩;obtain⟨j,b,k⟩:=i D hd;exact⟨j,(a.block D (qE.1 b).1 (c D (by rw[e];exact X4 hd))).trans b,k⟩
theorem Eo{D a:Nat}(h:mP D=mP a):D=a:=by
 unfold mP at h;injection h with h
 injection h
theorem Marks.at{w:World}{Y:Hp}{ds:List Deferred}(h:Marks n0 w S Y G ds){D:Nat}(hd:mP D∈ds):n0<=D/\w.heap[D]?=some (.deferred (some []))/\¬S D/\∀id b,Y id=some b->(G id).g≠D:=by obtain⟨f,i,rfl,j,a⟩:=h;obtain⟨c,d,e⟩:=wA.1 hd;rw[<-Eo e];exact a c d
theorem YT.frame{st:St}{a:Act}{w w':World}{B:Nat->Prop}(h:YT dr P w0 S0 L N Z0 G0 n0 st S G a w)(c:Fr dr w B w')(f:∀b,B b->cp S G st.Y b)(i:∀b,B b->L b\/w0.heap.size<=b)
  (j:∀D,mP D∈a.defers->¬B D):YT dr P w0 S0 L N Z0 G0 n0 st S G a w':=by
 have k:∀b,S b->S b/\w'.heap[b]?=w.heap[b]?:=fun b d=>⟨d,c.block b (h.inv.st b d) fun e=>(f b e).1 d⟩
 refine⟨h.inv.frame c f,fun t=>(h.xO t).mono k (zl _) (fun _ _=>rfl),h.size,h.defers.frame c j,h.s0,h.s1,h.own,h.fr.trans c fun b d l=>?_,h.up,h.loc⟩;rcases i b l with g|g
 ·exact g
 ·omega
theorem YT.zeS{st:St}{a:Act}{w w':World}{B:Nat->Prop}(h:YT dr P w0 S0 L N Z0 G0 0 st S G a w)(d:Fr dr w B w')(f:∀b,B b->cp S G st.Y b)(g:∀D,mP D∈a.defers->¬B D):YT dr P w' S (vo st.Y G) N st.Z G 0 st S G a w':=by
 have i:∀b,S b->S b/\w'.heap[b]?=w.heap[b]?:=fun b c=>⟨c,d.block b (h.inv.st b c) fun e=>(f b e).1 c⟩
 exact⟨h.inv.frame d f,fun t=>(h.xO t).mono i (zl _) (fun _ _=>rfl),h.size,h.defers.frame d g,fun _ h=>h,fun _ h=>.inl h,fun id b c=>.inl ⟨id,b,c,rfl⟩,Fr.refl _ _,zl _,fun _ _=>rfl⟩
theorem YT.inner{st:St}{a:Act}{w:World}(h:YT dr P w0 S0 L N Z0 G0 n0 st S G a w):YT dr P w S (vo st.Y G) N st.Z G 0 st S G {a with defers:=[]} w:=
 ⟨h.inv,h.xO,h.size,.nil (kM _),fun _ h=>h,fun _ h=>.inl h,fun id b c=>.inl ⟨id,b,c,rfl⟩,Fr.refl _ _,zl _,fun _ _=>rfl⟩
theorem YT.stp{Y:Hp}{Z:Nat}{b:Nat->Prop}{c:Nat->GI}{st:St}{a:Act}{w w':World}(h:YT dr P w S (vo Y G) N Z G n0 st b c a w'):vA dr P Y Z S G w st.Y st.Z b c w':=⟨h.inv,h.up,h.loc,h.s0,h.s1,h.own,h.fr⟩
end
def Ep(dr:Prop)(P:Program)(g:FuncId)(it:Q1):Prop:=
 (∃fn,P.funcs[g]?=some fn/\(fn.name== "runtime.NumGoroutine")=false/\fn.body.isNone=false) /\
 ∀cap Y Z xs Y1,it cap Y=some (xs,Y1)->∃us:List Value,xs=us.map O.v/\(∀u∈us,lit u=true)/\(∀id b,Y1 id=some b->Y id=some b) /\
  ∀(w:World) (S:Nat->Prop) (G:Nat->GI) (vs:List Value),Inv P w S G Y Z->Zip (qx w S G Z) cap vs ->
   ∃B:Nat->Prop,(∀b,B b->vo Y G b/\cp S G Y1 b) /\
    ∀(n l:Nat) (J c:List Value->World->Prop),
     (∀pre W a,J pre W->Fr dr W B a->J pre a)->(∀pre W a,c pre W->Fr dr W B a->c pre a)->(∀pre W,J pre W->OB P W fun b=>b<W.heap.size) ->
     (∀pre x W,J pre W->us[pre.length]?=some x->YieldAt Fence.wide n P l #[x] W fun e a=>(e=.returned (.bool true)/\J (pre++[x]) a/\(∀b,B b->a.heap[b]?=W.heap[b]?)/\W.heap.size<=a.heap.size)\/(e=.returned (.bool false)/\c (pre++[x]) a)) ->
     ∀W,J [] W->(∀b,B b->W.heap[b]?=w.heap[b]?)->w.heap.size<=W.heap.size ->
      CallsIn Fence.wide (n+1) P g (#[.func (.yield l) #[] #[]]++vs.toArray) W fun e a=>(∃v,e=.returned v)/\(J us a\/∃pre,c pre a)
abbrev Pe:=Ep True
theorem zct{w:World}{S:Nat->Prop}{G:Nat->GI}{Z:Nat}{u:Value}(h:lit u=true):qx w S G Z (.v u) u:=.c (.v h)
theorem IY{w:World}{l:Nat}(o:Obj)(B:Nat->Prop)(a:B l):Fr dr w B (w.putObj l o):=
 ⟨rfl,rfl,rfl,by simp,fun _=>zl _,fun k _ b=>zk2 fun e=>b (e ▸ a)⟩
theorem oK(hΓ:∀g spec,C.Γ g=some spec->xB dr C.P g spec)(hpf:∀g spec,pf g=true->C.Γ g=some spec->Yx spec)(hbk:∀g spec,C.bk g=true->C.Γ g=some spec->Yh spec)(hit:∀g it,C.it g=some it->Ep dr C.P g it)(hm:C.P.follows .mixedOrders=true) :
  ∀(c:Code),xC pf C.dyn C.S6 C.bk N c=true->∀(F:Fence) (n:Nat),H7 F->(F=Fence.wide\/ke c=true)->∀(w0:World) (S0 L:Nat->Prop) (Z0:Nat) (G0:Nat->GI) (n0:Nat) (st st':St) (e:Exit) (a:Act) (w:World) (Q:Exit->Act->World->Prop),n0<=w0.heap.size->wx C c st=some (e,st')->nF dr C.P w0 S0 L N Z0 G0 n0 st a w ->
   (∀a' w',nF dr C.P w0 S0 L N Z0 G0 n0 st' a' w'->Q e a' w')->c.wpIn F n C.P Q a w:=by
 intro c
 induction c with
 |skip=>
  intro _ F n hF _ w0 S0 L Z0 G0 n0 st st' e a w Q _ h hs hQ;simp only[wx]at h;injection h with h
  injection h with e1 e2;subst e1;subst e2;exact wpIn_skip (hQ a w hs)
 |region id ops draw=>
  intro hok F n hF _ w0 S0 L Z0 G0 n0 st st' e a w Q _ h hs hQ;simp only[xC,zH,qd,vY]at hok;obtain⟨hN0,hdraw⟩:=hok;have hN:∀(i:Nat) (o:Oper),ops[i]?=some o->∀d,o.dst=some d->d<N:=by intro i o ho d hd;have:=cn.1 hN0 o (zhN ho);simpa[hd]using this
  simp only[wx]at h;split at h
  case h_2=>cases h
  rename_i st1 hth;have hs:=hs.DV hth;clear hth;generalize st1=st at h hs;split at h
  case isFalse=>cases h
  rename_i hA;split at h
  ·rename_i s hs1;injection h with h
   injection h with e1 e2;subst e1;subst e2;cases draw with
   |false=>exact wpIn_region (JE hΓ hN hF _ st s a w (by rw[cx];exact hs1) hs hQ)
   |true=>
    have hd:ow (Nv pf (C.dyn id) (C.S6 id) C.bk ops) ops=true/\Br pf (C.dyn id) (C.S6 id) C.bk ops=true:=by simpa using hdraw
    refine wpIn_region_draw fun t=>?_
    simp only[Region.schedule,hm,Wu,qA];exact JE hΓ hN hF _ st s a _ (zcs (Ty hpf hbk hd.2) hd.1 _ _ _ ⟨hA,fun _=>hs.top⟩ hs1) hs.drew hQ
  ·cases h
 |seq x y ihx ihy=>
  intro hok F n hF hno w0 S0 L Z0 G0 n0 st st' e a w Q hn0 h hs hQ;simp only[xC,zH]at hok;have hnx:F=Fence.wide\/ke x=true:=hno.imp (fun h=>h) fun h=>by simp only[ke,zH]at h;exact h.1
  have hny:F=Fence.wide\/ke y=true:=hno.imp (fun h=>h) fun h=>by simp only[ke,zH]at h;exact h.2
  simp only[wx]at h;split at h
  ·rename_i s hx;exact wpIn_seq (ihx hok.1 F n hF hnx w0 S0 L Z0 G0 n0 st s .normal a w _ hn0 hx hs fun a' w' hs'=>ihy hok.2 F n hF hny w0 S0 L Z0 G0 n0 s st' e a' w' Q hn0 h hs' hQ)
  ·rename_i r hr;refine wpIn_seq (ihx hok.1 F n hF hnx w0 S0 L Z0 G0 n0 st st' e a w _ hn0 h hs fun a' w' hs'=>?_);have:=hQ a' w' hs';cases e<;>first
    |exact this
    |exact(hr _ h).elim
 |cond c x y ihx ihy=>
  intro hok F n hF hno w0 S0 L Z0 G0 n0 st st' e a w Q hn0 h hs hQ;simp only[xC,zH]at hok;have hnx:F=Fence.wide\/ke x=true:=hno.imp (fun h=>h) fun h=>by simp only[ke,zH]at h;exact h.1
  have hny:F=Fence.wide\/ke y=true:=hno.imp (fun h=>h) fun h=>by simp only[ke,zH]at h;exact h.2
  simp only[wx]at h;obtain⟨S,G,hS⟩:=hs;split at h
  ·rename_i hc;obtain⟨hv,_⟩:=(Q4 hS.xO hc).yq;exact wpIn_cond_true hv (ihx hok.1 F n hF hnx w0 S0 L Z0 G0 n0 st st' e a w Q hn0 h ⟨S,G,hS⟩ hQ)
  ·rename_i hc;obtain⟨hv,_⟩:=(Q4 hS.xO hc).yq;exact wpIn_cond_false hv (ihy hok.2 F n hF hny w0 S0 L Z0 G0 n0 st st' e a w Q hn0 h ⟨S,G,hS⟩ hQ)
  ·cases h
 |block id b ih=>
  intro hok F n hF hno w0 S0 L Z0 G0 n0 st st' e a w Q hn0 h hs hQ;simp only[xC]at hok;have hnb:F=Fence.wide\/ke b=true:=hno.imp (fun h=>h) fun h=>by simp only[ke]at h;exact h
  simp only[wx]at h;split at h
  ·rename_i i s hb;refine wpIn_block (ih hok F n hF hnb w0 S0 L Z0 G0 n0 st s (.exit i) a w _ hn0 hb hs fun a' w' hs'=>?_);unfold Exit.inBlock;split at h
   ·rename_i hi;injection h with h
    injection h with e1 e2;subst e1;subst e2;simp[hi,hQ a' w' hs']
   ·rename_i hi;injection h with h
    injection h with e1 e2;subst e1;subst e2;simp[hi,hQ a' w' hs']
  ·rename_i r hr;refine wpIn_block (ih hok F n hF hnb w0 S0 L Z0 G0 n0 st st' e a w _ hn0 h hs fun a' w' hs'=>?_);have:=hQ a' w' hs';cases e<;>first
    |exact this
    |exact(hr _ _ h).elim
 |loop b ih=>
  intro hok F n hF hno w0 S0 L Z0 G0 n0 st st' e a w Q hn0 h hs hQ;simp only[xC]at hok;have hnb:F=Fence.wide\/ke b=true:=hno.imp (fun h=>h) fun h=>by simp only[ke]at h;exact h
  simp only[wx]at h;obtain⟨m,hm'⟩:=Ye h;refine wpIn_loop_rounds m ?_;clear h
  induction m generalizing st a w with
  |zero=>simp[iter]at hm'
  |succ m ihn=>
   rw[roundsIn_succ];simp only[iter]at hm';split at hm'
   ·rename_i s hb;exact ih hok F n hF hnb w0 S0 L Z0 G0 n0 st s .normal a w _ hn0 hb hs fun a' w' hs'=>ihn s a' w' hs' hm'
   ·rename_i r hr;refine ih hok F n hF hnb w0 S0 L Z0 G0 n0 st st' e a w _ hn0 hm' hs fun a' w' hs'=>?_
    have:=hQ a' w' hs';cases e<;>first
     |exact this
     |exact(hr _ hm').elim
 |rangeFunc f ps x y ihx ihy=>
  intro hok F n hF hno w0 S0 L Z0 G0 n0 st st' e a w Q hn0 h hs hQ;obtain rfl:F=Fence.wide:=hno.resolve_right (by simp[ke]);simp only[xC,zH]at hok;obtain⟨⟨⟨⟨hps,hnx⟩,hny⟩,hox⟩,hoy⟩:=hok;simp only[wx]at h;split at h
  case h_2=>cases h
  rename_i p g cap hpl hfg;split at h
  case h_2=>cases h
  rename_i it hIt;split at h
  case h_2=>cases h
  rename_i xs Y1 hx;split at h
  case h_2=>cases h
  rename_i e0 Y2 OD hro;injection h with h
  injection h with e1 e2;subst e1;subst e2;obtain⟨S,G,hS⟩:=hs;obtain⟨⟨gfn,gf1,gf2,gf3⟩,hitS⟩:=hit g it hIt;obtain⟨us,rfl,hlit,hsub,hrun⟩:=hitS cap st.Y st.Z _ Y1 hx;obtain⟨aZ,vs,ev,l1,l2,r1,r2⟩:=(Q4 hS.xO hfg).DW;obtain rfl:aZ=#[]:=by simpa using l1.symm
  obtain⟨B,hB,hcalls⟩:=hrun w S G vs.toList hS.inv ⟨by simpa using l2,fun j pv u hj hu=>r2 j pv u hj (by simpa using hu)⟩;have hBlt:∀b,B b->b<w.heap.size:=fun b hb=>by obtain⟨id,blk,h1,rfl⟩:=(hB b hb).1;exact(hS.inv.live id blk h1).lt
  have hpN:p<N:=by have:=cn.1 hps p (by rw[<-Array.mem_toList_iff,hpl];simp);simpa using this
  have hps1:ps=#[p]:=by apply Array.toList_inj.1;rw[hpl]
  subst hps1;refine wpIn_rangeFunc fun fn hfn=>?_
  obtain⟨rec,hrec⟩:∃rec:LoopState->Option Code->Loop,rec=fun s pe=>{state:=s,pending:=pe,fn,tmps:=a.tmps,params:=#[p],assign:=x,body:=y,defers:=w.heap.size}:=⟨_,rfl⟩
  obtain⟨W1,hW1⟩:=exI ((w.alloc (.deferred (some []))).alloc (.loop (rec .ready none)));have hL1:W1.heap[w.heap.size+1]?=some (.loop (rec .ready none)):=by rw[<-hW1];have:=World.alloc_heap_new (w.alloc (.deferred (some []))) (.loop (rec .ready none));rwa [World.size_alloc]at this
  have hK1:W1.heap[w.heap.size]?=some (.deferred (some [])):=by rw[<-hW1];exact(Below.heap_alloc _ _ _ (by simp)).trans (World.alloc_heap_new w _)
  have hsz1:W1.heap.size=w.heap.size+2:=by rw[<-hW1];simp
  have hold1:∀b,b<w.heap.size->W1.heap[b]?=w.heap[b]?:=fun b hb=>by rw[<-hW1];exact(Below.heap_alloc _ _ _ (by simp;omega)).trans (Below.heap_alloc w _ b hb)
  have fr1:Fr dr w (fun _=>False) W1:=⟨by rw[<-hW1];rfl,by rw[<-hW1];rfl,by rw[<-hW1];rfl,by omega,fun _=>by rw[<-hW1];exact zl _,fun k hk _=>hold1 k hk⟩;obtain⟨l,hl⟩:∃l,l=w.heap.size+1:=⟨_,rfl⟩;obtain⟨a1,ha1⟩:∃a1:Act,a1={a with defers:=mP w.heap.size::a.defers}:=⟨_,rfl⟩;have hfreshAway:∀b,w.heap.size<=b->cp S G Y1 b:=fun b hb=>⟨fun hs=>by have:=hS.inv.st b hs;omega,fun id blk hid he=>by have:=(hS.inv.live id blk (hsub id blk hid)).lt;omega⟩
  have hk0:Inv C.P W1 S G Y1 st.Z:=by have h1:Inv C.P w S G Y1 st.Z:=⟨hS.inv.st,fun id b hb=>hS.inv.top id b (hsub id b hb),fun id b hb=>hS.inv.live id b (hsub id b hb),fun id b hb=>hS.inv.apart id b (hsub id b hb),fun id id' b b' hb hb' he=>hS.inv.inj id id' b b' (hsub id b hb) (hsub id' b' hb') he,hS.inv.oa⟩;exact h1.frame fr1 (fun _ h=>h.elim)
  have hsim1:YT dr C.P w0 S0 L N Z0 G0 n0 ⟨st.U,Y1,st.Z⟩ S G a1 W1:=by
   subst ha1;obtain⟨hd0,Ds,hd1,hd2,hd3⟩:=hS.defers;refine⟨hk0,fun t=>(hS.xO t).mono (fun b hb=>⟨hb,hold1 b (hS.inv.st b hb)⟩) (zl _) (fun _ _=>rfl),hS.size,⟨by omega,w.heap.size::Ds,by simp[hd1],?_,?_⟩,hS.s0,hS.s1,fun id b hb=>hS.own id b (hsub id b hb),hS.fr.trans fr1 (fun _ _ h=>h.elim),hS.up,hS.loc⟩
   ·refine List.nodup_cons.2 ⟨fun hm=>?_,hd2⟩;have:=(qE.1 (hd3 _ hm).2.1).1;omega
   ·intro D hD;rcases zA.1 hD with rfl|hD
    ·exact⟨hd0,hK1,(hfreshAway _ (zl _))⟩
    ·obtain⟨g1,g2,g4,g3⟩:=hd3 D hD;exact⟨g1,(hold1 D (qE.1 g2).1).trans g2,g4,fun id b hb=>g3 id b (hsub id b hb)⟩
  have hsmall:w0.heap.size<=w.heap.size:=hS.fr.size;have hBL:∀b,B b->L b\/w0.heap.size<=b:=fun b hb=>by obtain⟨id,blk,h1,rfl⟩:=(hB b hb).1;exact hS.own id blk h1
  have hmk:∀D,mP D∈a1.defers->¬B D/\¬D=l:=by
   intro D hD;subst ha1;rcases zA.1 hD with h1|h1
   ·obtain rfl:=Eo h1;exact⟨fun hb=>by have:=hBlt _ hb;omega,by omega⟩
   ·obtain⟨g1,g2,_,g3⟩:=hS.defers.at h1;have:=(qE.1 g2).1;refine⟨fun hb=>?_,by omega⟩;obtain⟨id,blk,h2,h3⟩:=(hB D hb).1;exact g3 id blk h2 h3
  have hlB:¬B l:=fun hb=>by have:=hBlt l hb;omega
  obtain⟨Good,hGood⟩:∃Good:Hp->Nat->(Nat->Prop)->(Nat->GI)->LoopState->Option Code->World->Prop,Good=fun Y Z S G s pe W=>
    YT dr C.P w0 S0 L N Z0 G0 n0 ⟨st.U,Y,Z⟩ S G a1 W/\(∀b,B b->cp S G Y b)/\cp S G Y l/\W.heap[l]?=some (.loop (rec s pe))/\w.heap.size<=W.heap.size:=⟨_,rfl⟩
  have good_frame:∀{Y Z S G s pe W W'},Good Y Z S G s pe W->Fr dr W B W'->Good Y Z S G s pe W':=by intro Y Z S G s pe W W' hg fr;subst hGood;obtain⟨g1,g2,g3,g4,g5⟩:=hg;exact⟨g1.frame fr g2 hBL (fun D hD=>(hmk D hD).1),g2,g3,(fr.block l (qE.1 g4).1 hlB).trans g4,zG g5 fr.size⟩
  have good_put:∀{Y Z S G s pe W} (s':LoopState) (pe':Option Code),Good Y Z S G s pe W->Good Y Z S G s' pe' (W.putObj l (.loop (rec s' pe'))):=by intro Y Z S G s pe W s' pe' hg;subst hGood;obtain⟨g1,g2,g3,g4,g5⟩:=hg;refine⟨g1.frame (IY _ (fun b=>b=l) rfl) (fun b hb=>hb ▸ g3) (fun b hb=>.inr (by omega)) (fun D hD=>(hmk D hD).2),g2,g3,World.putObj_heap_same (qE.1 g4).1,by simpa using g5⟩
  have bp:∀{Y Z S G s pe W Y' Z' S' G' W'},Good Y Z S G s pe W->vA dr C.P Y Z S G W Y' Z' S' G' W'->Good Y' Z' S' G' s pe W'/\∀b,B b->W'.heap[b]?=W.heap[b]?:=by intro Y Z S G s pe W Y' Z' S' G' W' hg k;subst hGood;obtain⟨g1,g2,g3,g4,g5⟩:=hg;have hll:=(qE.1 g4).1;refine⟨⟨g1.step (dst:=none) k kv (fun _ h=>by cases h),fun b hb=>(g2 b hb).step k (jF (hBlt b hb) g5),g3.step k hll,(g3.same k hll).trans g4,zG g5 k.fr.size⟩,fun b hb=>(g2 b hb).same k (jF (hBlt b hb) g5)⟩
  obtain⟨J,hJ⟩:∃J:List Value->World->Prop,J=fun pre W=>∃Y Z S G,Good Y Z S G .ready none W/\VL (wx C x) (wx C y) st.U p ((us.drop pre.length).map O.v) Y Z=some (e0,Y2,OD):=⟨_,rfl⟩
  obtain⟨Jx,hJx⟩:∃Jx:List Value->World->Prop,Jx=fun _ W=>∃c S G,Good Y2 OD S G .done (some c) W/\(c=.ret/\e0=.ret\/∃i,c=.exit i/\e0=.exit i):=⟨_,rfl⟩
  have hJ0:J [] W1:=by subst hJ;refine⟨Y1,st.Z,S,G,?_,hro⟩;subst hGood;exact⟨hsim1,fun b hb=>(hB b hb).2,hfreshAway l (by omega),by rw[hl];exact hL1,by omega⟩
  have gf2':¬gfn.name= "runtime.NumGoroutine":=by simpa using gf2
  have gf3':¬gfn.body=none:=by intro h;simp[h]at gf3
  refine⟨l,[mP w.heap.size],W1,{target:=.fn (.func g) vs,args:=#[.func (.yield l) #[] #[]]},W1,g,#[.func (.yield l) #[] #[]]++vs,W1,?_,?_,?_,?_,(fun h=>by simp[Fence.wide]at h),?_⟩
  ·rw[hl,<-hW1,hrec];exact run_enterLoop_outer _ _ _ _ _
  ·simp only[resolve,ev];simp[go_sem]
  ·intro f' _;trivial
  ·simp[invoke,callFunc,gf1,gf2',gf3']
  ·have hround:∀pre u W,J pre W->us[pre.length]?=some u->YieldAt Fence.wide 0 C.P l #[u] W fun e W'=>(e=.returned (.bool true)/\J (pre++[u]) W'/\(∀b,B b->W'.heap[b]?=W.heap[b]?)/\W.heap.size<=W'.heap.size)\/(e=.returned (.bool false)/\Jx (pre++[u]) W'):=by
    intro pre u W hj hu;subst hJ;obtain⟨Y,Z,S1,G1,hg,hr⟩:=hj;obtain⟨hlt,hue⟩:=zn.1 hu;rw[zc hlt,hue]at hr;simp only[wD,VL]at hr;split at hr
    case h_2=>cases hr
    rename_i s1 hfx;have hg1:=hg;rw[hGood]at hg1;obtain⟨g1,g2,g3,g4,g5⟩:=hg1;have hy:=run_yield (P:=C.P) (args:=#[u]) g4 (by rw[hrec];rfl);rw[hrec]at hy;refine⟨fn,_,x,y,hy,roundIn_of_wpIn (F:=Fence.wide) trivial ?_⟩;have hin:=(g1.step (dst:=some p) (u:=u) (.refl g1.inv) (zct (hlit u (zM hu))) (fun d hd=>by cases hd;exact hpN)).inner;have htm:(#[p].zip #[u]).foldl (fun tmps (t,a)=>tmps.setIfInBounds t a) a.tmps=a.tmps.setIfInBounds p u:=by simp
    rw[ha1]at hin;rw[htm];refine ihx hox (Fence.wide.inRound l) 0 (.inr ⟨l,rfl⟩) (.inr hnx) W S1 (vo Y G1) Z G1 0 _ s1 .normal _ W _ (kM _) hfx ⟨S1,G1,hin⟩ fun a2 w2 hs2=>?_
    obtain⟨S2,G2,h2⟩:=hs2;obtain⟨hg2,hb2⟩:=bp hg h2.stp;have hl2:w2.heap[l]?=some (.loop (rec .ready none)):=by rw[hGood]at hg2;exact hg2.2.2.2.1
    have hbr:=run_beginRound (P:=C.P) hl2 (by rw[hrec]);have hrb:({rec .ready none with state:=.busy}:Loop)=rec .busy none:=by rw[hrec]
    rw[hrb]at hbr;refine⟨_,hbr,?_⟩;have hg3:=good_put .busy none hg2;have hal2:cp S2 G2 s1.Y l:=by rw[hGood]at hg2;exact hg2.2.2.1
    have h3:=h2.zeS (IY (.loop (rec .busy none)) (fun b=>b=l) rfl) (fun b hb=>hb ▸ hal2) (fun D hD e=>by have:=(h2.defers.at hD).2.1;rw[e,hl2]at this;cases this)
    cases hfy:wx C y s1 with
    |none=>rw[hfy]at hr;cases hr
    |some r2=>
     obtain⟨e2,s2⟩:=r2;rw[hfy]at hr;refine ihy hoy (Fence.wide.inRound l) 0 (.inr ⟨l,rfl⟩) (.inr hny) _ S2 (vo s1.Y G2) s1.Z G2 0 s1 s2 e2 a2 _ _ (kM _) hfy ⟨S2,G2,h3⟩ fun a4 w4 hs4=>?_
     obtain⟨S4,G4,h4⟩:=hs4;obtain⟨hg4,hb4⟩:=bp hg3 h4.stp;have hl4:w4.heap[l]?=some (.loop (rec .busy none)):=by rw[hGood]at hg4;exact hg4.2.2.2.1
     have hbb:∀b,B b->w4.heap[b]?=W.heap[b]?:=fun b hb=>(hb4 b hb).trans ((zk2 (k:=b) (r:=l) (fun e=>hlB (by rw[<-e];exact hb))).trans (hb2 b hb))
     have hsz:W.heap.size<=w4.heap.size:=by have q1:=h2.fr.size;have q2:=h4.fr.size;rw[World.putObj_size]at q2;exact zG q1 q2
     cases e2 with
     |normal=>
      have he:=run_endRound (P:=C.P) none hl4;have hrr:({rec .busy none with state:=if(none:Option Code).isNone then .ready else .done,pending:=none}:Loop)=rec .ready none:=by rw[hrec];rfl
      rw[hrr]at he;refine⟨_,_,he,.inl ⟨rfl,⟨s2.Y,s2.Z,S4,G4,good_put .ready none hg4,by simpa using hr⟩,fun b hb=>(zk2 (k:=b) (r:=l) (fun e=>hlB (by rw[<-e];exact hb))).trans (hbb b hb),by simpa using hsz⟩⟩
     |ret=>
      have he:=run_endRound (P:=C.P) (some .ret) hl4;have hrr:({rec .busy none with state:=if(some Code.ret:Option Code).isNone then .ready else .done,pending:=some .ret}:Loop)=rec .done (some .ret):=by rw[hrec];rfl
      rw[hrr]at he;simp only at hr;injection hr with hr
      injection hr with r1 hr;injection hr with r2 r3;subst r1;subst r2;subst r3;refine⟨_,_,he,.inr ⟨rfl,?_⟩⟩;rw[hJx];exact⟨.ret,S4,G4,good_put .done (some .ret) hg4,.inl ⟨rfl,rfl⟩⟩
     |exit i=>
      have he:=run_endRound (P:=C.P) (some (.exit i)) hl4;have hrr:({rec .busy none with state:=if(some (Code.exit i):Option Code).isNone then .ready else .done,pending:=some (.exit i)}:Loop)=rec .done (some (.exit i)):=by rw[hrec];rfl
      rw[hrr]at he;simp only at hr;injection hr with hr
      injection hr with r1 hr;injection hr with r2 r3;subst r1;subst r2;subst r3;refine⟨_,_,he,.inr ⟨rfl,?_⟩⟩;rw[hJx];exact⟨.exit i,S4,G4,good_put .done (some (.exit i)) hg4,.inr ⟨i,rfl,rfl⟩⟩
     |_=>cases hr
   have hcl:=hcalls 0 l J Jx (fun pre W W' hj fr=>by
     subst hJ;obtain⟨Y,Z,S1,G1,hg,hr⟩:=hj;exact⟨Y,Z,S1,G1,good_frame hg fr,hr⟩) (fun pre W W' hj fr=>by
     subst hJx;obtain⟨c,S1,G1,hg,hr⟩:=hj;exact⟨c,S1,G1,good_frame hg fr,hr⟩) (fun pre W hj=>by
     subst hJ;obtain⟨Y,Z,S1,G1,hg,hr⟩:=hj;rw[hGood]at hg;exact hg.1.inv.oa.mono fun b hb=>⟨hg.1.inv.st b hb,rfl⟩) hround W1 hJ0 (fun b hb=>hold1 b (hBlt b hb)) (by omega)
   refine sM.2 ((sM.1 hcl).mono ?_);rintro e W2 ⟨⟨v,rfl⟩,hj|⟨pre,hj⟩⟩
   ·rw[hJ]at hj;obtain⟨Y,Z,S1,G1,hg,hr⟩:=hj;rw[zo]at hr;simp only[XD,VL]at hr;injection hr with hr
    injection hr with r1 hr;injection hr with r2 r3;subst r1;subst r2;subst r3;have hl2:W2.heap[l]?=some (.loop (rec .ready none)):=by rw[hGood]at hg;exact hg.2.2.2.1
    have he:=run_endLoop (P:=C.P) hl2 (by rw[hrec];simp);have hrr:({rec .ready none with state:=.exhausted}:Loop)=rec .exhausted none:=by rw[hrec]
    have hrp:(rec .ready none).pending=none:=by rw[hrec]
    rw[hrr,hrp]at he;have hg':=good_put .exhausted none hg;rw[hGood]at hg';have hq:=hQ a1 _ ⟨S1,G1,hg'.1⟩;rw[ha1]at hq;exact⟨none,_,he,hq⟩
   ·rw[hJx]at hj;obtain⟨c,S1,G1,hg,hc⟩:=hj;have hl2:W2.heap[l]?=some (.loop (rec .done (some c))):=by rw[hGood]at hg;exact hg.2.2.2.1
    have he:=run_endLoop (P:=C.P) hl2 (by rw[hrec];simp);have hrr:({rec .done (some c)with state:=.exhausted}:Loop)=rec .exhausted (some c):=by rw[hrec]
    have hrp:(rec .done (some c)).pending=some c:=by rw[hrec]
    rw[hrr,hrp]at he;have hg':=good_put .exhausted (some c) hg;rw[hGood]at hg';have hq:=hQ a1 _ ⟨S1,G1,hg'.1⟩;rw[ha1]at hq;refine⟨some c,_,he,?_⟩;rcases hc with⟨rfl,rfl⟩|⟨i,rfl,rfl⟩
    ·exact wpIn_ret hq
    ·exact wpIn_exit hq
 |exit id=>
  intro _ F n hF _ w0 S0 L Z0 G0 n0 st st' e a w Q _ h hs hQ;simp only[wx]at h;injection h with h
  injection h with e1 e2;subst e1;subst e2;exact wpIn_exit (hQ a w hs)
 |scope b _=>intro _ F n hF _ w0 S0 L Z0 G0 n0 st st' e a w Q _ h;simp[wx]at h
 |label l=>
  intro _ F n hF _ w0 S0 L Z0 G0 n0 st st' e a w Q _ h hs hQ;simp only[wx]at h;injection h with h
  injection h with e1 e2;subst e1;subst e2;exact wpIn_label (hQ a w hs)
 |goto l=>intro _ F n hF _ w0 S0 L Z0 G0 n0 st st' e a w Q _ h;simp[wx]at h
 |ret=>
  intro _ F n hF _ w0 S0 L Z0 G0 n0 st st' e a w Q _ h hs hQ;simp only[wx]at h;injection h with h
  injection h with e1 e2;subst e1;subst e2;exact wpIn_ret (hQ a w hs)
 |refuse why=>intro _ F n hF _ w0 S0 L Z0 G0 n0 st st' e a w Q _ h;simp[wx]at h
end
variable{dr:Prop}
section
variable{C:Ctx}{pf:FuncId->Bool}
theorem KL{w:World}{S:Nat->Prop}{G:Nat->GI}{st:St}{a:Act}(hi:Inv C.P w S G st.Y st.Z)(hs:∀t,qx w S G st.Z (st.U t) (a.tmps.getD t undef)) :
  ∀{l:List ResultVar} {xs:zb},yF (l.map (Jn C.P st))=some xs->∃vs,(l.mapM (m:=Sem) fun r=>match r with
   | .tmp t=>pure (a.tmps.getD t undef)
   | .cell p t=>do loadVar t (<-asAddr (a.tmps.getD p undef))).run C.P w=.ok vs w/\Zip (qx w S G st.Z) xs vs
 |[],xs,h=>by
  simp only[XD,yF]at h;injection h with h
  subst h;exact⟨[],by simp,.nil⟩
 |r::l,xs,h=>by
  simp only[wD]at h;cases d:Jn C.P st r with
  |none=>rw[d]at h;simp[yF]at h
  |some p=>
   rw[d]at h;simp only[yF]at h;cases B:yF (l.map (Jn C.P st))with
   |none=>rw[B]at h;simp at h
   |some ys=>
    rw[B]at h;simp at h;subst h;obtain⟨vs,I,J⟩:=KL hi hs B;cases r with
    |tmp t=>
     simp only[Jn]at d;injection d with d
     subst d;refine⟨a.tmps.getD t undef::vs,?_,.cons (hs t) J⟩;simp only[List.mapM_cons,xL,YQ,vi,I]
    |cell q t=>
     simp only[Jn]at d;obtain⟨v,w',S',G',M,k,hx⟩:=uw (dr:=True) hi d (hs q);have y:=hs q;have D:∃v,(do loadVar t (<-asAddr (a.tmps.getD q undef)):Sem Value).run C.P w=.ok v w/\qx w S G st.Z p v:=by
      unfold Zm at d;split at d
      ·rename_i cs f;rw[f]at y;have E:=y.XF;generalize a.tmps.getD q undef=u at *;cases E with
       |ptr us N Q=>obtain⟨v,z,n⟩:=bn (G:=G) (Z:=st.Z) (w:=w) (S:=S) d _ us (fun j A K=>⟨(N j A K).2,.c (Q j A K)⟩);exact⟨v,by simp[asAddr,z],n⟩
      ·rename_i id i j f;rw[f]at y;have F:=y.gC;obtain⟨hid,R⟩:=y.JC;rw[R]at M⊢;split at d
       ·rename_i b T;split at d
        ·rename_i c E;obtain⟨o,W,h4,X⟩:=(hi.live id b T).row F;have x:∀k:Nat,w.cell? ((⟨(G id).g,i*(G id).s+j,none⟩:Addr).add k)=o[i*(G id).s+j+k]?:=by intro k;rw[kq,zga w _ _ o _ _ W]
         obtain⟨v,z,n⟩:=bn (G:=G) (Z:=st.Z) (w:=w) (S:=S) d ⟨(G id).g,i*(G id).s+j,none⟩ (fun k=>(o[i*(G id).s+j+k]?).getD undef) (fun k A L=>by
          rw[wc]at L;obtain⟨u,h6,h7⟩:=X i (j+k) c A E L;rw[x];have e:i*(G id).s+j+k=i*(G id).s+(j+k):=by omega
          rw[e,h6];exact⟨rfl,h7.2.1⟩)
         exact⟨v,by simp[asAddr,z],n⟩
        ·cases d
       ·cases d
      ·cases d
     obtain⟨v,z,H⟩:=D;refine⟨v::vs,?_,.cons H J⟩;simp only[List.mapM_cons,xL,z,vi,I,YQ]
theorem VT{P:Program}{fn:Func}{a:Array Value}{R:Ending->World->Prop}:∀(c:List Nat) (w:World),c.Nodup->(∀D∈c,w.heap[D]?=some (.deferred (some [])))->(∀f,Fr dr w (fun b=>b∈c) f->LeavesIn Fence.wide 0 P fn a R [] .returning f)->LeavesInM Fence.wide 0 P fn a R (c.map mP) .returning w
 |[],w,_,_,h=>h w (Fr.refl _ _)
 |D::c,w,i,hd,h=>by
  obtain⟨j,l⟩:=List.nodup_cons.1 i;refine⟨by simp,.inl ⟨D,_,rfl,run_takeDeferred (hd D (by simp)),VT c _ l (fun g d=>?_) fun f m=>h f ?_⟩⟩
  ·exact(zk2 (k:=g) (r:=D) fun e=>j (by rw[<-e];exact d)).trans (hd g (by simp[d]))
  ·exact(IY (.deferred none) (fun b=>b∈D::c) (by simp)).trans m (fun b _ n=>by simp[n])
theorem oL(Q:∀g a,C.Γ g=some a->xB dr C.P g a)(R:∀g a,pf g=true->C.Γ g=some a->Yx a)(T:∀g a,C.bk g=true->C.Γ g=some a->Yh a)(hit:∀g it,C.it g=some it->Ep dr C.P g it)(hm:C.P.follows .mixedOrders=true)
  {f:FuncId} {fn:Func} {code:Code} (hf:C.P.funcs[f]?=some fn) (k:fn.body=some code) (W:xC pf C.dyn C.S6 C.bk fn.ntmps code=true)
  {args:zb} {Y N:Hp} {Z E:Nat} {x:O} (h:kj C fn args Y Z=some (x,N,E)) {w:World} {S:Nat->Prop} {G:Nat->GI} {vs:List Value} (hi:Inv C.P w S G Y Z) (X:Zip (qx w S G Z) args vs) (hn:args.length<=fn.ntmps) :
  Calls C.P f vs.toArray w fun e w'=>∃v S' G',e=.returned v/\vA dr C.P Y Z S G w N E S' G' w'/\qx w' S' G' E x v:=by
 unfold kj at h;simp only[k]at h;refine sM.1 (callsIn_of_wp_marks (n:=0) hf k trivial ?_);have H:nF dr C.P w S (vo Y G) fn.ntmps Z G w.heap.size ⟨vn args,Y,Z⟩ {tmps:=vs.toArray++Array.replicate (fn.ntmps-vs.toArray.size) undef,defers:=[]} w:=by
  refine⟨S,G,hi,fun t=>?_,?_,.nil (zl _),fun _ h=>h,fun _ h=>.inl h,fun id b k=>.inl ⟨id,b,k,rfl⟩,Fr.refl _ _,zl _,fun _ _=>rfl⟩
  ·have hvl:vs.length=args.length:=X.1.symm;unfold vn;by_cases ht:t<args.length
   ·have p:args[t]?=some args[t]:=zq ht;have l:vs[t]?=some (vs[t]'(by omega)):=zq (by omega);have h3:=X.2 t _ _ p l;have h4:(vs.toArray++Array.replicate (fn.ntmps-vs.toArray.size) undef)[t]?=vs[t]?:=by rw[vZ (by simpa using(by omega:t<vs.length))];simp
    simp only[p,YS];rw[KF,h4,l];exact h3
   ·have p:args[t]?=none:=wP (by omega);have h4:(vs.toArray++Array.replicate (fn.ntmps-vs.toArray.size) undef).getD t undef=undef:=by rw[KF,Array.getElem?_append_right (by simpa using(by omega:vs.length<=t)),Array.getElem?_replicate];split<;>rfl
    simp only[p,Option.getD_none];rw[h4];exact kv
  ·have hvl:vs.length=args.length:=X.1.symm;simp;omega
 have I:∀(e:Exit) (st:St),(e=.normal\/e=.ret)->wx C code ⟨vn args,Y,Z⟩=some (e,st)->(ZC C.P fn st).map (fun x=>(x,st.Y,st.Z))=some (x,N,E) ->
   code.wpIn Fence.wide 0 C.P (bodyPostM Fence.wide 0 C.P fn fun e w'=>∃v S' G',e=.returned v/\vA dr C.P Y Z S G w N E S' G' w'/\qx w' S' G' E x v) {tmps:=vs.toArray++Array.replicate (fn.ntmps-vs.toArray.size) undef,defers:=[]} w:=by
  intro e st he m hr;obtain⟨r,d,s⟩:=qh hr;injection s with e1 s
  injection s with e2 e3;subst e1;subst e2;subst e3;refine oK Q R T hit hm code W Fence.wide 0 (.inl rfl) (.inl rfl) w S (vo Y G) Z G w.heap.size _ st e _ w _ (zl _) m H fun F w1 hs'=>?_
  obtain⟨S',G',c⟩:=hs';obtain⟨hd0,Ds,hd1,hd2,o⟩:=c.defers;have J:LeavesInM Fence.wide 0 C.P fn F.tmps (fun e w'=>∃v S' G',e=.returned v/\vA dr C.P Y Z S G w st.Y st.Z S' G' w'/\qx w' S' G' st.Z r v) F.defers .returning w1:=by
   rw[hd1];refine VT (dr:=dr) Ds w1 hd2 (fun D hD=>(o D hD).2.1) fun w' A=>?_
   have K:∀b,b∈Ds->cp S' G' st.Y b:=fun b k=>⟨(o b k).2.2.1,(o b k).2.2.2⟩
   have q:=c.inv.frame A K;have SO:∀t,qx w' S' G' st.Z (st.U t) (F.tmps.getD t undef):=fun t=>(c.xO t).mono (fun b k=>⟨k,A.block b (c.inv.st b k) fun hb'=>(K b hb').1 k⟩) (zl _) (fun _ _=>rfl)
   have hk:vA dr C.P Y Z S G w st.Y st.Z S' G' w':=⟨q,c.up,c.loc,c.s0,c.s1,c.own,c.fr.trans A fun b k p=>by have:=(o b p).1;omega⟩;have L:∃v,(results fn F.tmps).run C.P w'=.ok v w'/\qx w' S' G' st.Z r v:=by
    unfold ZC at d;have go:∀xs,yF (fn.results.toList.map (Jn C.P st))=some xs->r=(match xs with|[x]=>x|xs=>.wY xs)->∃v,(results fn F.tmps).run C.P w'=.ok v w'/\qx w' S' G' st.Z r v:=by
     intro xs hx i;obtain⟨us,p,l⟩:=KL q SO hx;have M:(results fn F.tmps).run C.P w'=.ok (if h:us.toArray.size=1 then us.toArray[0]else .tuple us.toArray) w':=by unfold results;rw[Array.mapM_eq_mapM_toList];simp only[xL,Sem.run_map];erw [p];rfl
     refine⟨_,M,?_⟩
     match xs,l,i with
     |[],l,i=>rw[l.YU];subst i;exact .wY rfl (by simp)
     |[y],l,i=>obtain⟨u,rfl,hu⟩:=Jr l;subst i;simpa using hu
     |y::z::ys,l,i=>have hl:=l.1;subst i;rw[dif_neg (by simp at hl⊢;omega)];exact .wY (by simpa using hl) (fun j pv u hj hu=>l.2 j pv u hj (by simpa using hu))
    split at d
    ·rename_i y hy;injection d with d
     exact go [y] hy d.symm
    ·rename_i xs B hx;injection d with d
     refine go xs hx ?_;rw[<-d]
     match xs,B with
     |[],_=>rfl
     |[y],B=>exact(B y rfl).elim
     |y::z::ys,_=>rfl
    ·cases d
   obtain⟨v,hv1,hv2⟩:=L;exact⟨v,hv1,v,S',G',rfl,hk,hv2⟩
  rcases he with rfl|rfl
  ·exact J
  ·exact J
 split at h
 ·rename_i st m;exact I _ st (.inl rfl) m h
 ·rename_i st m;exact I _ st (.inr rfl) m h
 ·cases h
end
variable{dr:Prop}
def O.isV:O->Bool
 | .v _=>true
 |_=>false
def O.flat:O->Bool
 | .v _=>true
 | .wY cs=>cs.all O.isV
 |_=>false
def TI(s:Nat):O->O
 | .nil=>.sl s []
 |x=>x
def yP:List Nat->zb->zb
 |s::a,x::l=>TI s x::yP a l
 |_,l=>l
def Bz(x y:O):Prop:=x=y\/(x=.nil/\∃s,y=.sl s [])
def ag:O->O->Prop
 | .wY xs,.wY ys=>xs.length=ys.length/\∀(j:Nat) (x y:O),xs[j]?=some x->ys[j]?=some y->Bz x y
 |x,y=>Bz x y
def zf(a:Bool)(b:List Nat)(F:zb->Option O):AM.Spec:=fun args Y Z=>
 match zv Y args with
 |some (c,Y1)=>match F (yP b c)with
  |some r=>if r.flat=true\/args.all O.noOwn=true then some (r,Y,Z)else if a=true then some (r,Y1,Z)else none
  |none=>none
 |none=>none
def jj(a:List Nat)(F:zb->Option (Option kV)):AM.Spec:=fun args Y Z=>
 match zv Y args with
 |some (c,Y1)=>match F (yP a c)with
  |some none=>some (.nil,Y1,Z)
  |some (some b)=>some (.own Z 0 b.es.length,qR Y1 Z (some b),Z+1)
  |none=>none
 |none=>none
theorem TJ{α:Type}(f:Nat->α){i j:Nat}(h:i≠j)(x y:α):qR (qR f i x) j y=qR (qR f j y) i x:=by
 funext k;unfold qR;by_cases hi:k=i
 ·subst hi;simp[h]
 ·simp[hi]
theorem ah{Y Y1:Hp}{x y:O}{Z:Nat}(f:Y Z=none)(b:Option kV)(h:yf Y x=some (y,Y1)):yf (qR Y Z b) x=some (y,qR Y1 Z b)/\Y1 Z=none:=by
 unfold yf at h;split at h
 ·rename_i id off n;split at h
  ·rename_i j g;have a:id≠Z:=fun e=>by rw[e,f]at g;cases g
   split at h
   ·rename_i i;injection h with h
    injection h with c d;subst c;subst d;refine⟨?_,by rw[wM _ _ _ _ a.symm];exact f⟩;unfold yf;simp only[wM Y Z id b a,g,i,and_self,qA];rw[TJ Y a.symm]
   ·cases h
  ·cases h
 all_goals first
  |(injection h with h;injection h with c d;subst c;subst d;exact⟨rfl,f⟩)
  |(split at h
    ·rename_i i;injection h with h;injection h with c d;subst c;subst d
     exact⟨by unfold yf;simp only[i,and_self,qA],f⟩
    ·cases h)
  |cases h
theorem XP{Z:Nat}(b:Option kV):∀{xs ys:zb} {Y Y1:Hp},Y Z=none->wV Y xs=some (ys,Y1)->wV (qR Y Z b) xs=some (ys,qR Y1 Z b)/\Y1 Z=none
 |[],ys,Y,Y1,a,h=>by
  simp only[wV]at h;injection h with h;injection h with c d;subst c;subst d
  exact⟨rfl,a⟩
 |x::l,ys,Y,Y1,a,h=>by
  simp only[wV]at h;split at h
  ·rename_i y Y2 e;split at h
   ·rename_i r f g;injection h with h;injection h with c d;subst c;subst d
    obtain⟨i,j⟩:=ah a b e;obtain⟨k,m⟩:=XP b j g;exact⟨by simp only[wV,i,k],m⟩
   ·cases h
  ·cases h
theorem s8{Y Y1:Hp}{x y:O}{Z:Nat}(a:Y Z=none)(b:Option kV)(h:qH Y x=some (y,Y1)):qH (qR Y Z b) x=some (y,qR Y1 Z b)/\Y1 Z=none:=by
 cases x with
 |agg cs=>
  simp only[qH]at h⊢;split at h
  ·rename_i l i c;injection h with h;injection h with d e;subst d;subst e
   obtain⟨f,g⟩:=XP b a c;exact⟨by simp only[f],g⟩
  ·cases h
 |_=>simp only[qH]at h⊢;exact ah a b h
theorem ziv{Z:Nat}(b:Option kV):∀{xs ys:zb} {Y Y1:Hp},Y Z=none->zv Y xs=some (ys,Y1)->zv (qR Y Z b) xs=some (ys,qR Y1 Z b)/\Y1 Z=none
 |[],ys,Y,Y1,a,h=>by
  simp only[zv]at h;injection h with h;injection h with c d;subst c;subst d
  exact⟨rfl,a⟩
 |x::l,ys,Y,Y1,a,h=>by
  simp only[zv]at h;split at h
  ·rename_i y Y2 e;split at h
   ·rename_i r f g;injection h with h;injection h with c d;subst c;subst d
    obtain⟨i,j⟩:=s8 a b e;obtain⟨k,m⟩:=ziv b j g;exact⟨by simp only[zv,i,k],m⟩
   ·cases h
  ·cases h
theorem zu(a:List Nat)(F:zb->Option O):Yx (zf false a F):=by
 intro args Y Z r k l h;unfold zf at h;split at h
 ·rename_i c Y1 d;split at h
  ·rename_i m hF;split at h
   ·rename_i e;injection h with h
    injection h with f h;injection h with g i;subst f;refine⟨⟨g.symm,i.symm⟩,fun b j=>?_⟩;unfold zf;simp only[(ziv b j d).1,hF];rw[zd e]
   ·simp at h
  ·cases h
 ·cases h
structure gD (C:Ctx) (pf:FuncId->Bool) (f:FuncId) (fn:Func) (code:Code):Prop where
 func:C.P.funcs[f]?=some fn
 name:(fn.name== "runtime.NumGoroutine")=false
 body:fn.body=some code
 ok:xC pf C.dyn C.S6 C.bk fn.ntmps code=true
structure Qn (dr:Prop) (C:Ctx) (pf:FuncId->Bool):Prop where
 spec:∀g spec,C.Γ g=some spec->xB dr C.P g spec
 quiet:∀g spec,pf g=true->C.Γ g=some spec->Yx spec
 mixed:C.P.follows .mixedOrders=true
 box:∀g spec,C.bk g=true->C.Γ g=some spec->Yh spec:=by intro _ _ h;cases h
 iter:∀g it,C.it g=some it->Ep dr C.P g it:=by intro _ _ h;cases h
abbrev Good:=Qn True
section
variable{C:Ctx}{pf:FuncId->Bool}{f:FuncId}{fn:Func}{code:Code}
theorem vA.outer{P:Program}{Y:Hp}{Z:Nat}{S:Nat->Prop}{G:Nat->GI}{w w':World}(h:Inv P w S G Y Z)(k:Fr dr w (fun _=>False) w') :
  vA dr P Y Z S G w Y Z (fun b=>S b\/(w.heap.size<=b/\b<w'.heap.size)) G w':=by
 have c:∀b,b<w.heap.size->w'.heap[b]?=w.heap[b]?:=fun b a=>k.block b a fun h=>h
 have d:∀b,S b->(S b\/(w.heap.size<=b/\b<w'.heap.size))/\w'.heap[b]?=w.heap[b]?:=fun b a=>⟨.inl a,c b (h.st b a)⟩
 refine⟨⟨fun b a=>?_,h.top,fun id b a=>(h.live id b a).mono d (zl _) (fun _ _=>rfl) (c _ (h.live id b a).lt),fun id b a hs=>?_,h.inj,h.oa.mono d⟩,zl _,fun _ _=>rfl,fun _ a=>.inl a,fun b a=>?_,fun id b a=>.inl ⟨id,b,a,rfl⟩,⟨k.os,k.tape,k.output,k.size,k.drawn,fun b a _=>c b a⟩⟩
 ·rcases a with a|a
  ·exact jF (h.st b a) k.size
  ·exact a.2
 ·rcases hs with hs|hs
  ·exact h.apart id b a hs
  ·have:=(h.live id b a).lt;omega
 ·rcases a with a|a
  ·exact .inl a
  ·exact .inr (.inr a.1)
theorem gU{P:Program}{w:World}{S:Nat->Prop}(G:Nat->GI)(a:∀b,S b->b<w.heap.size)(c:OB P w S):Inv P w S G (fun _=>none) 0:=
 ⟨a,fun _ _ h=>(by cases h),fun _ _ h=>(by cases h),fun _ _ h=>(by cases h),fun _ _ _ _ h=>(by cases h),c⟩
theorem WQ{G:Nat->GI}{b:Nat}(h:vo (fun _=>none) G b):False:=by obtain⟨_,_,h,_⟩:=h;cases h
theorem Zip.closed{w:World}{S:Nat->Prop}{G:Nat->GI}{Z:Nat}{xs:zb}{us:List Value}(h:Zip (yb w S) xs us):Zip (qx w S G Z) xs us:=h.imp fun _ _ h=>.c h
theorem oM{w w':World}{S S':Nat->Prop}{r:O}{v:Value}(h:yb w S r v)(a:r.flat=true):yb w' S' r v:=by
 cases h with
 |v h=>exact .v h
 |wY b e=>
  refine .wY b fun j c u d f=>?_
  simp only[O.flat,ql]at a;have:=a c (zM d);have g:=e j c u d f;cases c<;>simp[O.isV]at this;obtain⟨rfl,b⟩:=g.yq;exact .v b
 |_=>simp[O.flat]at a
theorem Qx(c:Qn dr C pf)(i:gD C pf f fn code){args:zb}{x:O}{Y1:Hp}{a:Nat}(h:kj C fn args (fun _=>none) 0=some (x,Y1,a))(l:args.length<=fn.ntmps)
  {w:World} {S:Nat->Prop} {vs:List Value} (m:∀b,S b->b<w.heap.size) (j:OB C.P w S) (n:Zip (yb w S) args vs) :
  Calls C.P f vs.toArray w fun e w'=>∃v S' G',e=.returned v/\Fr dr w (fun _=>False) w'/\Inv C.P w' S' G' Y1 a/\qx w' S' G' a x v/\(∀b,S b->S' b)/\(∀b,S' b->S b\/w.heap.size<=b)/\(∀id blk,Y1 id=some blk->w.heap.size<=(G' id).g):=by
 refine(oL c.spec c.quiet c.box c.iter c.mixed i.func i.body i.ok h (gU (fun _=>⟨0,0,0⟩) m j) n.closed l).mono fun e w' o=>?_
 obtain⟨v,S',G',p,k,q⟩:=o;refine⟨v,S',G',p,⟨k.fr.os,k.fr.tape,k.fr.output,k.fr.size,k.fr.drawn,fun b d _=>k.fr.block b d WQ⟩,k.inv,q,k.keep,fun b d=>?_,fun id blk d=>?_⟩
 ·rcases k.from_ b d with h|h|h
  ·exact .inl h
  ·exact(WQ h).elim
  ·exact .inr h
 ·rcases k.own id blk d with h|h
  ·exact(WQ h).elim
  ·exact h
theorem uH{w:World}{S:Nat->Prop}{x:O}{u:Value}(h:yb w S x u)(s:Nat):yb w S (TI s x) u:=by
 unfold TI;split
 ·cases h;exact .sl (es:=[]) (fun _ _=>undef) (by simp) (by simp) (by simp[maxLen]) (by simp) (by simp) (by simp)
 ·exact h
theorem YA{w:World}{S:Nat->Prop}:∀{a:List Nat} {xs:zb} {us:List Value},Zip (yb w S) xs us->Zip (yb w S) (yP a xs) us
 |[],xs,us,h=>by unfold yP;exact h
 |s::a,[],us,h=>by unfold yP;exact h
 |s::a,x::xs,us,h=>by obtain⟨u,b,rfl,c,d⟩:=h.kc;simp only[yP];exact .cons (uH c s) (YA d)
theorem Nx{w:World}{S:Nat->Prop}{x y:O}{u:Value}(h:yb w S x u)(a:Bz x y):yb w S y u:=by
 rcases a with rfl|⟨rfl,s,rfl⟩
 ·exact h
 ·exact uH h s
theorem dd{w:World}{S:Nat->Prop}{x y:O}{u:Value}(h:yb w S x u)(a:ag x y):yb w S y u:=by
 unfold ag at a;split at a
 ·cases h with
  |wY g d=>
   rename_i xs ys us;refine .wY (by omega) fun j e v c f=>?_
   have b:j<xs.length:=by rw[a.1];exact(zn.1 c).1
   exact Nx (d j xs[j] v (zq b) f) (a.2 j xs[j] e (zq b) c)
 ·exact Nx h a
theorem Er(hg:Qn dr C pf)(q:gD C pf f fn code)(j:Bool)(ns:List Nat)(F:zb->Option O)(hF:∀args r,F args=some r->args.length<=fn.ntmps/\∃s,zr C fn args=some s/\ag s r):xB dr C.P f (zf j ns F):=by
 refine⟨⟨fn,q.func,q.name,by rw[q.body];rfl⟩,?_⟩;intro args Y Z r Y' Z' h w S G vs hi hz;unfold zf at h;split at h
 ·rename_i aZ Y1 u;split at h
  ·rename_i s y;obtain⟨hn,rr,a,z⟩:=hF _ s y;unfold zr at a;split at a
   ·rename_i x hpe nxe A;obtain⟨⟨r1,T⟩,B,k⟩:=qh a;simp only at k;subst k;obtain⟨S1,t,D,E⟩:=kx (dr:=dr) hi u hz;refine(Qx hg q A hn t.inv.st t.inv.oa (YA D)).mono fun e w' hh=>?_
    obtain⟨v,S',G',W,X,l,hx,hs0,H,_⟩:=hh;obtain⟨S2,k2,I⟩:=Jp (dr:=dr) l B hx;have J:=dd I z;have m:∀b,S2 b->S1 b\/(w.heap.size<=b/\b<w'.heap.size):=by
     intro b i;have n:=k2.inv.st b i;rcases k2.from_ b i with h1|⟨id,blk,h1,rfl⟩|h1
     ·rcases H b h1 with K|K
      ·exact .inl K
      ·exact .inr ⟨K,n⟩
     ·rcases Nat.lt_or_ge (G' id).g w.heap.size with h3|h3
      ·rename_i o;have:=o id blk h1;omega
      ·exact .inr ⟨h3,n⟩
     ·exact absurd h1 (by omega)
    split at h
    ·rename_i d;injection h with h
     injection h with L h;injection h with M N;subst L;subst M;subst N;refine⟨v,_,G,W,vA.outer hi X,.c ?_⟩;rcases d with Q|R
     ·exact oM J Q
     ·have p:=E R;exact J.mono fun b i=>⟨by rw[<-p];exact m b i,rfl⟩
    ·split at h
     ·injection h with h;injection h with L h;injection h with M N;subst L;subst M;subst N;exact⟨v,_,G,W,t.trans (vA.outer t.inv X),.c (J.mono fun b i=>⟨m b i,rfl⟩)⟩
     ·cases h
   ·cases a
  ·cases h
 ·cases h
end
variable{dr:Prop}
section
variable{P:Program}{Y1 Y2 hpe:Hp}{Z nxe:Nat}{S1 S':Nat->Prop}{G G':Nat->GI}{w w':World}{D:Nat->Prop}
theorem gV(hi:Inv P w S1 G Y1 Z)(a:∀id b,Y2 id=some b->Y1 id=some b/\¬D (G id).g)(l:∀b,D b->vo Y1 G b)(d:Fr dr w D w')(e:Inv P w' S' G' hpe nxe)(f:∀b,S1 b->S' b)(i:∀b,S' b->S1 b\/D b\/w.heap.size<=b) :
  vA dr P Y1 Z S1 G w Y2 Z S' G w':=by
 have m:∀b,S1 b->¬D b:=fun b c hd=>by obtain⟨id,blk,p,rfl⟩:=l b hd;exact hi.apart id blk p c
 have q:∀b,S1 b->S' b/\w'.heap[b]?=w.heap[b]?:=fun b c=>⟨f b c,d.block b (hi.st b c) (m b c)⟩
 refine⟨⟨e.st,fun id b c=>hi.top id b (a id b c).1,fun id b c=>?_,fun id b c hs=>?_,fun id id' b o c n r=>hi.inj id id' b o (a id b c).1 (a id' o n).1 r,e.oa⟩,zl _,fun _ _=>rfl,f,fun b c=>?_,fun id b c=>.inl ⟨id,b,(a id b c).1,rfl⟩,⟨d.os,d.tape,d.output,d.size,d.drawn,fun k s t=>d.block k s fun hd=>t (l k hd)⟩⟩
 ·have j:=hi.live id b (a id b c).1;exact j.mono q (zl _) (fun _ _=>rfl) (d.block _ j.lt (a id b c).2)
 ·have j:=hi.live id b (a id b c).1;rcases i _ hs with h|h|h
  ·exact hi.apart id b (a id b c).1 h
  ·exact(a id b c).2 h
  ·have:=j.lt;omega
 ·rcases i b c with h|h|h
  ·exact .inl h
  ·exact .inr (.inl (l b h))
  ·exact .inr (.inr h)
theorem Es(hi:Inv P w S1 G Y1 Z)(f:∀id b,Y2 id=some b->Y1 id=some b/\¬D (G id).g)(L:∀b,D b->vo Y1 G b)(N:Fr dr w D w')(l:Inv P w' S' G' hpe nxe)(E:∀b,S1 b->S' b)(F:∀b,S' b->S1 b\/D b\/w.heap.size<=b)
  {id:Nat} {b:kV} (B:hpe id=some b) (v:b.arr=true) (s:D (G' id).g\/w.heap.size<=(G' id).g) :
  vA dr P Y1 Z S1 G w (qR Y2 Z (some b)) (Z+1) S' (qR G Z (G' id)) w':=by
 have x:=gV hi f L N l E F;have y:∀id' z,Y2 id'=some z->(G id').g≠(G' id).g:=fun id' z M q=>by
  rcases s with h|h
  ·exact(f id' z M).2 (q ▸ h)
  ·have:=(hi.live id' z (f id' z M).1).lt;omega
 have r:∀k,k<Z->qR G Z (G' id) k=G k:=fun k a=>wM _ _ _ _ (by omega)
 have m:∀k,k≠Z->qR Y2 Z (some b) k=Y2 k:=fun k a=>wM _ _ _ _ a
 have H:∀b,S' b->S' b/\w'.heap[b]?=w'.heap[b]?:=fun b B=>⟨B,rfl⟩
 have e:∀k c,Y2 k=some c->k<Z:=fun k c a=>hi.top k c (f k c a).1
 refine⟨⟨l.st,fun k c a=>?_,fun k c a=>?_,fun k c a=>?_,fun k n c A a o q=>?_,l.oa⟩,by omega,r,x.keep,x.from_,fun n c a=>?_,x.fr⟩
 ·by_cases d:k=Z
  ·omega
  ·rw[m k d]at a;have:=e k c a;omega
 ·by_cases d:k=Z
  ·subst d;simp only[yd]at a⊢;injection a with a
   subst a;have t:=l.live id _ B;refine⟨t.bs,fun C=>⟨t.size C,t.len C,t.fit C,?_⟩,t.ent⟩;obtain⟨I,Q,R,S⟩:=t.row C;refine⟨I,Q,R,fun i j c T J W=>?_⟩;obtain⟨u,X,K⟩:=S i j c T J W;exact⟨u,X,K.1,.c (K.1 v),K.2.2⟩
  ·rw[m k d]at a;rw[r k (e k c a)];exact(x.inv.live k c a).mono H (by omega) r rfl
 ·by_cases d:k=Z
  ·subst d;simp only[yd];exact l.apart id b B
  ·rw[m k d]at a;rw[r k (e k c a)];exact x.inv.apart k c a
 ·by_cases d:k=Z<;>by_cases p:n=Z
  ·omega
  ·subst d;rw[m n p]at o;rw[r n (e n A o)]at q;simp only[yd]at q;exact(y n A o q.symm).elim
  ·subst p;rw[m k d]at a;rw[r k (e k c a)]at q;simp only[yd]at q;exact(y k c a q).elim
  ·rw[m k d]at a;rw[m n p]at o;rw[r k (e k c a),r n (e n A o)]at q;exact hi.inj k n c A (f k c a).1 (f n A o).1 q
 ·by_cases d:n=Z
  ·subst d;simp only[yd];rcases s with h|h
   ·exact .inl (L _ h)
   ·exact .inr h
  ·rw[m n d]at a;rw[r n (e n c a)];exact .inl ⟨n,c,(f n c a).1,rfl⟩
theorem Et{id n:Nat}{v:Value}(h:qx w' S' G' nxe (.own id 0 n) v):qx w' S' (qR G Z (G' id)) (Z+1) (.own Z 0 n) v:=by have a:=h.Za;obtain⟨cap,e,b,c,d,rfl⟩:=h.xA;have:=qx.own (w:=w') (S:=S') (G:=qR G Z (G' id)) (Z:=Z+1) (id:=Z) (off:=0) (n:=n) (cap:=cap) (by omega) b c (by simpa using d) (by simpa using a);simpa using this
end
section
variable{C:Ctx}{pf:FuncId->Bool}{f:FuncId}{fn:Func}{code:Code}
def aj(r:Option kV)(x:O)(Y:Hp)(_:Nat):Prop:=match r with
 |none=>x=.nil
 |some b=>∃id,x=.own id 0 b.es.length/\Y id=some b/\b.arr=true
theorem Q7(K:Qn dr C pf)(n:gD C pf f fn code)(L:List Nat)(F:zb->Option (Option kV))(hF:∀args r,F args=some r->args.length<=fn.ntmps/\∃x Y Z,kj C fn args (fun _=>none) 0=some (x,Y,Z)/\aj r x Y Z) :
  xB dr C.P f (jj L F):=by
 refine⟨⟨fn,n.func,n.name,by rw[n.body];rfl⟩,?_⟩;intro args Y Z r N Q h w S G vs hi M;unfold jj at h;split at h
 ·rename_i R Y1 s;obtain⟨S1,g,o,_⟩:=kx (dr:=dr) hi s M;have i:∀id b,Y1 id=some b->Y1 id=some b/\¬False:=fun id b h=>⟨h,fun h=>h⟩
  split at h
  ·rename_i j;obtain⟨t,x,hpe,nxe,k,d⟩:=hF _ none j;injection h with h
   injection h with u h;injection h with y z;subst u;subst y;subst z;simp only[aj]at d;subst d;refine(Qx K n k t g.inv.st g.inv.oa (YA o)).mono fun e w' A=>?_
   obtain⟨v,S',G',B,E,a,H,l,m,_⟩:=A;have I:=gV (dr:=dr) (D:=fun _=>False) (Y2:=Y1) g.inv i (fun _ h=>h.elim) E a l (fun b J=>(m b J).imp (fun h=>h) .inr);have:=H.ZV;subst this;exact⟨_,_,_,B,g.trans I,.c .nil⟩
  ·rename_i b j;obtain⟨t,x,hpe,nxe,k,d⟩:=hF _ (some b) j;injection h with h
   injection h with u h;injection h with y z;subst u;subst y;subst z;obtain⟨id,rfl,hid,p⟩:=d;refine(Qx K n k t g.inv.st g.inv.oa (YA o)).mono fun e w' A=>?_
   obtain⟨v,S',G',B,E,a,H,l,m,q⟩:=A;have I:=Es (dr:=dr) (D:=fun _=>False) (Y2:=Y1) g.inv i (fun _ h=>h.elim) E a l (fun b J=>(m b J).imp (fun h=>h) .inr) hid p (.inr (q id b hid));exact⟨_,_,_,B,g.trans I,Et H⟩
  ·cases h
 ·cases h
end
end Go.AM
