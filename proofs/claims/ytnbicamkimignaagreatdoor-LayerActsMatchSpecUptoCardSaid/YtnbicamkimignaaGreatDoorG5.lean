/- Lemmas. -/
import Derived.Test.YtnbicamkimignaaGreatDoorG4
set_option maxRecDepth 8000
open Go Proofs Proofs.YtnbicamkimignaaGreatDoor Proofs.Tryz RowKit AM SpanLaw Q Zz
namespace Go.AM
variable{dr:Prop}
section
variable{P:Program}{w:World}{S:Nat→Prop}{G:Nat→GI}{Y:Hp}{Z:Nat}
theorem OD(b:Inv P w S G Y Z){t ty:TypeId}{p x:O}{u:Value}(h:Qr P t p=some x)(d:qK w S G Z p u):QT dr P w Y Z S G x Y Z ((Builtin.len_ #[t] ty #[u]).run P w):=by
 have sl:∀{A:Option Addr} {n c:Nat} {e:TypeId},yK P t=some e→(Builtin.len_ #[t] ty #[.slice A n c]).run P w=.ok (.int .i64 n) w:=fun a=>by simp[Builtin.len_,zP (xJ a),goInt]
 unfold Qr at h;split at h
 ·obtain⟨rfl,_⟩:=d.yH;split at h
  ·rename_i f;injection h with h
   subst h;exact qR (v:=_) b (by simp[Builtin.len_,zP f,goInt]) (Zh _ rfl)
  ·cases h
 ·cases a:yK P t with
  |none=>simp[a]at h
  |some e=>
   simp[a]at h;subst h;cases d.af with
   |sl us g i j k l m=>exact qR (v:=_) b (sl a) (Zh _ rfl)
 ·cases a:yK P t with
  |none=>simp[a]at h
  |some e=>simp[a]at h;subst h;have:=d.xc;subst this;exact qR (v:=_) b (sl a) (Zh _ rfl)
 ·cases a:yK P t with
  |none=>simp[a]at h
  |some e=>simp[a]at h;subst h;obtain⟨o,cap,rfl,_⟩:=d.pw;exact qR (v:=_) b (sl a) (Zh _ rfl)
 ·cases a:yK P t with
  |none=>simp[a]at h
  |some e=>simp[a]at h;subst h;obtain⟨cap,_,_,_,_,rfl⟩:=d.xd;exact qR (v:=_) b (sl a) (Zh _ rfl)
 ·cases h
theorem gB{k:IntKind}:∀{l:zc} {x:Int} {r:O} {us:List Value},ag k x l=some r→Zip (qK w S G Z) l us→∃n,r=.v (.int k n)∧(us.foldlM Builtin.min2 (.int k x)).run P w=.ok (.int k n) w
 |[],x,r,us,h,a=>by
  simp only[ag]at h;injection h with h
  subst h;rw[a.Yi];exact⟨x,rfl,by simp⟩
 |p::l,x,r,us,h,a=>by
  obtain⟨u,c,rfl,d,b⟩:=a.jl;unfold ag at h;split at h
  ·cases ‹p::l=[]›
  ·rename_i m y l' e;injection e with f g
   subst f;subst g;split at h
   ·rename_i i;subst i;obtain⟨rfl,_⟩:=d.yH;obtain⟨n,rfl,j⟩:=gB h b;exact⟨n,rfl,by simp only[List.foldlM_cons,Zd,Builtin.min2,WR,kY];exact j⟩
   ·cases h
  ·cases h
theorem gC{k:IntKind}:∀{l:zc} {x:Int} {r:O} {us:List Value},ah k x l=some r→Zip (qK w S G Z) l us→∃n,r=.v (.int k n)∧(us.foldlM Builtin.max2 (.int k x)).run P w=.ok (.int k n) w
 |[],x,r,us,h,a=>by
  simp only[ah]at h;injection h with h
  subst h;rw[a.Yi];exact⟨x,rfl,by simp⟩
 |p::l,x,r,us,h,a=>by
  obtain⟨u,c,rfl,d,b⟩:=a.jl;unfold ah at h;split at h
  ·cases ‹p::l=[]›
  ·rename_i m y l' e;injection e with f g
   subst f;subst g;split at h
   ·rename_i i;subst i;obtain⟨rfl,_⟩:=d.yH;obtain⟨n,rfl,j⟩:=gC h b;exact⟨n,rfl,by simp only[List.foldlM_cons,Zd,Builtin.max2,WR,kY];exact j⟩
   ·cases h
  ·cases h
theorem OE(c:Inv P w S G Y Z){ts:Array TypeId}{ty:TypeId}{xs:zc}{x:O}{us:Array Value}(h:Ot xs=some x)(d:Zip (qK w S G Z) xs us.toList):QT dr P w Y Z S G x Y Z ((Builtin.min_ ts ty us).run P w):=by
 unfold Ot at h;split at h
 ·rename_i k y l;obtain⟨u,e,a,f,b⟩:=d.jl;obtain⟨rfl,_⟩:=f.yH;obtain⟨n,rfl,g⟩:=gB (P:=P) h b;exact qR (v:=_) c (by simp only[Builtin.min_,a];exact g) (Zh _ rfl)
 ·cases h
theorem OG(c:Inv P w S G Y Z){ts:Array TypeId}{ty:TypeId}{xs:zc}{x:O}{us:Array Value}(h:Ou xs=some x)(d:Zip (qK w S G Z) xs us.toList):QT dr P w Y Z S G x Y Z ((Builtin.max_ ts ty us).run P w):=by
 unfold Ou at h;split at h
 ·rename_i k y l;obtain⟨u,e,a,f,b⟩:=d.jl;obtain⟨rfl,_⟩:=f.yH;obtain⟨n,rfl,g⟩:=gC (P:=P) h b;exact qR (v:=_) c (by simp only[Builtin.max_,a];exact g) (Zh _ rfl)
 ·cases h
theorem sg:∀(l:List Value) (k off:Nat) (a:Array Value),off+k+l.length≤a.size →
  ((l.zipIdx k).foldl (fun(cs:Array Value) (p:Value×Nat)=>cs.setIfInBounds (off+p.2) p.1) a).size=a.size ∧
  ∀i:Nat,((l.zipIdx k).foldl (fun(cs:Array Value) (p:Value×Nat)=>cs.setIfInBounds (off+p.2) p.1) a)[i]?=if off+k≤i∧i<off+k+l.length then l[i-(off+k)]? else a[i]?
 |[],k,off,a,h=>by simp;omega
 |x::l,k,off,a,h=>by
  simp only[qa]at h;obtain⟨c,e⟩:=sg l (k+1) off (a.setIfInBounds (off+k) x) (by simp;omega);simp only[List.zipIdx_cons,Qp];refine⟨by rw[c];simp,fun i=>?_⟩;rw[e];by_cases b:off+(k+1)≤i∧i<off+(k+1)+l.length
  ·rw[zf b,zf ⟨by omega,by simp;omega⟩];obtain⟨d,rfl⟩:∃d,i=off+(k+1)+d:=⟨i-(off+(k+1)),by omega⟩;rw[show off+(k+1)+d-(off+(k+1))=d from by omega,show off+(k+1)+d-(off+k)=d+1 from by omega];simp
  ·rw[zj b];by_cases f:i=off+k
   ·subst f;have hs:(a.setIfInBounds (off+k) x)[off+k]?=some x:=by rw[Array.getElem?_setIfInBounds_self_of_lt (by omega)]
    rw[zf ⟨by omega,by simp⟩,hs];simp
   ·rw[zj (by simp;omega),gw (by omega)]
theorem Ii{u:Value}{off:Nat}{cells:Array Value}(h:off+u.cells.size≤cells.size) :
  (u.cells.zipIdx.foldl (fun cs (c,j)=>cs.setIfInBounds (off+j) c) cells).size=cells.size ∧
  ∀i:Nat,(u.cells.zipIdx.foldl (fun cs (c,j)=>cs.setIfInBounds (off+j) c) cells)[i]?=if off≤i∧i<off+u.cells.size then u.cells[i-off]? else cells[i]?:=by
 have:=sg u.cells.toList 0 off cells (by simpa using h);simp only[BO,qT,Array.getElem?_toList]at this;rw[←Array.foldl_toList,Array.toList_zipIdx];exact this
theorem mc{a:Nat→Option (Nat×Nat)}:∀{ps:List (Nat×O)} {vs:List (Nat×Value)} {cs d:zc} {cells:Array Value},qc a cs ps=some d →
  Zip (fun p v=>p.1=v.1∧qK w S G Z p.2 v.2) ps vs→cs.length=cells.size→(∀(j:Nat) (f:O) (u:Value),cs[j]?=some f→cells[j]?=some u→qK w S G Z f u) →
  ∃b,Instr.fill a cells vs=some b∧d.length=b.size∧∀(j:Nat) (f:O) (u:Value),d[j]?=some f→b[j]?=some u→qK w S G Z f u
 |[],vs,cs,d,cells,h,q,r,s=>by
  simp only[qc]at h;injection h with h
  subst h;rw[q.Yi];exact⟨cells,rfl,r,s⟩
 |(i,x)::ps,vs,cs,d,cells,h,q,r,s=>by
  obtain⟨⟨i',u⟩,k,rfl,⟨e,z⟩,t⟩:=q.jl;simp only at e z;subst e;simp only[qc]at h;split at h
  ·rename_i off n Y;split at h
   ·rename_i B;obtain⟨A,C,D⟩:=B;obtain⟨E,F⟩:=eZ z D;have y:u.cells.size=n:=by rw[←E,A]
    obtain⟨H,I⟩:=Ii (u:=u) (off:=off) (cells:=cells) (by omega);have g:Instr.fill a cells ((i,u)::k)=Instr.fill a (u.cells.zipIdx.foldl (fun cs (c,j)=>cs.setIfInBounds (off+j) c) cells) k:=by
     have J:¬(off+n>cells.size):=by omega
     simp[Instr.fill,Y,y];omega
    rw[g];refine mc h t (by rw[WV,H,r]) (fun j f v l m=>?_);rw[K0 _ _ _ _ (by rw[A];exact C)]at l;rw[I]at m;by_cases o:off≤j∧j<off+u.cells.size
    ·rw[zf o]at m;rw[zf (by omega)]at l;exact(F (j-off) f v l m).1
    ·rw[zj o]at m;rw[zj (by omega)]at l;exact s j f v l m
   ·cases h
  ·cases h
theorem e9{c:Operand→Option O}{a:Operand→Value}(b:∀y d,c y=some d→qK w S G Z d (a y)):∀{l:List (Nat×Operand)} {ps:List (Nat×O)},vM c l=some ps →
  Zip (fun(p:Nat×O) (v:Nat×Value)=>p.1=v.1∧qK w S G Z p.2 v.2) ps (l.map fun(i,x)=>(i,a x))
 |[],ps,h=>by
  simp only[vM]at h;injection h with h
  subst h;exact .nil
 |(i,x)::l,ps,h=>by
  simp only[vM]at h;split at h
  ·rename_i p r Y e;injection h with h
   subst h;exact .cons ⟨rfl,b _ _ Y⟩ (e9 b e)
  ·cases h
theorem FT(J:Inv P w S G Y Z){t:TypeId}{ps:List (Nat×O)}{vs:Array (Nat×Value)}{x:O}(h:zR P t ps=some x)(K:Zip (fun p v=>p.1=v.1∧qK w S G Z p.2 v.2) ps vs.toList) :
  QT dr P w Y Z S G x Y Z ((Instr.build t vs).run P w):=by
 unfold zR at h;split at h
 ·rename_i L z g l;obtain⟨i,o,q,r,s⟩:=Ym l;obtain⟨y,A⟩:=ku (w:=w) (S:=S) s;cases b:qc (fun i=>L[i]?) z ps with
  |none=>simp[b]at h
  |some B=>
   simp[b]at h;subst h;obtain⟨a,C,D,E⟩:=mc b K (cells:=o.cells) (by rw[y];simp) (fun j F u H d=>.c (A j F u H (by simpa using d)).1);have I:P.built t vs.toList=some a:=by
    unfold xT at g;split at g
    ·rename_i M d;unfold Program.built;simp only[q,d,r,g];simpa using C
    ·cases g
   exact qR (v:=_) J (run_build w t vs a I) (.agg D E)
 ·rename_i z g l;split at h
  ·rename_i m e d;split at h
   ·rename_i n k;obtain⟨i,o,q,r,s⟩:=Ym l;obtain⟨y,A⟩:=ku (w:=w) (S:=S) s;cases b:qc (fun i=>some (i*n,n)) z ps with
    |none=>simp[b]at h
    |some B=>
     simp[b]at h;subst h;obtain⟨a,C,D,E⟩:=mc b K (cells:=o.cells) (by rw[y];simp) (fun j F u H d=>.c (A j F u H (by simpa using d)).1);have I:P.built t vs.toList=some a:=by
      unfold Program.built;unfold q8 at k;cases f:P.info? e with
      |none=>simp[f]at k
      |some N=>simp only[f,zH,qw]at k;simp only[q,d,r,f,k];exact C
     exact qR (v:=_) J (run_build w t vs a I) (.agg D E)
   ·cases h
  ·cases h
 ·cases h
theorem Jq:∀{ps a:List (Nat×O)} {Y Y1:Hp} {S:Nat→Prop} {vs:List (Nat×Value)} (_:Inv P w S G Y Z),zy Y ps=some (a,Y1) →
  Zip (fun p v=>p.1=v.1∧qK w S G Z p.2 v.2) ps vs→∃g,kJ dr P Y Z S G w Y1 Z g G w∧Zip (fun p v=>p.1=v.1∧wT w g p.2 v.2) a vs
 |[],a,Y,Y1,S,vs,b,h,d=>by
  simp only[zy]at h;injection h with h
  injection h with j k;subst j;subst k;rw[d.Yi];exact⟨S,.refl b,.nil⟩
 |(i,x)::ps,a,Y,Y1,S,vs,b,h,d=>by
  obtain⟨⟨i',u⟩,o,rfl,⟨e,l⟩,f⟩:=d.jl;simp only at e l;simp only[zy]at h;split at h
  ·rename_i y j q;split at h
   ·rename_i r k s;injection h with h
    injection h with t z;subst t;subst z;obtain⟨A,c,B,_⟩:=vx (dr:=dr) b q l;have C:=c.same b;obtain⟨D,m,E⟩:=Jq (S:=A) c.inv s (f.imp fun x u n=>⟨n.1,n.2.mono C (ze _) (fun _ _=>rfl)⟩);exact⟨D,c.trans m,.cons ⟨e,B.mono (m.same c.inv)⟩ E⟩
   ·cases h
  ·cases h
theorem FU{y:O}{u:Value}(h:wT w S y u)(a:y.cells.all O.wY=true):y.cells.length=u.cells.size∧∀(j:Nat) (d:O) (c:Value),y.cells[j]?=some d→u.cells[j]?=some c→wT w S d c∧c.oneCell'=true:=by
 by_cases e:∃cs,y=.agg cs
 ·obtain⟨cs,rfl⟩:=e;cases h with
  |agg k l=>refine⟨k,fun j d c b f=>?_⟩;have g:=l j d c b f;refine⟨g,g.VN ?_⟩;simp only[O.cells]at a b;exact qW.1 a d (zO b)
 ·have m:y.cells=[y]:=by cases y<;>first|rfl|exact(e ⟨_,rfl⟩).elim
  rw[m]at a⊢;have n:y.wY=true:=by simpa using a
  have i:=h.VN n;have f:u.cells=#[u]:=by cases u<;>first|rfl|simp[Value.oneCell']at i
  rw[f];refine⟨rfl,fun j d c b a=>?_⟩;cases j with
  |zero=>simp at b a;subst b;subst a;exact⟨h,i⟩
  |succ j=>simp at b
theorem cW{n:Nat}:∀{t:List (Nat×O)} {vs:List (Nat×Value)} {es d:List zc} {cells:Array Value},zN n es t=some d→Zip (fun p v=>p.1=v.1∧wT w S p.2 v.2) t vs →
  es.length*n=cells.size→(∀c∈es,c.length=n)→(∀(i j:Nat) (c:zc) (f:O),es[i]?=some c→c[j]?=some f→∃u,cells[i*n+j]?=some u∧wT w S f u∧u.oneCell'=true) →
  ∃a,Instr.fill (fun i=>some (i*n,n)) cells vs=some a∧d.length=es.length∧a.size=cells.size∧(∀c∈d,c.length=n) ∧
   ∀(i j:Nat) (c:zc) (f:O),d[i]?=some c→c[j]?=some f→∃u,a[i*n+j]?=some u∧wT w S f u∧u.oneCell'=true
 |[],vs,es,d,cells,h,y,D,r,z=>by
  simp only[zN]at h;injection h with h
  subst h;rw[y.Yi];exact⟨cells,rfl,rfl,rfl,r,z⟩
 |(i,x)::t,vs,es,d,cells,h,y,D,r,z=>by
  obtain⟨⟨i',u⟩,l,rfl,⟨e,E⟩,A⟩:=y.jl;simp only at e E;subst e;simp only[zN]at h;split at h
  ·rename_i B;obtain⟨C,F,I⟩:=B;obtain⟨J,K⟩:=FU E I;have m:u.cells.size=n:=by rw[←J,C]
   have G:i*n+n≤cells.size:=by have:(i+1)*n≤es.length*n:=qB _ F;rw[yL]at this;omega
   obtain⟨H,L⟩:=Ii (u:=u) (off:=i*n) (cells:=cells) (by omega);have g:Instr.fill (fun i=>some (i*n,n)) cells ((i,u)::l)=Instr.fill (fun i=>some (i*n,n)) (u.cells.zipIdx.foldl (fun cs (c,j)=>cs.setIfInBounds (i*n+j) c) cells) l:=by simp[Instr.fill,m];omega
   rw[g];obtain⟨a,M,N,P,Q,R⟩:=cW h A (cells:=u.cells.zipIdx.foldl (fun cs (c,j)=>cs.setIfInBounds (i*n+j) c) cells) (by rw[H];simpa using D) (fun c B=>by
     rcases List.mem_or_eq_of_mem_set B with h|h
     ·exact r c h
     ·subst h;exact C) (fun i' j c f b s=>by
     rw[L];by_cases k:i'=i
     ·subst k;rw[zb7 F]at b;injection b with b
      subst b;have o:j<n:=by rw[←C];exact(zq.1 s).1
      rw[zf ⟨by omega,by omega⟩,show i'*n+j-i'*n=j from by omega];have q:j<u.cells.size:=by omega
      have T:=K j f u.cells[j] s (by simp[q]);exact⟨u.cells[j],by simp[q],T⟩
     ·rw[KT (fun e=>k e.symm)]at b;have o:j<n:=by rw[←r c (zO b)];exact(zq.1 s).1
      have:=l0 o k 0 n (by omega);rw[zj (by rw[m];simpa using this)];exact z i' j c f b s)
   exact⟨a,M,by rw[N];simp,by rw[P,H],Q,R⟩
  ·cases h
theorem iH(H:Inv P w S G Y Z){t:TypeId}{len:Nat}{ps:List (Nat×O)}{vs:Array (Nat×Value)}{x:O}{Y':Hp}{I:Nat}(h:zv P Y Z t len ps=some (x,Y',I))(R:Zip (fun p v=>p.1=v.1∧qK w S G Z p.2 v.2) ps vs.toList) :
  QT dr P w Y Z S G x Y' I ((Instr.buildSlice t len vs).run P w):=by
 unfold zv at h;split at h
 ·rename_i e J;split at h
  ·rename_i n z qs Y1 q T U;split at h
   ·rename_i r;obtain⟨s,y,c3⟩:=r;split at h
    ·rename_i es A;injection h with h
     injection h with W h;injection h with X en;subst W;subst X;subst en;obtain⟨i,f,i1,i2,i3⟩:=Ym T;obtain⟨z1,z2⟩:=ku (w:=w) (S:=S) i3;have B:f.cells.size=n:=by rw[←y,z1];simp
     obtain⟨S1,C,q1⟩:=Jq (dr:=dr) H U R;obtain⟨a,K,g2,L,g4,g5⟩:=cW (w:=w) A q1 (cells:=madeCells f.cells (len*n)) (by simp[size_madeCells]) (fun c r=>by rw[(List.mem_replicate.1 r).2];exact y) (fun i' j c D d o=>by
      have g:i'<len:=by have:=(zq.1 d).1;simpa using this
      rw[Tg,zf g]at d;injection d with d
      subst d;have E:j<n:=by rw[←y];exact(zq.1 o).1
      have k:j<f.cells.size:=by omega
      rw[B4 B g E];have M:=z2 j D f.cells[j] o (by simp[k]);exact⟨f.cells[j],by simp[k],M.1.mono (C.same (dr:=dr) H),M.2.1⟩)
     have F:es.length=len:=by rw[g2];simp
     have k2:=kJ.alloc (dr:=dr) C.inv a e true es n s (by simpa[q8]using q) g4 (by rw[L,size_madeCells,F];exact ze _) (fun i' j c D d o=>by obtain⟨u,u1,N,u3⟩:=g5 i' j c D d o;exact⟨u,u1,fun _=>N,.c N,u3⟩)
     have Q:¬(len*n>2 ^ 24):=by simp;omega
     refine⟨.slice (some ⟨w.heap.size,0,none⟩) len len,_,_,_,?_,C.trans k2,?_⟩
     ·by_cases l:len*n=0
      ·have hl0:len=0:=by
        rcases Nat.mul_eq_zero.1 l with h|h
        ·exact h
        ·omega
       have b:Instr.fill (fun i=>some (i*n,n)) ((Array.range (len*n)).map ((#[]:Array Value)[· % (#[]:Array Value).size]!)) vs.toList=some a:=by rw[←K];congr 1;rw[l];simp[madeCells]
       simp[Instr.buildSlice,zP (xJ J),yT q,l,newRow];simp[l]at b;simp[b]
      ·have b:Instr.fill (fun i=>some (i*n,n)) ((Array.range (len*n)).map (f.cells[· % f.cells.size]!)) vs.toList=some a:=K;simp[Instr.buildSlice,zP (xJ J),yT q,l,newRow,Ws i1 i2,b];omega
     ·have m:len≤maxLen:=by have:len*1≤len*n:=Nat.mul_le_mul_left _ s;simp only[maxLen];omega
      have:=qK.own (w:=w.alloc (.cells a e)) (S:=S1) (G:=qZ G Z ⟨w.heap.size,a.size,n⟩) (Z:=Z+1) (id:=Z) (off:=0) (n:=len) (cap:=len) (by omega) (ze _) m (by simp[L,size_madeCells]) (by simpa using s);simpa using this
    ·cases h
   ·cases h
  ·cases h
 ·cases h
end
variable{dr:Prop}
section
variable{P:Program}{w:World}{S:Nat→Prop}{G:Nat→GI}{Y:Hp}{Z:Nat}
theorem LC(R:Inv P w S G Y Z){t t' ty:TypeId}{d x y:O}{Y':Hp}{Z':Nat}{u v:Value}(h:Ig P Y Z t d x=some (y,Y',Z'))(hd:qK w S G Z d u)(hx:qK w S G Z x v) :
  QT dr P w Y Z S G y Y' Z' ((Builtin.copy_ #[t,t'] ty #[u,v]).run P w):=by
 unfold Ig at h;split at h
 ·rename_i e id off k he;split at h
  ·rename_i b n hb hn;split at h
   ·rename_i xs hv;split at h
    ·rename_i hc;obtain⟨c1,c2,c3,c4⟩:=hc;injection h with h
     injection h with ey h;injection h with eh en;subst ey;subst eh;subst en;have a:=hd.Zb;obtain⟨cap,g1,g2,g3,g4,rfl⟩:=hd.xd;obtain⟨A,c,f,rfl,T,f2⟩:=l9 R hv hx;have l:=R.live id b hb;obtain⟨r,q1,q2,q3⟩:=l.row a;have U:=xJ he;have p:(G id).s=n:=by
      have q:=l.size a;rw[c2]at q;have z:(P.info? e).map (·.size)=some n:=by simpa[q8]using hn
      rw[z]at q;injection q with q
      exact q.symm
     have K:Nat.min xs.length k=min xs.length k:=rfl;have W:min xs.length k≤xs.length:=Nat.min_le_left _ _;have hmk:min xs.length k≤k:=Nat.min_le_right _ _;generalize hm:min xs.length k=m at *;have F:=se c4 T f2;have hmn:m*n≤xs.length*n:=qB _ W;have B:(Builtin.firstCells n m (.slice A xs.length c)).run P w=.ok ((List.range (m*n)).map f).toArray w:=by
      by_cases h0:m=0
      ·subst h0;cases A<;>simp[Builtin.firstCells,loadCells,loadCellsFrom]
      ·obtain⟨ad,rfl,_,_⟩:=F 0 (Nat.mul_pos (by omega) c4);have:=run_loadCells_list (P:=P) w ad ((List.range (m*n)).map f) (fun j u C=>by
        have X:j<m*n:=by have:=(zq.1 C).1;simpa using this
        obtain⟨ad',e1,e2,_⟩:=F j (by omega);injection e1 with e1;subst e1;rw[wy,V9 X]at C;simp at C;rw[e2,C])
       simpa[Builtin.firstCells]using this
     have D:off*n+m*n≤r.size:=by rw[q2];have q:(off+m)*n≤b.es.length*n:=qB _ (by omega);have z:=l.fit a;rw[p]at z;rw[yL]at q;omega
     have L:=run_storeCells_at P (G id).g (off*n) b.e ((List.range (m*n)).map f) 0 r w q1 (by simpa using D) (fun u U=>by obtain⟨k,hk,rfl⟩:=qX.1 U;exact(F k (by have:=ZV.1 hk;omega)).choose_spec.2.2)
     simp only[BO]at L;have M:((List.range (m*n)).map f).length=m*n:=by simp
     have N:off*n+((List.range (m*n)).map f).length≤r.toList.length:=by simpa using D
     have k2:=kJ.set (dr:=dr) R hb a (r.toList.take (off*n)++(List.range (m*n)).map f++r.toList.drop (off*n+((List.range (m*n)).map f).length)).toArray (b.es.take off++xs.take m++b.es.drop (off+m))
      (by rw[yN,Wt _ _ _ N];simpa using q2)
      (fun E Q=>by
       rw[qj]at Q;rcases qP.1 Q with h|h
       ·exact l.len a E (lv _ _ h)
       ·rcases qP.1 h with h|h
        ·rw[p];exact T E (lv _ _ h)
        ·exact l.len a E (Tf _ _ h))
      (by
       have q:=l.fit a;have:(b.es.take off++xs.take m++b.es.drop (off+m)).length=b.es.length:=by simp;omega
       rw[this];exact q)
      (fun i' j E pv o C=>by
       have H:(xs.take m).length=m:=by simp;omega
       rw[show off+m=off+(xs.take m).length from by rw[H],vN _ _ _ _ (by rw[H];omega),H]at o;rw[List.getElem?_toArray,vN _ _ _ _ N,M,p];by_cases I:off≤i'∧i'<off+m
       ·rw[zf I,qG,zf (by omega)]at o;have J:j<n:=by rw[←T E (zO o)];exact(zq.1 C).1
        have q:off*n≤i'*n:=qB _ I.1;have z:=Qu (i:=i'-off) (n:=m) (by omega) J;have h7:i'*n+j-off*n=(i'-off)*n+j:=by rw[Nat.sub_mul];omega
        rw[zf ⟨by omega,by rw[Nat.sub_mul]at z;omega⟩,h7,wy,V9 z];obtain⟨ad',a1,a2,a3⟩:=f2 (i'-off) j E pv o C;refine⟨f ((i'-off)*n+j),rfl,?_⟩;rw[c1];exact a3
       ·rw[zj I]at o;have J:j<n:=by rw[←p,←l.len a E (zO o)];exact(zq.1 C).1
        have:¬(off*n≤i'*n+j∧i'*n+j<off*n+m*n):=by
         by_cases q:i'<off
         ·have z:=Qu (n:=off) q J;omega
         ·have z:off+m≤i':=by omega
          have h7:(off+m)*n≤i'*n:=qB _ z;rw[yL]at h7;omega
        rw[zj this];obtain⟨u',u1,u2⟩:=q3 i' j E pv o C;rw[p]at u1;exact⟨u',by simpa using u1,u2⟩)
     rw[c1]at k2;refine⟨.int .i64 m,_,_,_,?_,k2,Zh _ rfl⟩;simp[Builtin.copy_,zP U,Builtin.lenOf,yT hn,K,B,p,L,goInt]
    ·cases h
   ·cases h
  ·cases h
 ·cases h
theorem OH{ts:Array TypeId}{us:Array Value}{t:TypeId}{u:Value}(ty:TypeId)(a:ts[0]?=some t)(b:us[0]?=some u):Builtin.clear_ ts ty us=Builtin.clear_ #[t] ty #[u]:=by simp[Builtin.clear_,a,b]
theorem FW(R:Inv P w S G Y Z){t ty:TypeId}{x y:O}{Y':Hp}{T:Nat}{v:Value}(h:eY P Y Z t x=some (y,Y',T))(hd:qK w S G Z x v) :
  QT dr P w Y Z S G y Y' T ((Builtin.clear_ #[t] ty #[v]).run P w):=by
 unfold eY at h;split at h
 ·rename_i e id off k he;split at h
  ·rename_i b n z U hn hz;split at h
   ·rename_i hc;obtain⟨c0,c1,c2,c3,c4⟩:=hc;subst c0;injection h with h
    injection h with ey h;injection h with eh en;subst ey;subst eh;subst en;have a:=hd.Zb;obtain⟨cap,g1,g2,g3,g4,rfl⟩:=hd.xd;have f:=R.live id b U;obtain⟨m,q1,W,q3⟩:=f.row a;have K:=xJ he;have l:(G id).s=1:=by
     have r:=f.size a;rw[c2]at r;have L:(P.info? e).map (·.size)=some 1:=by simpa[q8]using hn
     rw[L]at r;injection r with r
     exact r.symm
    obtain⟨i,J,i1,i2,i3⟩:=Ym hz;obtain⟨z1,z2⟩:=ku (w:=w) (S:=S) i3;have M:J.cells.size=1:=by have:=z1;simp at this;omega
    obtain⟨o,B⟩:∃o,J.cells=#[o]:=⟨J.cells[0],by
     apply Array.ext';apply List.ext_getElem
     ·simp[M]
     ·intro j h1 N;have:j=0:=by simp at N;exact N
      subst this;simp⟩
    obtain⟨X,r2,_⟩:=z2 0 z o rfl (by simp[B]);have p:(Builtin.zeroCells J.cells k).toList=List.replicate k o:=by
     rw[B];apply List.ext_getElem
     ·simp[Builtin.zeroCells]
     ·intro j h1 N;simp[Builtin.zeroCells,Nat.mod_one]
    have q:off+k≤m.size:=by rw[W];have L:=f.fit a;rw[l]at L;omega
    have C:=run_storeCells_at P (G id).g off b.e (List.replicate k o) 0 m w q1 (by simpa using q) (fun u K=>by rw[List.eq_of_mem_replicate K];exact r2);simp only[BO]at C;have D:off+(List.replicate k o).length≤m.toList.length:=by simpa using q
    have k2:=kJ.set (dr:=dr) R U a (m.toList.take off++List.replicate k o++m.toList.drop (off+(List.replicate k o).length)).toArray (b.es.take off++List.replicate k [z]++b.es.drop (off+k))
     (by rw[yN,Wt _ _ _ D];simpa using W)
     (fun E F=>by
      rw[qj]at F;rcases qP.1 F with h|h
      ·exact f.len a E (lv _ _ h)
      ·rcases qP.1 h with h|h
       ·rw[l,List.eq_of_mem_replicate h];rfl
       ·exact f.len a E (Tf _ _ h))
     (by
      have r:=f.fit a;have:(b.es.take off++List.replicate k [z]++b.es.drop (off+k)).length=b.es.length:=by simp;omega
      rw[this];exact r)
     (fun i' j E pv d H=>by
      have A:(List.replicate k [z]).length=k:=by simp
      rw[show off+k=off+(List.replicate k [z]).length from by rw[A],vN _ _ _ _ (by rw[A];omega),A]at d;rw[List.getElem?_toArray,vN _ _ _ _ D,l,List.length_replicate];by_cases I:off≤i'∧i'<off+k
      ·rw[zf I,Tg,zf (by omega)]at d;injection d with d
       subst d;have Q:j=0:=by have:=(zq.1 H).1;simp at this;omega
       subst Q;simp at H;subst H;rw[zf (by omega),Tg,zf (by omega)];exact⟨o,rfl,fun _=>X,.c X,r2⟩
      ·rw[zj I]at d;have hjn:j<1:=by rw[←l,←f.len a E (zO d)];exact(zq.1 H).1
       rw[zj (by omega)];obtain⟨u',u1,u2⟩:=q3 i' j E pv d H;rw[l]at u1;exact⟨u',by simpa using u1,u2⟩)
    rw[c1]at k2;refine⟨.tuple #[],_,_,_,?_,k2,.c (.yb rfl (by simp))⟩;obtain⟨k',rfl⟩:∃k',k=k'+1:=⟨k-1,by omega⟩;simp[Builtin.clear_,zP K,Ws i1 i2,p,l,C]
   ·cases h
  ·cases h
 ·cases h
theorem WB{c:Operand→Option O}{a:Operand→Value}(b:∀y f,c y=some f→qK w S G Z f (a y)):∀{l:List Operand} {xs:zc},yS (l.map c)=some xs→Zip (qK w S G Z) xs (l.map a)
 |[],xs,h=>by
  simp only[kp,yS]at h;injection h with h
  subst h;exact .nil
 |x::l,xs,h=>by
  simp only[qF]at h;cases d:c x with
  |none=>rw[d]at h;simp[yS]at h
  |some p=>
   rw[d]at h;simp only[yS]at h;cases e:yS (l.map c)with
   |none=>rw[e]at h;simp at h
   |some r=>rw[e]at h;simp at h;subst h;exact .cons (b _ _ d) (WB b e)
def km(dr:Prop)(P:Program)(g:FuncId)(a:AM.Spec):Prop:=
 (∃fn,P.funcs[g]?=some fn∧(fn.name== "runtime.NumGoroutine")=false∧fn.body.isNone=false) ∧
 ∀(args:zc) (Y:Hp) (Z:Nat) (r:O) (Y':Hp) (b:Nat),a args Y Z=some (r,Y',b)→∀(w:World) (S:Nat→Prop) (G:Nat→GI) (vs:List Value),Inv P w S G Y Z→Zip (qK w S G Z) args vs →
  Calls P g vs.toArray w fun e c=>∃v d f,e=.returned v∧kJ dr P Y Z S G w Y' b d f c∧qK c d f b r v
abbrev zg:=km True
def zcn(dr:Prop)(P:Program)(w:World)(Y:Hp)(Z:Nat)(S:Nat→Prop)(G:Nat→GI)(x:O)(Y':Hp)(d:Nat)(r:Result Next):Prop:=
 (∃v a b c,(r=.ok (.value v) a∨(r=.ok .skip a∧v=undef))∧kJ dr P Y Z S G w Y' d b c a∧qK a b c d x v) ∨
 ∃g vs,r=.ok (.enter g vs) w∧Calls P g vs w fun e a=>∃v b c,e=.returned v∧kJ dr P Y Z S G w Y' d b c a∧qK a b c d x v
theorem QT.op{x:O}{Y':Hp}{a:Nat}{s:Sem Value}(h:QT dr P w Y Z S G x Y' a (s.run P w)):zcn dr P w Y Z S G x Y' a ((do pure (.value (←s)):Sem Next).run P w):=by obtain⟨v,b,c,d,e,f,g⟩:=h;exact .inl ⟨v,b,c,d,.inl (by simp[e]),f,g⟩
theorem zde{ts:Array TypeId}{us:Array Value}{t:TypeId}{u:Value}(ty:TypeId)(a:ts[0]?=some t)(b:us[0]?=some u):Builtin.len_ ts ty us=Builtin.len_ #[t] ty #[u]:=by simp[Builtin.len_,a,b]
theorem LD{ts:Array TypeId}{us:Array Value}{t t':TypeId}{u v:Value}(ty:TypeId)(a:ts[0]?=some t)(b:ts[1]?=some t')(c:us[0]?=some u)(d:us[1]?=some v):Builtin.append_ ts ty us=Builtin.append_ #[t,t'] ty #[u,v]:=by simp[Builtin.append_,a,b,c,d]
theorem Uh{ts:Array TypeId}{us:Array Value}{t:TypeId}{u v:Value}(ty:TypeId)(a:ts[0]?=some t)(b:us[0]?=some u)(c:us[1]?=some v):Builtin.copy_ ts ty us=Builtin.copy_ #[t,t] ty #[u,v]:=by simp[Builtin.copy_,a,b,c]
theorem Qv{α a:Type}{R:α→a→Prop}{x:α}{us:List a}(h:Zip R [x] us):∃u,us=[u]∧R x u:=by obtain⟨u,b,rfl,c,d⟩:=h.jl;rw[d.Yi];exact⟨u,rfl,c⟩
theorem Ij{α a:Type}{R:α→a→Prop}{x y:α}{us:List a}(h:Zip R [x,y] us):∃u v,us=[u,v]∧R x u∧R y v:=by obtain⟨u,b,rfl,c,d⟩:=h.jl;obtain⟨v,rfl,e⟩:=Qv d;exact⟨u,v,rfl,c,e⟩
theorem Zip.append{α c:Type}{R:α→c→Prop}{xs ys:List α}{us vs:List c}(h:Zip R xs us)(k:Zip R ys vs):Zip R (xs++ys) (us++vs):=by
 refine⟨by simp[h.1,k.1],fun j x u a b=>?_⟩;by_cases d:j<xs.length
 ·rw[qV d]at a;rw[qV (by rw[←h.1];exact d)]at b;exact h.2 j x u a b
 ·rw[qg (by omega)]at a;rw[qg (by rw[←h.1];omega),←h.1]at b;exact k.2 _ x u a b
theorem zX{α a:Type}{o:Option α}{f:α→a}{y:a}(h:o.map f=some y):∃x,o=some x∧f x=y:=by
 cases o with
 |none=>simp at h
 |some x=>exact⟨x,rfl,by simpa using h⟩
end
theorem uw{C:Ctx}{w:World}{S:Nat→Prop}{G:Nat→GI}{Y:Hp}{Z:Nat}(hΓ:∀g M,C.Γ g=some M→km dr C.P g M)(H:Inv C.P w S G Y Z)
  {ρ:Operand→Option O} {a:Operand→Value} (d:∀y pv,ρ y=some pv→qK w S G Z pv (a y)) {o:Oper} {x:O} {Y':Hp} {Z':Nat} (h:qt C ρ Y Z o.op=some (x,Y',Z')) :
  zcn dr C.P w Y Z S G x Y' Z' ((execOp a o).run C.P w):=by
 have A:∀{f:O} {y:O},(f,Y,Z)=(y,Y',Z')→f=y∧Y=Y'∧Z=Z':=by
  intro f y h;injection h with L h
  injection h with Q R;exact⟨L,Q,R⟩
 unfold qt at h;unfold execOp;split at h
 ·rename_i y B;obtain⟨p,D,F⟩:=zX h;obtain⟨rfl,rfl,rfl⟩:=A F;simp only[B];exact .inl ⟨a y,w,S,G,.inl rfl,.refl H,d _ _ D⟩
 ·rename_i y B;obtain⟨p,D,F⟩:=zX h;obtain⟨rfl,rfl,rfl⟩:=A F;simp only[B];exact .inl ⟨a y,w,S,G,.inl rfl,.refl H,d _ _ D⟩
 ·rename_i c y z B;simp only[B];split at h
  ·rename_i W;obtain⟨p,D,F⟩:=zX h;obtain⟨rfl,rfl,rfl⟩:=A F;obtain⟨e,_⟩:=(d _ _ W).yH;exact .inl ⟨a y,w,S,G,.inl (by simp[e,asBool]),.refl H,d _ _ D⟩
  ·rename_i W;obtain⟨p,D,F⟩:=zX h;obtain⟨rfl,rfl,rfl⟩:=A F;obtain⟨e,_⟩:=(d _ _ W).yH;exact .inl ⟨a z,w,S,G,.inl (by simp[e,asBool]),.refl H,d _ _ D⟩
  ·cases h
 ·rename_i t B;simp only[B];split at h
  ·rename_i n z D F;split at h
   ·rename_i hl;injection h with h
    injection h with L h;injection h with Q R;subst L;subst Q;subst R;exact(FJ H D F hl.1 hl.2).op
   ·cases h
  ·cases h
 ·rename_i t y B;simp only[B];split at h
  ·rename_i n p D F;split at h
   ·rename_i W;injection h with h
    injection h with L h;injection h with Q R;subst L;subst Q;subst R;exact(Ov H D (d _ _ F) W.1 W.2.1 W.2.2).op
   ·cases h
  ·cases h
 ·rename_i t parts B;simp only[B];split at h
  ·rename_i ps hps;obtain⟨p,D,F⟩:=zX h;obtain⟨rfl,rfl,rfl⟩:=A F;exact(FT H D (by simpa using e9 d hps)).op
  ·cases h
 ·rename_i t len parts B;simp only[B];split at h
  ·rename_i ps hps;exact(iH H h (by simpa using e9 d hps)).op
  ·cases h
 ·rename_i t y B;simp only[B];split at h
  ·rename_i p Y1;obtain⟨q,D,F⟩:=zX h;obtain⟨rfl,rfl,rfl⟩:=A F;exact(r8 H D (d _ _ Y1)).op
  ·cases h
 ·rename_i t y z B;simp only[B];split at h
  ·rename_i p q D F;obtain⟨Y1,J,I⟩:=zX h;injection I with L I
   injection I with Q R;subst L;subst Q;subst R;obtain⟨w',S',G',r1,r2⟩:=FK H J (d _ _ D) (d _ _ F);exact .inl ⟨undef,w',S',G',.inr ⟨by simp[r1],rfl⟩,r2,xp⟩
  ·cases h
 ·rename_i y B;simp only[B];split at h
  ·rename_i id i j hy;injection h with h
   obtain⟨rfl,rfl,rfl⟩:=A h;have hr:=d _ _ hy;obtain⟨D,F⟩:=hr.YE;exact .inl ⟨a y,w,S,G,.inl (by rw[F];rfl),.refl H,hr⟩
  ·rename_i cs hy;injection h with h
   obtain⟨rfl,rfl,rfl⟩:=A h;have hr:=d _ _ hy;have hr2:=hr;have W:=hr.VO;generalize hay:a y=u at *;cases W with
   |ptr us D F=>exact .inl ⟨_,w,S,G,.inl rfl,.refl H,hr2⟩
  ·cases h
 ·rename_i op t y z t2 B;simp only[B];split at h
  ·rename_i p q D F;obtain⟨r,J,I⟩:=zX h;obtain⟨rfl,rfl,rfl⟩:=A I;exact(Lw H y z J (d _ _ D) (d _ _ F)).op
  ·cases h
 ·rename_i op t y B;simp only[B];split at h
  ·rename_i p D;obtain⟨r,J,I⟩:=zX h;obtain⟨rfl,rfl,rfl⟩:=A I;exact(Lx H J (d _ _ D)).op
  ·cases h
 ·rename_i src dst y B;simp only[B];split at h
  ·rename_i p D;obtain⟨r,J,I⟩:=zX h;obtain⟨rfl,rfl,rfl⟩:=A I;exact(Ly H J (d _ _ D)).op
  ·cases h
 ·rename_i f first K B
  simp only[B];split at h
  ·rename_i xs ys D F;injection h with h
   obtain⟨rfl,rfl,rfl⟩:=A h;exact(pI H (by simpa using WB d D) (by simpa using WB d F)).op
  ·cases h
 ·rename_i t l c B;simp only[B];split at h
  ·rename_i p q D F;exact(l8 H h (d _ _ D) (d _ _ F)).op
  ·cases h
 ·rename_i t y lo hh B;simp only[B];split at h
  ·rename_i p D;obtain⟨r,J,I⟩:=zX h;obtain⟨rfl,rfl,rfl⟩:=A I;have hd:∀o:Option Operand,o.map ρ=none→o.map a=none:=fun o h=>by cases o<;>simp_all
   have hs:∀(o:Option Operand) (p:O),o.map ρ=some (some p)→∃u,o.map a=some u∧qK w S G Z p u:=fun o p h=>by
    cases o with
    |none=>simp at h
    |some y=>exact⟨a y,rfl,d _ _ (by simpa using h)⟩
   exact(FO H J (d _ _ D) (hd lo) (hs lo) (hd hh) (hs hh)).op
  ·cases h
 ·rename_i t y f B;simp only[B];split at h
  ·rename_i p D;obtain⟨r,J,I⟩:=zX h;obtain⟨rfl,rfl,rfl⟩:=A I;exact(zlZ H J (d _ _ D)).op
  ·cases h
 ·rename_i t y f B;simp only[B];split at h
  ·rename_i p D;obtain⟨r,J,I⟩:=zX h;obtain⟨rfl,rfl,rfl⟩:=A I;exact(FL H J (d _ _ D)).op
  ·cases h
 ·rename_i t y z B;simp only[B];split at h
  ·rename_i p q D F;obtain⟨r,J,I⟩:=zX h;obtain⟨rfl,rfl,rfl⟩:=A I;exact(l6 H J (d _ _ D) (d _ _ F)).op
  ·cases h
 ·rename_i t y z B;simp only[B];split at h
  ·rename_i p q D F;obtain⟨r,J,I⟩:=zX h;obtain⟨rfl,rfl,rfl⟩:=A I;exact(FM H J (d _ _ D) (d _ _ F)).op
  ·cases h
 ·rename_i y i B;simp only[B];split at h
  ·rename_i vs D;obtain⟨r,J,I⟩:=zX h;obtain⟨rfl,rfl,rfl⟩:=A I;exact(ur H J (d _ _ D)).op
  ·cases h
 ·rename_i c B;simp only[B];obtain⟨callee,⟨E⟩,N⟩:=c;unfold ZK at h;simp only at h;split at h
  ·rename_i xs T;have hz:=WB d T;split at h
   ·rename_i b;unfold yQ at h;split at h
    ·split at h
     ·rename_i y t ht;obtain⟨u,hu1,hu2⟩:=Qv hz;obtain⟨r,J,I⟩:=zX h;obtain⟨rfl,rfl,rfl⟩:=A I;have hd:=(OD (dr:=dr) (ty:=o.type) H J hu2).op;rw[←zde (us:=(E.map a).toArray) o.type ht (by simp[hu1])]at hd;simpa[resolve,invoke,builtin,-bind_pure_comp]using hd
     ·cases h
    ·obtain⟨r,J,I⟩:=zX h;obtain⟨rfl,rfl,rfl⟩:=A I;have hd:=(OE (dr:=dr) (us:=(E.map a).toArray) (ts:=N) (ty:=o.type) H J (by simpa using hz)).op;simpa[resolve,invoke,builtin,-bind_pure_comp]using hd
    ·obtain⟨r,J,I⟩:=zX h;obtain⟨rfl,rfl,rfl⟩:=A I;have hd:=(OG (dr:=dr) (us:=(E.map a).toArray) (ts:=N) (ty:=o.type) H J (by simpa using hz)).op;simpa[resolve,invoke,builtin,-bind_pure_comp]using hd
    ·split at h
     ·rename_i s y t t' ht ht';obtain⟨u,v,U,hu,hv⟩:=Ij hz;have hd:=(B5 (dr:=dr) (ty:=o.type) H h hu hv).op;rw[←LD (us:=(E.map a).toArray) o.type ht ht' (by simp[U]) (by simp[U])]at hd;simpa[resolve,invoke,builtin,-bind_pure_comp]using hd
     ·cases h
    ·split at h
     ·rename_i s y t ht;obtain⟨u,v,U,hu,hv⟩:=Ij hz;have hd:=(LC (dr:=dr) (t':=t) (ty:=o.type) H h hu hv).op;rw[←Uh (us:=(E.map a).toArray) o.type ht (by simp[U]) (by simp[U])]at hd;simpa[resolve,invoke,builtin,-bind_pure_comp]using hd
     ·cases h
    ·split at h
     ·rename_i y t ht;obtain⟨u,hu1,hu2⟩:=Qv hz;have hd:=(FW (dr:=dr) (ty:=o.type) H h hu2).op;rw[←OH (us:=(E.map a).toArray) o.type ht (by simp[hu1])]at hd;simpa[resolve,invoke,builtin,-bind_pure_comp]using hd
     ·cases h
    ·cases h
   ·rename_i f;unfold jQ at h;split at h
    ·rename_i g first K hf
     split at h
     ·rename_i M hg;obtain⟨⟨fn,f1,f2,f3⟩,X⟩:=hΓ g M hg;obtain⟨us,ts,L,l1,l2,r1,r2⟩:=(d _ _ hf).BR;have hz:Zip (qK w S G Z) (first++xs++K) (us.toList++E.map a++ts.toList):=
       (Zip.append ⟨by simpa using l1,fun j pv x p q=>r1 j pv x p (by simpa using q)⟩ (WB d T)).append ⟨by simpa using l2,fun j pv x p q=>r2 j pv x p (by simpa using q)⟩
      refine .inr ⟨g,(us.toList++E.map a++ts.toList).toArray,?_,X _ _ _ _ _ _ h w S G _ H hz⟩;have f2':¬fn.name= "runtime.NumGoroutine":=by simpa using f2
      have f3':¬fn.body=none:=by intro h;simp[h]at f3
      have e5:(us.toList++E.map a++ts.toList).toArray=us++(E.map a).toArray++ts:=by apply Array.ext';simp
      rw[e5];simp[resolve,L,Deferred.ofValue,invoke,callFunc,f1,f2',f3']
     ·cases h
    ·cases h
   ·cases h
  ·cases h
 ·rename_i t B;simp only[B];split at h
  ·rename_i kt hk;injection h with h
   injection h with L h;injection h with Q R;subst L;subst Q;subst R;exact(uv H t).op
  ·cases h
 ·rename_i t y z ok B;simp only[B];split at h
  ·rename_i p q D F;obtain⟨r,J,I⟩:=zX h;obtain⟨rfl,rfl,rfl⟩:=A I;exact(B6 H J (d _ _ D) (d _ _ F)).op
  ·cases h
 ·rename_i t m k y B;simp only[B];split at h
  ·rename_i p q r D F J;obtain⟨Y1,I,h5⟩:=zX h;injection h5 with L h5
   injection h5 with Q R;subst L;subst Q;subst R;obtain⟨w',S',G',r1,r2⟩:=gA H I (d _ _ D) (d _ _ F) (d _ _ J);exact .inl ⟨undef,w',S',G',.inr ⟨by simp[r1],rfl⟩,r2,xp⟩
  ·cases h
 ·rename_i t m k y B;simp only[B];split at h
  ·rename_i p q r D F J;obtain⟨Y1,I,h5⟩:=zX h;injection h5 with L h5
   injection h5 with Q R;subst L;subst Q;subst R;obtain⟨w',S',G',r1,r2⟩:=gA H I (d _ _ D) (d _ _ F) (d _ _ J);exact .inl ⟨undef,w',S',G',.inr ⟨by simp[r1],rfl⟩,r2,xp⟩
  ·cases h
 ·cases h
end Go.AM
