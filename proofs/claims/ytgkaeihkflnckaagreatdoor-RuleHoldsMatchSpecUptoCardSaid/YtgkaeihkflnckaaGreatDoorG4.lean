/- Lemmas. -/
import Derived.ProofKit
import Derived.Lib.Strings
import Derived.Carry
import Derived.ChangeSame
import Derived.OpenShut
import Derived.Shelf.Small.Strs
import Derived.Shelf.Strconv.Itoa0
import Derived.Ground.Names2Prog
import Derived.Test.YtgkaeihkflnckaaGreatDoorProg
import Derived.Test.YtgkaeihkflnckaaGreatDoorG3
set_option maxRecDepth 8000
open Go Proofs Proofs.YtgkaeihkflnckaaGreatDoor Proofs.Tryz RowKit AM SpanLaw Q Zz
namespace Go.AM
variable{dr:Prop}
section
variable{C:Ctx}{pf:FuncId->Bool}
theorem Ju{w:World}{S:Nat->Prop}{G:Nat->GI}{st:St}{a:Act}(hi:Inv C.P w S G st.Y st.Z)(hs:∀t,qf w S G st.Z (st.U t) (a.tmps.getD t undef)) :
  ∀{l:List ResultVar} {xs:zb},ya (l.map (Yg C.P st))=some xs->∃vs,(l.mapM (m:=Sem) fun r=>match r with
   | .tmp t=>pure (a.tmps.getD t undef)
   | .cell p t=>do loadVar t (<-asAddr (a.tmps.getD p undef))).run C.P w=.ok vs w/\Zip (qf w S G st.Z) xs vs
 |[],xs,h=>by
  simp only[K7,ya]at h;injection h with h
  subst h;exact⟨[],by simp,.nil⟩
 |r::l,xs,h=>by
  simp only[we]at h;cases d:Yg C.P st r with
  |none=>rw[d]at h;simp[ya]at h
  |some p=>
   rw[d]at h;simp only[ya]at h;cases B:ya (l.map (Yg C.P st))with
   |none=>rw[B]at h;simp at h
   |some ys=>
    rw[B]at h;simp at h;subst h;obtain⟨vs,I,J⟩:=Ju hi hs B;cases r with
    |tmp t=>
     simp only[Yg]at d;injection d with d
     subst d;refine⟨a.tmps.getD t undef::vs,?_,.cons (hs t) J⟩;simp only[List.mapM_cons,vQ,WL,ku,I]
    |cell q t=>
     simp only[Yg]at d;obtain⟨v,w',S',G',M,k,hx⟩:=rA (dr:=True) hi d (hs q);have y:=hs q;have D:∃v,(do loadVar t (<-asAddr (a.tmps.getD q undef)):Sem Value).run C.P w=.ok v w/\qf w S G st.Z p v:=by
      unfold xv at d;split at d
      ·rename_i cs f;rw[f]at y;have E:=y.Vb;generalize a.tmps.getD q undef=u at *;cases E with
       |ptr us N Q=>obtain⟨v,z,n⟩:=XF (G:=G) (Z:=st.Z) (w:=w) (S:=S) d _ us (fun j A K=>⟨(N j A K).2,.c (Q j A K)⟩);exact⟨v,by simp[asAddr,z],n⟩
      ·rename_i id i j f;rw[f]at y;have F:=y.dX;obtain⟨hid,R⟩:=y.Wq;rw[R]at M⊢;split at d
       ·rename_i b T;split at d
        ·rename_i c E;obtain⟨o,W,h4,X⟩:=(hi.live id b T).row F;have x:∀k:Nat,w.cell? ((⟨(G id).g,i*(G id).s+j,none⟩:Addr).add k)=o[i*(G id).s+j+k]?:=by intro k;rw[ka,zbI w _ _ o _ _ W]
         obtain⟨v,z,n⟩:=XF (G:=G) (Z:=st.Z) (w:=w) (S:=S) d ⟨(G id).g,i*(G id).s+j,none⟩ (fun k=>(o[i*(G id).s+j+k]?).getD undef) (fun k A L=>by
          rw[qN]at L;obtain⟨u,h6,h7⟩:=X i (j+k) c A E L;rw[x];have e:i*(G id).s+j+k=i*(G id).s+(j+k):=by omega
          rw[e,h6];exact⟨rfl,h7.2.1⟩)
         exact⟨v,by simp[asAddr,z],n⟩
        ·cases d
       ·cases d
      ·cases d
     obtain⟨v,z,H⟩:=D;refine⟨v::vs,?_,.cons H J⟩;simp only[List.mapM_cons,vQ,z,ku,I,WL]
theorem Kq{P:Program}{fn:Func}{a:Array Value}{R:Ending->World->Prop}:∀(c:List Nat) (w:World),c.Nodup->(∀D∈c,w.heap[D]?=some (.deferred (some [])))->(∀f,Fr dr w (fun b=>b∈c) f->LeavesIn Fence.wide 0 P fn a R [] .returning f)->LeavesInM Fence.wide 0 P fn a R (c.map ie) .returning w
 |[],w,_,_,h=>h w (Fr.refl _ _)
 |D::c,w,i,hd,h=>by
  obtain⟨j,l⟩:=List.nodup_cons.1 i;refine⟨by simp,.inl ⟨D,_,rfl,run_takeDeferred (hd D (by simp)),Kq c _ l (fun g d=>?_) fun f m=>h f ?_⟩⟩
  ·exact(zge (k:=g) (r:=D) fun e=>j (by rw[<-e];exact d)).trans (hd g (by simp[d]))
  ·exact(Fb (.deferred none) (fun b=>b∈D::c) (by simp)).trans m (fun b _ n=>by simp[n])
theorem l3(Q:∀g a,C.Γ g=some a->kq dr C.P g a)(R:∀g a,pf g=true->C.Γ g=some a->Ws a)(T:∀g a,C.bk g=true->C.Γ g=some a->Wf a)(hit:∀g it,C.it g=some it->Bt dr C.P g it)(hm:C.P.follows .mixedOrders=true)
  {f:FuncId} {fn:Func} {code:Code} (hf:C.P.funcs[f]?=some fn) (k:fn.body=some code) (W:vL pf C.dyn C.Ns C.bk fn.ntmps code=true)
  {args:zb} {Y N:Hp} {Z E:Nat} {x:O} (h:jF C fn args Y Z=some (x,N,E)) {w:World} {S:Nat->Prop} {G:Nat->GI} {vs:List Value} (hi:Inv C.P w S G Y Z) (X:Zip (qf w S G Z) args vs) (hn:args.length<=fn.ntmps) :
  Calls C.P f vs.toArray w fun e w'=>∃v S' G',e=.returned v/\kx dr C.P Y Z S G w N E S' G' w'/\qf w' S' G' E x v:=by
 unfold jF at h;simp only[k]at h;refine aC.1 (callsIn_of_wp_marks (n:=0) hf k trivial ?_);have H:iR dr C.P w S (jz Y G) fn.ntmps Z G w.heap.size ⟨j9 args,Y,Z⟩ {tmps:=vs.toArray++Array.replicate (fn.ntmps-vs.toArray.size) undef,defers:=[]} w:=by
  refine⟨S,G,hi,fun t=>?_,?_,.nil (zf _),fun _ h=>h,fun _ h=>.inl h,fun id b k=>.inl ⟨id,b,k,rfl⟩,Fr.refl _ _,zf _,fun _ _=>rfl⟩
  ·have hvl:vs.length=args.length:=X.1.symm;unfold j9;by_cases ht:t<args.length
   ·have p:args[t]?=some args[t]:=zl ht;have l:vs[t]?=some (vs[t]'(by omega)):=zl (by omega);have h3:=X.2 t _ _ p l;have h4:(vs.toArray++Array.replicate (fn.ntmps-vs.toArray.size) undef)[t]?=vs[t]?:=by rw[vg (by simpa using(by omega:t<vs.length))];simp
    simp only[p,iN];rw[Jn,h4,l];exact h3
   ·have p:args[t]?=none:=wT (by omega);have h4:(vs.toArray++Array.replicate (fn.ntmps-vs.toArray.size) undef).getD t undef=undef:=by rw[Jn,Array.getElem?_append_right (by simpa using(by omega:vs.length<=t)),Array.getElem?_replicate];split<;>rfl
    simp only[p,Option.getD_none];rw[h4];exact jL
  ·have hvl:vs.length=args.length:=X.1.symm;simp;omega
 have I:∀(e:Exit) (st:St),(e=.normal\/e=.ret)->qZ C code ⟨j9 args,Y,Z⟩=some (e,st)->(xO C.P fn st).map (fun x=>(x,st.Y,st.Z))=some (x,N,E) ->
   code.wpIn Fence.wide 0 C.P (bodyPostM Fence.wide 0 C.P fn fun e w'=>∃v S' G',e=.returned v/\kx dr C.P Y Z S G w N E S' G' w'/\qf w' S' G' E x v) {tmps:=vs.toArray++Array.replicate (fn.ntmps-vs.toArray.size) undef,defers:=[]} w:=by
  intro e st he m hr;obtain⟨r,d,s⟩:=zZ hr;injection s with e1 s
  injection s with e2 e3;subst e1;subst e2;subst e3;refine l0 Q R T hit hm code W Fence.wide 0 (.inl rfl) (.inl rfl) w S (jz Y G) Z G w.heap.size _ st e _ w _ (zf _) m H fun F w1 hs'=>?_
  obtain⟨S',G',c⟩:=hs';obtain⟨hd0,Ds,hd1,hd2,o⟩:=c.defers;have J:LeavesInM Fence.wide 0 C.P fn F.tmps (fun e w'=>∃v S' G',e=.returned v/\kx dr C.P Y Z S G w st.Y st.Z S' G' w'/\qf w' S' G' st.Z r v) F.defers .returning w1:=by
   rw[hd1];refine Kq (dr:=dr) Ds w1 hd2 (fun D hD=>(o D hD).2.1) fun w' A=>?_
   have K:∀b,b∈Ds->Vz S' G' st.Y b:=fun b k=>⟨(o b k).2.2.1,(o b k).2.2.2⟩
   have q:=c.inv.frame A K;have hsl:∀t,qf w' S' G' st.Z (st.U t) (F.tmps.getD t undef):=fun t=>(c.jQ t).mono (fun b k=>⟨k,A.block b (c.inv.st b k) fun hb'=>(K b hb').1 k⟩) (zf _) (fun _ _=>rfl)
   have hk:kx dr C.P Y Z S G w st.Y st.Z S' G' w':=⟨q,c.up,c.loc,c.s0,c.s1,c.own,c.fr.trans A fun b k p=>by have:=(o b p).1;omega⟩;have L:∃v,(results fn F.tmps).run C.P w'=.ok v w'/\qf w' S' G' st.Z r v:=by
    unfold xO at d;have go:∀xs,ya (fn.results.toList.map (Yg C.P st))=some xs->r=(match xs with|[x]=>x|xs=>.wG xs)->∃v,(results fn F.tmps).run C.P w'=.ok v w'/\qf w' S' G' st.Z r v:=by
     intro xs hx i;obtain⟨us,p,l⟩:=Ju q hsl hx;have M:(results fn F.tmps).run C.P w'=.ok (if h:us.toArray.size=1 then us.toArray[0]else .tuple us.toArray) w':=by unfold results;rw[Array.mapM_eq_mapM_toList];simp only[vQ,Sem.run_map];erw [p];rfl
     refine⟨_,M,?_⟩
     match xs,l,i with
     |[],l,i=>rw[l.WO];subst i;exact .wG rfl (by simp)
     |[y],l,i=>obtain⟨u,rfl,hu⟩:=Yk l;subst i;simpa using hu
     |y::z::ys,l,i=>have hl:=l.1;subst i;rw[dif_neg (by simp at hl⊢;omega)];exact .wG (by simpa using hl) (fun j pv u hj hu=>l.2 j pv u hj (by simpa using hu))
    split at d
    ·rename_i y hy;injection d with d
     exact go [y] hy d.symm
    ·rename_i xs B hx;injection d with d
     refine go xs hx ?_;rw[<-d]
     match xs,B with
     |[],_=>rfl
     |[y],B=>exact(B y rfl).elim
     |y::z::ys,_=>rfl
    ·cases d
   obtain⟨v,hv1,hv2⟩:=L;exact⟨v,hv1,v,S',G',rfl,hk,hv2⟩
  rcases he with rfl|rfl
  ·exact J
  ·exact J
 split at h
 ·rename_i st m;exact I _ st (.inl rfl) m h
 ·rename_i st m;exact I _ st (.inr rfl) m h
 ·cases h
end
variable{dr:Prop}
def O.isV:O->Bool
 | .v _=>true
 |_=>false
def O.flat:O->Bool
 | .v _=>true
 | .wG cs=>cs.all O.isV
 |_=>false
def N0(s:Nat):O->O
 | .nil=>.sl s []
 |x=>x
def yg:List Nat->zb->zb
 |s::a,x::l=>N0 s x::yg a l
 |_,l=>l
def Fc(x y:O):Prop:=x=y\/(x=.nil/\∃s,y=.sl s [])
def QN:O->O->Prop
 | .wG xs,.wG ys=>xs.length=ys.length/\∀(j:Nat) (x y:O),xs[j]?=some x->ys[j]?=some y->Fc x y
 |x,y=>Fc x y
def zh(a:Bool)(b:List Nat)(F:zb->Option O):AM.Spec:=fun args Y Z=>
 match zD Y args with
 |some (c,Y1)=>match F (yg b c)with
  |some r=>if r.flat=true\/args.all O.noOwn=true then some (r,Y,Z)else if a=true then some (r,Y1,Z)else none
  |none=>none
 |none=>none
def yR(a:List Nat)(F:zb->Option (Option kv)):AM.Spec:=fun args Y Z=>
 match zD Y args with
 |some (c,Y1)=>match F (yg a c)with
  |some none=>some (.nil,Y1,Z)
  |some (some b)=>some (.own Z 0 b.es.length,qv Y1 Z (some b),Z+1)
  |none=>none
 |none=>none
theorem N1{α:Type}(f:Nat->α){i j:Nat}(h:i≠j)(x y:α):qv (qv f i x) j y=qv (qv f j y) i x:=by
 funext k;unfold qv;by_cases hi:k=i
 ·subst hi;simp[h]
 ·simp[hi]
theorem VK{Y Y1:Hp}{x y:O}{Z:Nat}(f:Y Z=none)(b:Option kv)(h:wY Y x=some (y,Y1)):wY (qv Y Z b) x=some (y,qv Y1 Z b)/\Y1 Z=none:=by
 unfold wY at h;split at h
 ·rename_i id off n;split at h
  ·rename_i j g;have a:id≠Z:=fun e=>by rw[e,f]at g;cases g
   split at h
   ·rename_i i;injection h with h
    injection h with c d;subst c;subst d;refine⟨?_,by rw[qO _ _ _ _ a.symm];exact f⟩;unfold wY;simp only[qO Y Z id b a,g,i,and_self,qH];rw[N1 Y a.symm]
   ·cases h
  ·cases h
 all_goals first
  |(injection h with h;injection h with c d;subst c;subst d;exact⟨rfl,f⟩)
  |(split at h
    ·rename_i i;injection h with h;injection h with c d;subst c;subst d
     exact⟨by unfold wY;simp only[i,and_self,qH],f⟩
    ·cases h)
  |cases h
theorem Vl{Z:Nat}(b:Option kv):∀{xs ys:zb} {Y Y1:Hp},Y Z=none->wA Y xs=some (ys,Y1)->wA (qv Y Z b) xs=some (ys,qv Y1 Z b)/\Y1 Z=none
 |[],ys,Y,Y1,a,h=>by
  simp only[wA]at h;injection h with h;injection h with c d;subst c;subst d
  exact⟨rfl,a⟩
 |x::l,ys,Y,Y1,a,h=>by
  simp only[wA]at h;split at h
  ·rename_i y Y2 e;split at h
   ·rename_i r f g;injection h with h;injection h with c d;subst c;subst d
    obtain⟨i,j⟩:=VK a b e;obtain⟨k,m⟩:=Vl b j g;exact⟨by simp only[wA,i,k],m⟩
   ·cases h
  ·cases h
theorem pa{Y Y1:Hp}{x y:O}{Z:Nat}(a:Y Z=none)(b:Option kv)(h:qA Y x=some (y,Y1)):qA (qv Y Z b) x=some (y,qv Y1 Z b)/\Y1 Z=none:=by
 cases x with
 |agg cs=>
  simp only[qA]at h⊢;split at h
  ·rename_i l i c;injection h with h;injection h with d e;subst d;subst e
   obtain⟨f,g⟩:=Vl b a c;exact⟨by simp only[f],g⟩
  ·cases h
 |_=>simp only[qA]at h⊢;exact VK a b h
theorem VL{Z:Nat}(b:Option kv):∀{xs ys:zb} {Y Y1:Hp},Y Z=none->zD Y xs=some (ys,Y1)->zD (qv Y Z b) xs=some (ys,qv Y1 Z b)/\Y1 Z=none
 |[],ys,Y,Y1,a,h=>by
  simp only[zD]at h;injection h with h;injection h with c d;subst c;subst d
  exact⟨rfl,a⟩
 |x::l,ys,Y,Y1,a,h=>by
  simp only[zD]at h;split at h
  ·rename_i y Y2 e;split at h
   ·rename_i r f g;injection h with h;injection h with c d;subst c;subst d
    obtain⟨i,j⟩:=pa a b e;obtain⟨k,m⟩:=VL b j g;exact⟨by simp only[zD,i,k],m⟩
   ·cases h
  ·cases h
theorem zt(a:List Nat)(F:zb->Option O):Ws (zh false a F):=by
 intro args Y Z r k l h;unfold zh at h;split at h
 ·rename_i c Y1 d;split at h
  ·rename_i m hF;split at h
   ·rename_i e;injection h with h
    injection h with f h;injection h with g i;subst f;refine⟨⟨g.symm,i.symm⟩,fun b j=>?_⟩;unfold zh;simp only[(VL b j d).1,hF];rw[zd e]
   ·simp at h
  ·cases h
 ·cases h
structure dY (C:Ctx) (pf:FuncId->Bool) (f:FuncId) (fn:Func) (code:Code):Prop where
 func:C.P.funcs[f]?=some fn
 name:(fn.name== "runtime.NumGoroutine")=false
 body:fn.body=some code
 ok:vL pf C.dyn C.Ns C.bk fn.ntmps code=true
structure xa (dr:Prop) (C:Ctx) (pf:FuncId->Bool):Prop where
 spec:∀g spec,C.Γ g=some spec->kq dr C.P g spec
 quiet:∀g spec,pf g=true->C.Γ g=some spec->Ws spec
 mixed:C.P.follows .mixedOrders=true
 box:∀g spec,C.bk g=true->C.Γ g=some spec->Wf spec:=by intro _ _ h;cases h
 iter:∀g it,C.it g=some it->Bt dr C.P g it:=by intro _ _ h;cases h
abbrev Good:=xa True
section
variable{C:Ctx}{pf:FuncId->Bool}{f:FuncId}{fn:Func}{code:Code}
theorem kx.outer{P:Program}{Y:Hp}{Z:Nat}{S:Nat->Prop}{G:Nat->GI}{w w':World}(h:Inv P w S G Y Z)(k:Fr dr w (fun _=>False) w') :
  kx dr P Y Z S G w Y Z (fun b=>S b\/(w.heap.size<=b/\b<w'.heap.size)) G w':=by
 have c:∀b,b<w.heap.size->w'.heap[b]?=w.heap[b]?:=fun b a=>k.block b a fun h=>h
 have d:∀b,S b->(S b\/(w.heap.size<=b/\b<w'.heap.size))/\w'.heap[b]?=w.heap[b]?:=fun b a=>⟨.inl a,c b (h.st b a)⟩
 refine⟨⟨fun b a=>?_,h.top,fun id b a=>(h.live id b a).mono d (zf _) (fun _ _=>rfl) (c _ (h.live id b a).lt),fun id b a hs=>?_,h.inj,h.iQ.mono d⟩,zf _,fun _ _=>rfl,fun _ a=>.inl a,fun b a=>?_,fun id b a=>.inl ⟨id,b,a,rfl⟩,⟨k.os,k.tape,k.output,k.size,k.drawn,fun b a _=>c b a⟩⟩
 ·rcases a with a|a
  ·exact yb (h.st b a) k.size
  ·exact a.2
 ·rcases hs with hs|hs
  ·exact h.apart id b a hs
  ·have:=(h.live id b a).lt;omega
 ·rcases a with a|a
  ·exact .inl a
  ·exact .inr (.inr a.1)
theorem eA{P:Program}{w:World}{S:Nat->Prop}(G:Nat->GI)(a:∀b,S b->b<w.heap.size)(c:IE P w S):Inv P w S G (fun _=>none) 0:=
 ⟨a,fun _ _ h=>(by cases h),fun _ _ h=>(by cases h),fun _ _ h=>(by cases h),fun _ _ _ _ h=>(by cases h),c⟩
theorem QY{G:Nat->GI}{b:Nat}(h:jz (fun _=>none) G b):False:=by obtain⟨_,_,h,_⟩:=h;cases h
theorem Zip.closed{w:World}{S:Nat->Prop}{G:Nat->GI}{Z:Nat}{xs:zb}{us:List Value}(h:Zip (wJ w S) xs us):Zip (qf w S G Z) xs us:=h.imp fun _ _ h=>.c h
theorem l4{w w':World}{S S':Nat->Prop}{r:O}{v:Value}(h:wJ w S r v)(a:r.flat=true):wJ w' S' r v:=by
 cases h with
 |v h=>exact .v h
 |wG b e=>
  refine .wG b fun j c u d f=>?_
  simp only[O.flat,zV]at a;have:=a c (zG d);have g:=e j c u d f;cases c<;>simp[O.isV]at this;obtain⟨rfl,b⟩:=g.w8;exact .v b
 |_=>simp[O.flat]at a
theorem ZV(c:xa dr C pf)(i:dY C pf f fn code){args:zb}{x:O}{Y1:Hp}{a:Nat}(h:jF C fn args (fun _=>none) 0=some (x,Y1,a))(l:args.length<=fn.ntmps)
  {w:World} {S:Nat->Prop} {vs:List Value} (m:∀b,S b->b<w.heap.size) (j:IE C.P w S) (n:Zip (wJ w S) args vs) :
  Calls C.P f vs.toArray w fun e w'=>∃v S' G',e=.returned v/\Fr dr w (fun _=>False) w'/\Inv C.P w' S' G' Y1 a/\qf w' S' G' a x v/\(∀b,S b->S' b)/\(∀b,S' b->S b\/w.heap.size<=b)/\(∀id blk,Y1 id=some blk->w.heap.size<=(G' id).g):=by
 refine(l3 c.spec c.quiet c.box c.iter c.mixed i.func i.body i.ok h (eA (fun _=>⟨0,0,0⟩) m j) n.closed l).mono fun e w' o=>?_
 obtain⟨v,S',G',p,k,q⟩:=o;refine⟨v,S',G',p,⟨k.fr.os,k.fr.tape,k.fr.output,k.fr.size,k.fr.drawn,fun b d _=>k.fr.block b d QY⟩,k.inv,q,k.keep,fun b d=>?_,fun id blk d=>?_⟩
 ·rcases k.from_ b d with h|h|h
  ·exact .inl h
  ·exact(QY h).elim
  ·exact .inr h
 ·rcases k.own id blk d with h|h
  ·exact(QY h).elim
  ·exact h
theorem rK{w:World}{S:Nat->Prop}{x:O}{u:Value}(h:wJ w S x u)(s:Nat):wJ w S (N0 s x) u:=by
 unfold N0;split
 ·cases h;exact .sl (es:=[]) (fun _ _=>undef) (by simp) (by simp) (by simp[maxLen]) (by simp) (by simp) (by simp)
 ·exact h
theorem Wv{w:World}{S:Nat->Prop}:∀{a:List Nat} {xs:zb} {us:List Value},Zip (wJ w S) xs us->Zip (wJ w S) (yg a xs) us
 |[],xs,us,h=>by unfold yg;exact h
 |s::a,[],us,h=>by unfold yg;exact h
 |s::a,x::xs,us,h=>by obtain⟨u,b,rfl,c,d⟩:=h.jC;simp only[yg];exact .cons (rK c s) (Wv d)
theorem HG{w:World}{S:Nat->Prop}{x y:O}{u:Value}(h:wJ w S x u)(a:Fc x y):wJ w S y u:=by
 rcases a with rfl|⟨rfl,s,rfl⟩
 ·exact h
 ·exact rK h s
theorem tK{w:World}{S:Nat->Prop}{x y:O}{u:Value}(h:wJ w S x u)(a:QN x y):wJ w S y u:=by
 unfold QN at a;split at a
 ·cases h with
  |wG g d=>
   rename_i xs ys us;refine .wG (by omega) fun j e v c f=>?_
   have b:j<xs.length:=by rw[a.1];exact(zi.1 c).1
   exact HG (d j xs[j] v (zl b) f) (a.2 j xs[j] e (zl b) c)
 ·exact HG h a
theorem Bu(hg:xa dr C pf)(q:dY C pf f fn code)(j:Bool)(ns:List Nat)(F:zb->Option O)(hF:∀args r,F args=some r->args.length<=fn.ntmps/\∃s,zq C fn args=some s/\QN s r):kq dr C.P f (zh j ns F):=by
 refine⟨⟨fn,q.func,q.name,by rw[q.body];rfl⟩,?_⟩;intro args Y Z r Y' Z' h w S G vs hi hz;unfold zh at h;split at h
 ·rename_i aZ Y1 u;split at h
  ·rename_i s y;obtain⟨hn,rr,a,z⟩:=hF _ s y;unfold zq at a;split at a
   ·rename_i x hpe nxe A;obtain⟨⟨r1,T⟩,B,k⟩:=zZ a;simp only at k;subst k;obtain⟨S1,t,D,E⟩:=jh (dr:=dr) hi u hz;refine(ZV hg q A hn t.inv.st t.inv.iQ (Wv D)).mono fun e w' hh=>?_
    obtain⟨v,S',G',W,X,l,hx,hs0,H,_⟩:=hh;obtain⟨S2,k2,I⟩:=Yi (dr:=dr) l B hx;have J:=tK I z;have m:∀b,S2 b->S1 b\/(w.heap.size<=b/\b<w'.heap.size):=by
     intro b i;have n:=k2.inv.st b i;rcases k2.from_ b i with h1|⟨id,blk,h1,rfl⟩|h1
     ·rcases H b h1 with K|K
      ·exact .inl K
      ·exact .inr ⟨K,n⟩
     ·rcases Nat.lt_or_ge (G' id).g w.heap.size with h3|h3
      ·rename_i o;have:=o id blk h1;omega
      ·exact .inr ⟨h3,n⟩
     ·exact absurd h1 (by omega)
    split at h
    ·rename_i d;injection h with h
     injection h with L h;injection h with M N;subst L;subst M;subst N;refine⟨v,_,G,W,kx.outer hi X,.c ?_⟩;rcases d with Q|R
     ·exact l4 J Q
     ·have p:=E R;exact J.mono fun b i=>⟨by rw[<-p];exact m b i,rfl⟩
    ·split at h
     ·injection h with h;injection h with L h;injection h with M N;subst L;subst M;subst N;exact⟨v,_,G,W,t.trans (kx.outer t.inv X),.c (J.mono fun b i=>⟨m b i,rfl⟩)⟩
     ·cases h
   ·cases a
  ·cases h
 ·cases h
end
variable{dr:Prop}
section
variable{P:Program}{Y1 Y2 hpe:Hp}{Z nxe:Nat}{S1 S':Nat->Prop}{G G':Nat->GI}{w w':World}{D:Nat->Prop}
theorem eB(hi:Inv P w S1 G Y1 Z)(a:∀id b,Y2 id=some b->Y1 id=some b/\¬D (G id).g)(l:∀b,D b->jz Y1 G b)(d:Fr dr w D w')(e:Inv P w' S' G' hpe nxe)(f:∀b,S1 b->S' b)(i:∀b,S' b->S1 b\/D b\/w.heap.size<=b) :
  kx dr P Y1 Z S1 G w Y2 Z S' G w':=by
 have m:∀b,S1 b->¬D b:=fun b c hd=>by obtain⟨id,blk,p,rfl⟩:=l b hd;exact hi.apart id blk p c
 have q:∀b,S1 b->S' b/\w'.heap[b]?=w.heap[b]?:=fun b c=>⟨f b c,d.block b (hi.st b c) (m b c)⟩
 refine⟨⟨e.st,fun id b c=>hi.top id b (a id b c).1,fun id b c=>?_,fun id b c hs=>?_,fun id id' b o c n r=>hi.inj id id' b o (a id b c).1 (a id' o n).1 r,e.iQ⟩,zf _,fun _ _=>rfl,f,fun b c=>?_,fun id b c=>.inl ⟨id,b,(a id b c).1,rfl⟩,⟨d.os,d.tape,d.output,d.size,d.drawn,fun k s t=>d.block k s fun hd=>t (l k hd)⟩⟩
 ·have j:=hi.live id b (a id b c).1;exact j.mono q (zf _) (fun _ _=>rfl) (d.block _ j.lt (a id b c).2)
 ·have j:=hi.live id b (a id b c).1;rcases i _ hs with h|h|h
  ·exact hi.apart id b (a id b c).1 h
  ·exact(a id b c).2 h
  ·have:=j.lt;omega
 ·rcases i b c with h|h|h
  ·exact .inl h
  ·exact .inr (.inl (l b h))
  ·exact .inr (.inr h)
theorem Bv(hi:Inv P w S1 G Y1 Z)(f:∀id b,Y2 id=some b->Y1 id=some b/\¬D (G id).g)(L:∀b,D b->jz Y1 G b)(N:Fr dr w D w')(l:Inv P w' S' G' hpe nxe)(E:∀b,S1 b->S' b)(F:∀b,S' b->S1 b\/D b\/w.heap.size<=b)
  {id:Nat} {b:kv} (B:hpe id=some b) (v:b.arr=true) (s:D (G' id).g\/w.heap.size<=(G' id).g) :
  kx dr P Y1 Z S1 G w (qv Y2 Z (some b)) (Z+1) S' (qv G Z (G' id)) w':=by
 have x:=eB hi f L N l E F;have y:∀id' z,Y2 id'=some z->(G id').g≠(G' id).g:=fun id' z M q=>by
  rcases s with h|h
  ·exact(f id' z M).2 (q ▸ h)
  ·have:=(hi.live id' z (f id' z M).1).lt;omega
 have r:∀k,k<Z->qv G Z (G' id) k=G k:=fun k a=>qO _ _ _ _ (by omega)
 have m:∀k,k≠Z->qv Y2 Z (some b) k=Y2 k:=fun k a=>qO _ _ _ _ a
 have H:∀b,S' b->S' b/\w'.heap[b]?=w'.heap[b]?:=fun b B=>⟨B,rfl⟩
 have e:∀k c,Y2 k=some c->k<Z:=fun k c a=>hi.top k c (f k c a).1
 refine⟨⟨l.st,fun k c a=>?_,fun k c a=>?_,fun k c a=>?_,fun k n c A a o q=>?_,l.iQ⟩,by omega,r,x.keep,x.from_,fun n c a=>?_,x.fr⟩
 ·by_cases d:k=Z
  ·omega
  ·rw[m k d]at a;have:=e k c a;omega
 ·by_cases d:k=Z
  ·subst d;simp only[wQ]at a⊢;injection a with a
   subst a;have t:=l.live id _ B;refine⟨t.bs,fun C=>⟨t.size C,t.len C,t.fit C,?_⟩,t.ent⟩;obtain⟨I,Q,R,S⟩:=t.row C;refine⟨I,Q,R,fun i j c T J W=>?_⟩;obtain⟨u,X,K⟩:=S i j c T J W;exact⟨u,X,K.1,.c (K.1 v),K.2.2⟩
  ·rw[m k d]at a;rw[r k (e k c a)];exact(x.inv.live k c a).mono H (by omega) r rfl
 ·by_cases d:k=Z
  ·subst d;simp only[wQ];exact l.apart id b B
  ·rw[m k d]at a;rw[r k (e k c a)];exact x.inv.apart k c a
 ·by_cases d:k=Z<;>by_cases p:n=Z
  ·omega
  ·subst d;rw[m n p]at o;rw[r n (e n A o)]at q;simp only[wQ]at q;exact(y n A o q.symm).elim
  ·subst p;rw[m k d]at a;rw[r k (e k c a)]at q;simp only[wQ]at q;exact(y k c a q).elim
  ·rw[m k d]at a;rw[m n p]at o;rw[r k (e k c a),r n (e n A o)]at q;exact hi.inj k n c A (f k c a).1 (f n A o).1 q
 ·by_cases d:n=Z
  ·subst d;simp only[wQ];rcases s with h|h
   ·exact .inl (L _ h)
   ·exact .inr h
  ·rw[m n d]at a;rw[r n (e n c a)];exact .inl ⟨n,c,(f n c a).1,rfl⟩
theorem Bw{id n:Nat}{v:Value}(h:qf w' S' G' nxe (.own id 0 n) v):qf w' S' (qv G Z (G' id)) (Z+1) (.own Z 0 n) v:=by have a:=h.xh;obtain⟨cap,e,b,c,d,rfl⟩:=h.vK;have:=qf.own (w:=w') (S:=S') (G:=qv G Z (G' id)) (Z:=Z+1) (id:=Z) (off:=0) (n:=n) (cap:=cap) (by omega) b c (by simpa using d) (by simpa using a);simpa using this
end
section
variable{C:Ctx}{pf:FuncId->Bool}{f:FuncId}{fn:Func}{code:Code}
def VM(r:Option kv)(x:O)(Y:Hp)(_:Nat):Prop:=match r with
 |none=>x=.nil
 |some b=>∃id,x=.own id 0 b.es.length/\Y id=some b/\b.arr=true
theorem Qn(K:xa dr C pf)(n:dY C pf f fn code)(L:List Nat)(F:zb->Option (Option kv))(hF:∀args r,F args=some r->args.length<=fn.ntmps/\∃x Y Z,jF C fn args (fun _=>none) 0=some (x,Y,Z)/\VM r x Y Z) :
  kq dr C.P f (yR L F):=by
 refine⟨⟨fn,n.func,n.name,by rw[n.body];rfl⟩,?_⟩;intro args Y Z r N Q h w S G vs hi M;unfold yR at h;split at h
 ·rename_i R Y1 s;obtain⟨S1,g,o,_⟩:=jh (dr:=dr) hi s M;have i:∀id b,Y1 id=some b->Y1 id=some b/\¬False:=fun id b h=>⟨h,fun h=>h⟩
  split at h
  ·rename_i j;obtain⟨t,x,hpe,nxe,k,d⟩:=hF _ none j;injection h with h
   injection h with u h;injection h with y z;subst u;subst y;subst z;simp only[VM]at d;subst d;refine(ZV K n k t g.inv.st g.inv.iQ (Wv o)).mono fun e w' A=>?_
   obtain⟨v,S',G',B,E,a,H,l,m,_⟩:=A;have I:=eB (dr:=dr) (D:=fun _=>False) (Y2:=Y1) g.inv i (fun _ h=>h.elim) E a l (fun b J=>(m b J).imp (fun h=>h) .inr);have:=H.Zj;subst this;exact⟨_,_,_,B,g.trans I,.c .nil⟩
  ·rename_i b j;obtain⟨t,x,hpe,nxe,k,d⟩:=hF _ (some b) j;injection h with h
   injection h with u h;injection h with y z;subst u;subst y;subst z;obtain⟨id,rfl,hid,p⟩:=d;refine(ZV K n k t g.inv.st g.inv.iQ (Wv o)).mono fun e w' A=>?_
   obtain⟨v,S',G',B,E,a,H,l,m,q⟩:=A;have I:=Bv (dr:=dr) (D:=fun _=>False) (Y2:=Y1) g.inv i (fun _ h=>h.elim) E a l (fun b J=>(m b J).imp (fun h=>h) .inr) hid p (.inr (q id b hid));exact⟨_,_,_,B,g.trans I,Bw H⟩
  ·cases h
 ·cases h
end
end Go.AM
namespace Go.AM
open Go.RowKit Go.WideShapes Go.ChangeShapes
variable{dr:Prop}
def Bx(P:Program):Nat->List Field->Option Nat
 |o,[]=>some o
 |o,f::a=>if f.offset=o then Bx P (o+P.cellsOf f.type) a else none
def iV(P:Program)(T:List TypeId):Bool:=T.all fun t=>match P.underlying t with
 |some .bool|some (.int _)|some .string=>P.cellsOf t==1
 |some (.slice e)=>P.cellsOf t==1&&T.contains e&&decide (0<P.cellsOf e)
 |some (.struct a)=>Bx P 0 a.toList==some (P.cellsOf t)&&a.toList.all fun f=>T.contains f.type
 |_=>false
structure Bounds (H:Type) (Bl:Nat->Prop) (Bd:DataW H->Prop):Prop where
 slice:∀es sp,Bd (.slice es sp)->Bl es.length/\∀d∈es,Bd d
 nil:Bl 0
 agg:∀l,Bd (.agg l)->∀d∈l,Bd d
 str:∀b,Bd (.lit (.string b))->Bl b.length
section
variable{H:Type}{V:TypeId×Value->H}{P:Program}{w:World}{sp:Nat->Bool}{held:Bool}{Bl:Nat->Prop}{Bd:DataW H->Prop}
theorem pb{α:Type}{l:List α}{o n j:Nat}(a:j<n):((l.drop o).take n)[j]?=l[o+j]?:=by rw[qu,zd a,qN]
theorem rL{R:O->Value->Prop}{Q:Field->zb->Prop}:∀(e:List Field) (o n:Nat) (cs:List Value),Bx P o e=some n->cs.length=n ->
  (∀f∈e,∃a,Zip R a ((cs.drop f.offset).take (P.cellsOf f.type))/\Q f a) ->
  ∃a:zb,a.length+o=n/\(∀(j:Nat) (g:O) (u:Value),a[j]?=some g->cs[o+j]?=some u->R g u)/\∀f∈e,o<=f.offset/\Q f ((a.drop (f.offset-o)).take (P.cellsOf f.type))
 |[],o,n,cs,c,p,_=>by
  simp only[Bx]at c;injection c with c
  subst c;exact⟨[],by simp,by simp,by simp⟩
 |f::e,o,n,cs,c,p,h=>by
  simp only[Bx]at c;split at c
  ·rename_i s;obtain⟨d,q,t⟩:=h f (by simp);obtain⟨i,y,v,w⟩:=rL e (o+P.cellsOf f.type) n cs c p (fun f' b=>h f' (by simp[b]));have l:d.length=P.cellsOf f.type:=by have:=q.1;simp only[yF,iP]at this;omega
   refine⟨d++i,by simp;omega,fun j g u k r=>?_,fun f' b=>?_⟩
   ·by_cases m:j<d.length
    ·rw[zY m]at k;refine q.2 j g u k ?_;rw[pb (by omega),s];exact r
    ·rw[zS (by omega)]at k;refine v (j-d.length) g u k ?_;rw[show o+P.cellsOf f.type+(j-d.length)=o+j from by omega];exact r
   ·rcases zv.1 b with rfl|b
    ·refine⟨by omega,?_⟩;have:((d++i).drop (f'.offset-o)).take (P.cellsOf f'.type)=d:=by rw[show f'.offset-o=0 from by omega,ke,<-l,List.take_left]
     rw[this];exact t
    ·obtain⟨z,x⟩:=w f' b;refine⟨by omega,?_⟩;have:(d++i).drop (f'.offset-o)=i.drop (f'.offset-(o+P.cellsOf f.type)):=by rw[List.drop_append,zaC (by omega),jJ];congr 1;omega
     rw[this];exact x
  ·cases c
end
section
variable{C:Ctx}{pf:FuncId->Bool}{f:FuncId}{fn:Func}{code:Code}
theorem Lh(n:xa dr C pf)(g:dY C pf f fn code){args:zb}(h:zq C fn args=some (.v (.bool true)))(o:args.length<=fn.ntmps){w:World}{vs:List Value}(i:w.ShapedOpen C.P)(a:∀t∈JK,A5 w (fun b=>b<w.heap.size) t)(p:Zip (wJ w (fun b=>b<w.heap.size)) args vs) :
  Calls C.P f vs.toArray w fun e w'=>e=.returned (.bool true)/\Below w.heap.size w w':=by
 unfold zq at h;split at h
 ·rename_i x q s j;obtain⟨⟨r,Y2⟩,l,m⟩:=zZ h;simp only at m;subst m;refine(ZV n g j o (fun _ u=>u) (IE.Sm i a) p).mono fun e w' y=>?_
  obtain⟨v,D,E,z,c,d,A,_⟩:=y;obtain⟨F,_,B⟩:=Yi (dr:=dr) d l A;obtain⟨rfl,_⟩:=B.w8;exact⟨z,c.os,c.tape,c.output,c.size,fun k g=>c.block k g fun h=>h⟩
 ·cases h
end
end Go.AM
namespace Go.AM
variable{dr:Prop}
attribute [congr] Bh Bi
attribute [simp] Bm Bn Tf Ld tH NU Le Tg NX NW E6 E7 Bj tG Lc E8 o8 E9 ez
 o9 Fa Bp Bq NY
@[simp]theorem Bz(K:Exit->St->Prop)(st:St):Y9 K st=K .normal st:=rfl
@[simp]theorem Tj(id i:Nat)(K:Exit->St->Prop)(st:St)(h:¬i=id):WS id K (.exit i) st=K (.exit i) st:=by simp[WS,h]
@[simp]theorem zx{α:Type}(f:Nat->α)(k i:Nat)(x:α)(h:¬i=k):qv f k x i=f i:=by simp[qv,h]
@[simp]theorem zej(U:Nat->O)(d:Nat)(x:O):put U (some d) x=qv U d x:=rfl
@[simp]theorem zek(U:Nat->O)(x:O):put U none x=U:=rfl
@[simp]theorem zdn(args:zb)(t:Nat):j9 args t=(args[t]?).getD (.wG []):=rfl
@[simp]theorem zgs(U:Nat->O)(t:Nat):get U (.tmp t)=some (U t):=rfl
@[simp]theorem N2(U:Nat->O)(f:Nat):get U (.func f)=some (.fn (.func f) [] []):=rfl
@[simp]theorem zgt(U:Nat->O)(k:IntKind)(n:Int):get U (.const (.int k n))=some (.v (.int k n)):=rfl
@[simp]theorem zel(U:Nat->O)(b:Bool):get U (.const (.bool b))=some (.v (.bool b)):=rfl
@[simp]theorem zgu(U:Nat->O)(s:ByteArray):get U (.const (.string s))=some (.v (.string s)):=rfl
@[simp]theorem zgv(U:Nat->O):get U (.const (.slice none 0 0))=some .nil:=rfl
@[simp]theorem zaT(U:Nat->O):get U (.const .nilFunc)=some (.v .nilFunc):=rfl
@[simp]theorem zgw(U:Nat->O)(cs:Array Value):get U (.const (.agg cs))=(vJ cs.toList).map .agg:=rfl
@[simp]theorem zbT(C:Ctx)(a:Array Oper)(d:Option Tmp)(op:Op)(t:TypeId)(p:String)(b:Array Edge)(st:St):yN C a ⟨d,op,t,p,b,none⟩ st =
  (zX C (get st.U) st.Y st.Z op).map fun r=>⟨put st.U d r.1,r.2.1,r.2.2⟩:=Br C a d op t p b st
def Zq(C:Ctx)(d:Option Tmp)(op:Op)(st:St)(y:Option Bool)(b:Bool):Option St:=
 if y=some b then(zX C (get st.U) st.Y st.Z op).map fun r=>⟨put st.U d r.1,r.2.1,r.2.2⟩else some ⟨put st.U d (.wG []),st.Y,st.Z⟩
theorem tL{C:Ctx}{d:Option Tmp}{op:Op}{st:St}{y a:Option Bool}{b:Bool}(h:y=a):Zq C d op st y b=Zq C d op st a b:=by rw[h]
@[simp]theorem zbU(C:Ctx)(a:Array Oper)(d:Option Tmp)(op:Op)(t:TypeId)(p:String)(c:Array Edge)(j:Nat)(b:Bool)(st:St):yN C a ⟨d,op,t,p,c,some (j,b)⟩ st =
  Zq C d op st (QW a st.U j) b:=by
 unfold yN Zq Region.wanted;simp only[yJ];split
 ·cases zX C (get st.U) st.Y st.Z op<;>rfl
 ·rfl
@[simp]theorem zdo(C:Ctx)(d:Option Tmp)(op:Op)(st:St)(b:Bool):Zq C d op st (some b) b=(zX C (get st.U) st.Y st.Z op).map fun r=>⟨put st.U d r.1,r.2.1,r.2.2⟩:=by simp[Zq]
@[simp]theorem zem(C:Ctx)(d:Option Tmp)(op:Op)(st:St):Zq C d op st (some true) false=some ⟨put st.U d (.wG []),st.Y,st.Z⟩:=by simp[Zq]
@[simp]theorem zen(C:Ctx)(d:Option Tmp)(op:Op)(st:St):Zq C d op st (some false) true=some ⟨put st.U d (.wG []),st.Y,st.Z⟩:=by simp[Zq]
@[simp]theorem zbV(C:Ctx)(d:Option Tmp)(op:Op)(st:St)(b:Bool):Zq C d op st none b=some ⟨put st.U d (.wG []),st.Y,st.Z⟩:=by simp[Zq]
attribute [congr] tL
def VN:O->Option Bool
 | .v (.bool b)=>some b
 |_=>none
@[simp]theorem zaU(b:Bool):VN (.v (.bool b))=some b:=rfl
@[simp]theorem zbW(l:zb):VN (.wG l)=none:=rfl
def Fe(U:Nat->O):Option Nat->Option Bool
 |some d=>VN (U d)
 |none=>none
@[simp]theorem zaV(U:Nat->O)(d:Nat):Fe U (some d)=VN (U d):=rfl
@[simp]theorem zdp(a:Array Oper)(U:Nat->O)(j:Nat):QW a U j=Fe U ((a[j]?).bind (·.dst)):=by
 unfold QW Fe VN;cases (a[j]?).bind (·.dst)with
 |none=>rfl
 |some d=>rfl
section
variable(C:Ctx)(ρ:Operand->Option O)(Y:Hp)(Z:Nat)
@[simp]theorem Tk(x:Operand):zX C ρ Y Z (.move x)=(ρ x).map fun y=>(y,Y,Z):=rfl
@[simp]theorem Li(x:Operand):zX C ρ Y Z (.assign x)=(ρ x).map fun y=>(y,Y,Z):=rfl
def YF(c a b:Option O):Option O:=match c with
 |some (.v (.bool true))=>a
 |some (.v (.bool false))=>b
 |_=>none
@[simp]theorem zbX(a b:Option O):YF (some (.v (.bool true))) a b=a:=rfl
@[simp]theorem zaW(a b:Option O):YF (some (.v (.bool false))) a b=b:=rfl
@[simp]theorem Tl(c a b:Operand):zX C ρ Y Z (.pick c a b)=(YF (ρ c) (ρ a) (ρ b)).map fun y=>(y,Y,Z):=by
 unfold YF;simp only[zX];generalize ρ c=o;cases o with
 |none=>rfl
 |some p=>cases p<;>(try rfl);rename_i x;cases x<;>(try rfl);rename_i t;cases t<;>rfl
@[simp]theorem zbY(op:BinOp)(t a:TypeId)(x y:Operand):zX C ρ Y Z (.binOp op t x y a)=(do let p <-ρ x;let q <-ρ y;let r <-VB (isK y) C.P op t p q;some (r,Y,Z)):=by simp only[zX];cases ρ x<;>cases ρ y<;>(try rfl);simp;cases VB (isK y) C.P op t _ _<;>rfl
@[simp]theorem zeo(op:UnOp)(t:TypeId)(x:Operand):zX C ρ Y Z (.unOp op t x)=(do let p <-ρ x;let r <-SL op p;some (r,Y,Z)):=by simp only[zX];cases ρ x<;>(try rfl);simp;cases SL op _<;>rfl
@[simp]theorem Tm(s d:TypeId)(x:Operand):zX C ρ Y Z (.convert s d x)=(do let p <-ρ x;let r <-aE C.P s d p;some (r,Y,Z)):=by simp only[zX];cases ρ x<;>(try rfl);simp;cases aE C.P s d _<;>rfl
@[simp]theorem Tn(t:TypeId)(x:Operand):zX C ρ Y Z (.load t x)=(do let p <-ρ x;let r <-xv C.P Y t p;some (r,Y,Z)):=by simp only[zX];cases ρ x<;>(try rfl);simp;cases xv C.P Y t _<;>rfl
@[simp]theorem zep(t:TypeId)(a x:Operand):zX C ρ Y Z (.store t a x)=(do let p <-ρ a;let q <-ρ x;let h <-QU C.P Y t p q;some (.wG [],h,Z)):=by simp only[zX];cases ρ a<;>cases ρ x<;>(try rfl);simp;cases QU C.P Y t _ _<;>rfl
@[simp]theorem tM(t:TypeId)(x:Operand)(f:Nat):zX C ρ Y Z (.fieldAddr t x f)=(do let p <-ρ x;let r <-yX C.P t f p;some (r,Y,Z)):=by simp only[zX];cases ρ x<;>(try rfl);simp;cases yX C.P t f _<;>rfl
@[simp]theorem N3(t:TypeId)(x:Operand)(f:Nat):zX C ρ Y Z (.field t x f)=(do let p <-ρ x;let r <-Z7 C.P t f p;some (r,Y,Z)):=by simp only[zX];cases ρ x<;>(try rfl);simp;cases Z7 C.P t f _<;>rfl
@[simp]theorem tN(t:TypeId)(x i:Operand):zX C ρ Y Z (.indexAddr t x i)=(do let p <-ρ x;let q <-ρ i;let r <-qJ C.P Y t p q;some (r,Y,Z)):=by simp only[zX];cases ρ x<;>cases ρ i<;>(try rfl);simp;cases qJ C.P Y t _ _<;>rfl
@[simp]theorem N4(t:TypeId)(x i:Operand):zX C ρ Y Z (.index t x i)=(do let p <-ρ x;let q <-ρ i;let r <-QV C.P t p q;some (r,Y,Z)):=by simp only[zX];cases ρ x<;>cases ρ i<;>(try rfl);simp;cases QV C.P t _ _<;>rfl
@[simp]theorem N5(t:TypeId)(x:Operand)(lo hi:Option Operand):zX C ρ Y Z (.slice t x lo hi none)=(do let p <-ρ x;let r <-jy C.P Y t p (lo.map ρ) (hi.map ρ);some (r,Y,Z)):=by simp only[zX];cases ρ x<;>(try rfl);simp;cases jy C.P Y t _ _ _<;>rfl
@[simp]theorem To(t:TypeId)(l c:Operand):zX C ρ Y Z (.makeSlice t l c)=(do let p <-ρ l;let q <-ρ c;xM C.P Y Z t p q):=by simp only[zX];cases ρ l<;>cases ρ c<;>rfl
def JN(i:Nat):O->Option O
 | .wG vs=>vs[i]?
 |_=>none
@[simp]theorem Tp(i:Nat)(vs:zb):JN i (.wG vs)=vs[i]?:=rfl
@[simp]theorem Ff(x:Operand)(i:Nat):zX C ρ Y Z (.extract x i)=(do let p <-ρ x;let r <-JN i p;some (r,Y,Z)):=by
 simp only[zX];cases ρ x with
 |none=>rfl
 |some p=>cases p<;>(try rfl);simp[JN];rename_i vs;cases vs[i]?<;>rfl
@[simp]theorem zeq(t:TypeId):zX C ρ Y Z (.alloc t)=(do let n <-qz C.P t;let z <-yL C.P t;if 0<n/\z.length=n then some (.ref Z 0 0,qv Y Z (some ⟨t,n,false,[z]⟩),Z+1)else none):=by simp only[zX];cases qz C.P t<;>cases yL C.P t<;>rfl
@[simp]theorem zg9(t:TypeId)(x:Operand):zX C ρ Y Z (.box t x)=(do let n <-qz C.P t;let y <-ρ x;if 0<n/\y.cells.length=n/\y.cells.all O.wZ=true then some (.ref Z 0 0,qv Y Z (some ⟨t,n,false,[y.cells]⟩),Z+1)else none):=by simp only[zX];cases qz C.P t<;>cases ρ x<;>rfl
@[simp]theorem zer(t:TypeId)(a:Array (Nat×Operand)):zX C ρ Y Z (.build t a)=(do let q <-vn ρ a.toList;let r <-z8 C.P t q;some (r,Y,Z)):=by simp only[zX];cases vn ρ a.toList<;>(try rfl);simp;cases z8 C.P t _<;>rfl
@[simp]theorem SM(t:TypeId)(n:Nat)(a:Array (Nat×Operand)):zX C ρ Y Z (.buildSlice t n a)=(do let q <-vn ρ a.toList;zp C.P Y Z t n q):=by simp only[zX];cases vn ρ a.toList<;>rfl
@[simp]theorem zaX(f:Fn)(a b:Array Operand):zX C ρ Y Z (.makeFunc f a b)=(do let p <-ya (a.toList.map ρ);let q <-ya (b.toList.map ρ);some (.fn f p q,Y,Z)):=by simp only[zX];cases ya (a.toList.map ρ)<;>cases ya (b.toList.map ρ)<;>rfl
@[simp]theorem Tq(f:Operand)(args:Array Operand)(ts:Array TypeId):zX C ρ Y Z (.call {callee:=.value f,args:=args,argTypes:=ts})=(do let xs <-ya (args.toList.map ρ);jD C Y Z (ρ f) xs):=by simp only[zX,xN];cases ya (args.toList.map ρ)<;>rfl
@[simp]theorem Fg(b:Builtin)(args:Array Operand)(ts:Array TypeId):zX C ρ Y Z (.call {callee:=.builtin b,args:=args,argTypes:=ts})=(do let xs <-ya (args.toList.map ρ);yt C.P Y Z ts b xs):=by simp only[zX,xN];cases ya (args.toList.map ρ)<;>rfl
end
@[simp]theorem zaY{α:Type}:ya ([]:List (Option α))=some []:=rfl
@[simp]theorem Tr{α:Type}(x:α)(l:List (Option α)):ya (some x::l)=(ya l).map (x::·):=rfl
@[simp]theorem zdq(ρ:Operand->Option O):vn ρ []=some []:=rfl
@[simp]theorem zbZ(ρ:Operand->Option O)(i:Nat)(x:Operand)(l:List (Nat×Operand)):vn ρ ((i,x)::l)=(do let p <-ρ x;let r <-vn ρ l;some ((i,p)::r)):=by simp only[vn];cases ρ x<;>cases vn ρ l<;>rfl
theorem Fh(C:Ctx)(Y:Hp)(Z g:Nat)(first a xs:zb)(b:AM.Spec)(h:C.Γ g=some b):jD C Y Z (some (.fn (.func g) first a)) xs=b (first++xs++a) Y Z:=by simp[jD,h]
section
variable(P:Program)(Y:Hp)(Z:Nat)(t:TypeId)
@[simp]theorem zgx(op:BinOp)(k:IntKind)(a b:Int):Qj P op t (.v (.int k a)) (.v (.int k b))=Nv op k a b:=by simp[Qj]
@[simp]theorem zgy(op:BinOp)(a b:ByteArray):Qj P op t (.v (.string a)) (.v (.string b))=Nw op a b:=rfl
@[simp]theorem zha(b:Bool):SL .not (.v (.bool b))=some (.v (.bool !b)):=rfl
@[simp]theorem zhb(k:IntKind)(n:Int):SL .neg (.v (.int k n))=some (.v (.int k (k.wrap (0-n)))):=rfl
@[simp]theorem zes(cs:zb):xv P Y t (.ptr cs)=qP P t cs:=rfl
@[simp]theorem zet(id i j:Nat):xv P Y t (.ref id i j)=(do let b <-Y id;let c <-b.es[i]?;qP P t (c.drop j)):=by
 simp only[xv];cases Y id with
 |none=>rfl
 |some b=>simp;cases b.es[i]?<;>rfl
@[simp]theorem SN(f:Nat)(cs:zb):yX P t f (.ptr cs)=(do let q <-zJ P t f;if q.2.1=0 then none else some (.ptr (cs.drop q.1))):=by simp only[yX];cases zJ P t f<;>rfl
@[simp]theorem SO(f id i j:Nat):yX P t f (.ref id i j)=(do let q <-zJ P t f;if q.2.1=0 then none else some (.ref id i (j+q.1))):=by simp only[yX];cases zJ P t f<;>rfl
@[simp]theorem zgz(s:ByteArray):Ki P t (.v (.string s))=match P.underlying t with|some .string=>some (.v (.int .i64 s.size))|_=>none:=rfl
@[simp]theorem zhc(s:Nat)(es:List zb):Ki P t (.sl s es)=(yf P t).map fun _=>.v (.int .i64 es.length):=rfl
@[simp]theorem zgA:Ki P t .nil=(yf P t).map fun _=>.v (.int .i64 0):=rfl
@[simp]theorem zgB(id off n:Nat):Ki P t (.own id off n)=(yf P t).map fun _=>.v (.int .i64 n):=rfl
theorem rM(i:Int)(x:O)(d:∀cs,x≠.ptr cs)(e:∀a b c,x≠.ref a b c):Zb P t i x=none:=by
 unfold Zb;split
 ·split
  ·split
   ·split
    ·exact absurd rfl (d _)
    ·exact absurd rfl (e _ _ _)
    ·rfl
   ·rfl
  ·rfl
 ·rfl
@[simp]theorem zeu(s:Nat)(es:List zb)(k:IntKind)(i:Int):qJ P Y t (.sl s es) (.v (.int k i))=(do let e <-yf P t;let n <-qz P e;if s=n/\0<n/\0<=i then(es[i.toNat]?).map .ptr else none):=by
 simp only[qJ];cases yf P t with
 |none=>exact(rM P t i _ (fun _=>by simp) (fun _ _ _=>by simp)).trans rfl
 |some e=>simp;cases qz P e<;>rfl
@[simp]theorem zdr(id off n:Nat)(k:IntKind)(i:Int):qJ P Y t (.own id off n) (.v (.int k i))=(do let e <-yf P t;let m <-qz P e;let b <-Y id;if b.e=e/\0<m/\0<=i/\i.toNat<n then some (.ref id (off+i.toNat) 0)else none):=by
 simp only[qJ];cases yf P t with
 |none=>exact(rM P t i _ (fun _=>by simp) (fun _ _ _=>by simp)).trans rfl
 |some e=>simp;cases qz P e<;>(try rfl);simp;cases Y id<;>rfl
end
@[simp]theorem Ts(P:Program)(Y:Hp)(Z:Nat)(ts:Array TypeId)(x:O):yt P Y Z ts .len [x]=(do let t <-ts[0]?;let y <-Ki P t x;some (y,Y,Z)):=by
 simp only[yt];cases ts[0]? with
 |none=>rfl
 |some t=>simp;cases Ki P t x<;>rfl
@[simp]theorem Tt(P:Program)(Y:Hp)(Z:Nat)(ts:Array TypeId)(xs:zb):yt P Y Z ts .min xs=(Nx xs).map fun y=>(y,Y,Z):=rfl
@[simp]theorem Tu(P:Program)(Y:Hp)(Z:Nat)(ts:Array TypeId)(xs:zb):yt P Y Z ts .max xs=(Ny xs).map fun y=>(y,Y,Z):=rfl
@[simp]theorem zb0(P:Program)(Y:Hp)(Z:Nat)(ts:Array TypeId)(s x:O):yt P Y Z ts .append [s,x]=(do let t <-ts[0]?;let u <-ts[1]?;yK P Y Z t u s x):=by simp only[yt];cases ts[0]?<;>cases ts[1]?<;>rfl
@[simp]theorem zds(P:Program)(Y:Hp)(n:Nat)(e t u:TypeId)(i o k:Nat):lA P Y n e t u (.own i o k)=if u=t then view Y n (.own i o k)else none:=rfl
@[simp]theorem zev(P:Program)(Y:Hp)(n:Nat)(e t u:TypeId)(k:Nat)(es:List zb):lA P Y n e t u (.sl k es)=if u=t then view Y n (.sl k es)else none:=rfl
@[simp]theorem zdt(P:Program)(Y:Hp)(n:Nat)(e t u:TypeId):lA P Y n e t u .nil=if u=t then view Y n .nil else none:=rfl
@[simp]theorem zew(P:Program)(Y:Hp)(n:Nat)(e t u:TypeId):lA P Y n e t u .em=if u=t then view Y n .em else none:=rfl
@[simp]theorem zdu(P:Program)(Y:Hp)(n:Nat)(e t u:TypeId)(b:ByteArray):lA P Y n e t u (.v (.string b))=if S9 P u=true/\Hz P e=true then some (b.data.toList.map fun c=>[.v (.int .u8 c.toNat)])else none:=rfl
@[simp]theorem zdv(P:Program)(Y:Hp)(Z:Nat)(ts:Array TypeId)(x:O):yt P Y Z ts .clear [x]=(do let t <-ts[0]?;ej P Y Z t x):=by simp only[yt];cases ts[0]?<;>rfl
@[simp]theorem zex(P:Program)(Y:Hp)(Z:Nat)(ts:Array TypeId)(s x:O):yt P Y Z ts .copy [s,x]=(do let t <-ts[0]?;HA P Y Z t s x):=by simp only[yt];cases ts[0]?<;>rfl
attribute [simp] Nx XD Ny XE Nv Nw ja xO Yg
@[simp]theorem zdw(cs:zb):O.cells (.agg cs)=cs:=rfl
@[simp]theorem zdx(cs:zb):O.cells (.wG cs)=[.wG cs]:=rfl
@[simp]theorem zgC(x:Value):O.cells (.v x)=[.v x]:=rfl
@[simp]theorem zdy:O.cells .nil=[.nil]:=rfl
@[simp]theorem zey:O.cells .em=[.em]:=rfl
@[simp]theorem zez(s:Nat)(es:List zb):O.cells (.sl s es)=[.sl s es]:=rfl
@[simp]theorem zdz(cs:zb):O.cells (.ptr cs)=[.ptr cs]:=rfl
@[simp]theorem zdA(i o n:Nat):O.cells (.own i o n)=[.own i o n]:=rfl
@[simp]theorem zdB(i o n:Nat):O.cells (.ref i o n)=[.ref i o n]:=rfl
@[simp]theorem zeA(f:Fn)(a b:zb):O.cells (.fn f a b)=[.fn f a b]:=rfl
@[simp]theorem zeB(x:Value):O.wZ (.v x)=true:=rfl
@[simp]theorem zb1:O.wZ .nil=true:=rfl
@[simp]theorem zdC:O.wZ .em=true:=rfl
@[simp]theorem zdD(s:Nat)(es:List zb):O.wZ (.sl s es)=true:=rfl
@[simp]theorem zb2(cs:zb):O.wZ (.ptr cs)=true:=rfl
@[simp]theorem zb3(i o n:Nat):O.wZ (.own i o n)=true:=rfl
@[simp]theorem zb4(i o n:Nat):O.wZ (.ref i o n)=true:=rfl
@[simp]theorem zdE(f:Fn)(a b:zb):O.wZ (.fn f a b)=true:=rfl
@[simp]theorem zb5(cs:zb):O.wZ (.agg cs)=false:=rfl
@[simp]theorem zb6(cs:zb):O.wZ (.wG cs)=false:=rfl
attribute [simp] wY qA zD wA AM.freeze O.flat O.isV O.noOwn
@[simp]theorem Tv(i o n:Nat):O.vk (.own i o n)=true:=rfl
@[simp]theorem zb7(x:Value):O.vk (.v x)=false:=rfl
@[simp]theorem Tw:O.vk .nil=false:=rfl
@[simp]theorem zaZ:O.vk .em=false:=rfl
@[simp]theorem za0(s:Nat)(es:List zb):O.vk (.sl s es)=false:=rfl
@[simp]theorem Tx(cs:zb):O.vk (.ptr cs)=false:=rfl
@[simp]theorem Ty(i o n:Nat):O.vk (.ref i o n)=false:=rfl
@[simp]theorem za1(f:Fn)(a b:zb):O.vk (.fn f a b)=false:=rfl
@[simp]theorem zgD{α:Type}(f:Nat->α)(k:Nat)(x y:α):qv (qv f k x) k y=qv f k y:=by funext i;simp only[qv];split<;>rfl
@[simp]theorem zdF(P:Program)(Y:Hp)(t:TypeId)(id i j:Nat)(x:O):QU P Y t (.ref id i j) x=(do
  let a <-Y id;let q <-(if a.arr=true then qA Y x else some (x,Y));let b <-q.2 id;let n <-qz P t;let c <-b.es[i]?
  if q.1.cells.length=n/\j+n<=c.length/\q.1.cells.all O.wZ=true then some (qv q.2 id (some ⟨b.e,b.s,b.arr,b.es.set i (ja c j q.1.cells)⟩))else none):=by
 simp only[QU];cases Y id with
 |none=>rfl
 |some a=>
  simp only[Option.bind_eq_bind,z7];generalize (if a.arr=true then qA Y x else some (x,Y))=o;cases o with
  |none=>rfl
  |some q=>
   obtain⟨y,d⟩:=q;simp only[z7];cases d id with
   |none=>rfl
   |some b=>
    simp only[z7];cases qz P t with
    |none=>rfl
    |some n=>simp only[z7];cases b.es[i]?<;>rfl
@[simp]theorem zgE(x y:Value)(Y:Hp)(Z:Nat):wa (.v y) (.v x) Y Z=(x=y):=by simp[wa]
def Vm:O->Int
 | .v (.int _ n)=>n
 |_=>0
@[simp]theorem zdG(k:IntKind)(n:Int):Vm (.v (.int k n))=n:=rfl
theorem wu{n:Int}(a:-9223372036854775808<=n)(b:n<=9223372036854775807):IntKind.i64.wrap n=n:=by rw[AP];omega
variable{dr:Prop}
open Classical in
noncomputable def ql {α b:Type} (V:α->zb) (pre:α->Prop) (out:α->b):zb->Option b:=fun args=>
 if h:∃a,args=V a/\pre a then some (out (Classical.choose h))else none
theorem qF{α e:Type}{V:α->zb}{pre:α->Prop}{out:α->e}(d:∀a b,V a=V b->a=b){a:α}(h:pre a):ql V pre out (V a)=some (out a):=by have c:∃b,V a=V b/\pre b:=⟨a,rfl,h⟩;unfold ql;rw[zg7 c];have:=jr c;rw[<-d _ _ this.1]
theorem zN{α c:Type}{V:α->zb}{pre:α->Prop}{out:α->c}{args:zb}{r:c}(h:ql V pre out args=some r):∃a,args=V a/\pre a/\r=out a:=by
 unfold ql at h;split at h
 ·rename_i b;injection h with h
  have:=jr b;exact⟨_,this.1,this.2,h.symm⟩
 ·cases h
abbrev Qg:=List (Nat×AM.Spec)
def lookup:Qg->Nat->Option AM.Spec
 |[],_=>none
 |(k,s)::l,g=>if g=k then some s else lookup l g
@[simp]theorem gm(k:Nat)(s:AM.Spec)(l:Qg)(g:Nat):lookup ((k,s)::l) g=if g=k then some s else lookup l g:=rfl
def zR(P:Program)(l:Qg):Ctx:=⟨P,lookup l,fun _=>[],fun _=>[],fun _=>false,fun _=>[],fun _=>none⟩
@[simp]theorem zdH(P:Program)(l:Qg)(i:Nat):(zR P l).dyn i=[]:=rfl
@[simp]theorem SP(P:Program)(l:Qg)(i:Nat)(a:Array Oper)(d:Bool)(st:St)(K:Exit->St->Prop):Zy (zR P l) (.region i a d) st K=iU (zR P l) a a.toList st (Y9 K):=YE _ i a d st K rfl rfl
def Kr(P:Program)(l:Qg)(a:Nat->List (Tmp×Tmp)):Ctx:=⟨P,lookup l,a,fun _=>[],fun _=>false,fun _=>[],fun _=>none⟩
@[simp]theorem zeC(P:Program)(l:Qg)(a:Nat->List (Tmp×Tmp)):(Kr P l a).P=P:=rfl
@[simp]theorem zgF(P:Program)(l:Qg):(zR P l).P=P:=rfl
@[simp]theorem zgG(P:Program)(l:Qg)(Y:Hp)(Z g:Nat)(a b xs:zb):jD (zR P l) Y Z (some (.fn (.func g) a b)) xs=(lookup l g).bind fun s=>s (a++xs++b) Y Z:=by unfold jD zR;simp only;cases lookup l g<;>rfl
@[simp]theorem zeD(P:Program)(l:Qg)(c:Nat->List (Tmp×Tmp))(Y:Hp)(Z g:Nat)(a b xs:zb):jD (Kr P l c) Y Z (some (.fn (.func g) a b)) xs=(lookup l g).bind fun s=>s (a++xs++b) Y Z:=by unfold jD Kr;simp only;cases lookup l g<;>rfl
def cx(dr:Prop)(P:Program)(q:List Nat):Qg->Prop
 |[]=>True
 |(g,s)::l=>kq dr P g s/\(q.contains g=true->Ws s)/\cx dr P q l
theorem qw{P:Program}{l:Qg}{q:List Nat}(c:P.follows .mixedOrders=true)(h:cx dr P q l):xa dr (zR P l) (fun g=>q.contains g):=by
 have a:∀(l:Qg),cx dr P q l->∀g s,lookup l g=some s->kq dr P g s/\(q.contains g=true->Ws s):=by
  intro l
  induction l with
  |nil=>intro _ g s h;cases h
  |cons x l d=>
   obtain⟨k,sp⟩:=x;rintro⟨e,f,i⟩ g s hs;simp only[gm]at hs;split at hs
   ·rename_i b;injection hs with hs
    subst hs;subst b;exact⟨e,f⟩
   ·exact d i g s hs
 exact⟨fun g s hs=>(a l h g s hs).1,fun g s j hs=>(a l h g s hs).2 j,c,(fun _ _ h=>by cases h),(fun _ _ h=>by cases h)⟩
def AllE(dr:Prop)(P:Program):Qg->Prop
 |[]=>True
 |(g,s)::l=>kq dr P g s/\AllE dr P l
abbrev g0F:Nat->Bool:=fun g=>([]:List Nat).contains g
abbrev Gd(C:Ctx):Prop:=AM.Good C g0F
theorem allE{P:Program}:∀{l:Qg},AllE dr P l->cx dr P [] l
 |[],_=>trivial
 |(_,_)::_,h=>⟨h.1,by simp,allE h.2⟩
theorem zU{P:Program}{l:Qg}(a:P.follows .mixedOrders=true)(h:AllE dr P l):xa dr (zR P l) g0F:=qw (q:=[]) a (allE h)
theorem qG(k:Nat)(h:k<9223372036854775807:=by omega):IntKind.i64.wrap ((k:Int)+1)=(k:Int)+1:=wu (by omega) (by omega)
theorem wz(n:Int)(h:-9223372036854775808<=n/\n<=9223372036854775807:=by omega):IntKind.i64.wrap n=n:=wu h.1 h.2
theorem BA{P:Program}{l:Qg}{q:List Nat}(a:Nat->List (Tmp×Tmp))(b:P.follows .mixedOrders=true)(h:cx dr P q l):xa dr (Kr P l a) (fun g=>q.contains g):=
 let g:=qw b h
 ⟨g.spec,g.quiet,g.mixed,(fun _ _ h=>by cases h),(fun _ _ h=>by cases h)⟩
def xx(r:O)(x:O)(Y:Hp)(_:Nat):Prop:=∃a,(AM.freeze Y x).map (·.1)=some a/\QN a r
theorem kh{C:Ctx}{fn:Func}{code:Code}{args:zb}{r:O}(b:fn.body=some code)
  (h:Zy C code ⟨j9 args,fun _=>none,0⟩ (Jt C.P fn (xx r))):∃a,zq C fn args=some a/\QN a r:=by
 obtain⟨x,f,g,c,a,d,e⟩:=qE b h;exact⟨a,by unfold zq;simp only[c];exact d,e⟩
theorem qb(x:O):QN x x:=by
 unfold QN;split
 ·exact⟨rfl,fun j x y b a=>by rw[b]at a;injection a with a;exact .inl a⟩
 ·exact .inl rfl
theorem Ks{C:Ctx}{fn:Func}{code:Code}{args:zb}{Y:Hp}{Z:Nat}{r:Option kv}(c:fn.body=some code)
  (h:Zy C code ⟨j9 args,Y,Z⟩ (Jt C.P fn (VM r))):∃x a b,jF C fn args Y Z=some (x,a,b)/\VM r x a b:=qE c h
def qT(Y:Hp)(Z:Nat)(e s:Nat)(v:O)(xs:List zb):Prop:=(v=.nil/\xs=[])\/∃id,id<Z/\v=.own id 0 xs.length/\Y id=some ⟨e,s,true,xs⟩
def Zl(v:O)(Y:Hp):Hp:=match v with
 | .own id _ _=>qv Y id none
 |_=>Y
theorem qT.nil(Y:Hp)(Z e s:Nat):qT Y Z e s .nil []:=.inl ⟨rfl,rfl⟩
theorem qT.len{P:Program}{Y:Hp}{Z e s:Nat}{v:O}{xs:List zb}{t:TypeId}(h:qT Y Z e s v xs)(a:yf P t=some e):Ki P t v=some (.v (.int .i64 xs.length)):=by rcases h with⟨rfl,rfl⟩|⟨id,_,rfl,_⟩<;>simp[a]
theorem qT.jd{P:Program}{Y:Hp}{Z e s by_:Nat}{v:O}{xs:List zb}{c z:zb}{t:TypeId}(h:qT Y Z e s v xs)(g:yf P t=some e)(hs:qz P e=some s)(i:js P e=some by_)(j:yL P e=some z)
  (a:z.length=s) (k:0<s) (b:xs.length+1<=maxLen) (d:(xs.length+1)*by_<=140737488355328) :
  yK P (qv Y Z (some ⟨e,s,true,[c]⟩)) (Z+1) t t v (.own Z 0 1) =
   some (.own (Z+1) 0 (xs.length+1),qv (Zl v (qv Y Z (some ⟨e,s,true,[c]⟩))) (Z+1) (some ⟨e,s,true,xs++[c]⟩),Z+2):=by
 rcases h with⟨rfl,rfl⟩|⟨id,hid,rfl,l⟩
 ·simp at b d;simp[yK,g,hs,i,j,a,k,b,d,AM.view,Zl]
 ·have f:¬id=Z:=by omega
  simp[yK,g,hs,i,j,a,k,b,d,AM.view,Zl,f,l]
theorem qT.after{Y:Hp}{Z e s:Nat}{v:O}{xs:List zb}{c:zb}{tmp:Option kv}:qT (qv (Zl v (qv Y Z tmp)) (Z+1) (some ⟨e,s,true,xs++[c]⟩)) (Z+2) e s (.own (Z+1) 0 (xs.length+1)) (xs++[c]):=
 .inr ⟨Z+1,by omega,by simp,by simp⟩
theorem yM{Y:Hp}{Z e s:Nat}{v:O}{xs:List zb}(h:qT Y Z e s v xs)(b:Hp)(id:Nat)(a:∀n,v≠.own id 0 n):Zl v b id=b id:=by
 rcases h with⟨rfl,rfl⟩|⟨k,c,rfl,d⟩
 ·rfl
 ·have:¬id=k:=fun e=>a _ (by rw[e])
  simp[Zl,this]
theorem qT.freeze{Y:Hp}{Z e s:Nat}{v:O}{xs:List zb}(h:qT Y Z e s v xs)(a:Nat):xx (.sl s xs) v Y a:=by
 rcases h with⟨rfl,rfl⟩|⟨id,hid,rfl,b⟩
 ·exact⟨.nil,by simp,.inr ⟨rfl,s,rfl⟩⟩
 ·exact⟨.sl s xs,by simp[b],qb _⟩
theorem qT.zaH{Y:Hp}{Z e s:Nat}{v:O}{xs:List zb}(h:qT Y Z e s v xs)(y:Value)(f:Nat):xx (.wG [.sl s xs,.v y]) (.wG [v,.v y]) Y f:=by
 rcases h with⟨rfl,rfl⟩|⟨id,hid,rfl,g⟩
 ·refine⟨.wG [.nil,.v y],by simp,rfl,fun j a b c d=>?_⟩
  match j,c,d with
  | 0,c,d=>simp at c d;subst c;subst d;exact .inr ⟨rfl,s,rfl⟩
  | 1,c,d=>simp at c d;subst c;subst d;exact .inl rfl
  |j+2,c,d=>simp at c
 ·exact⟨.wG [.sl s xs,.v y],by simp[g],qb _⟩
theorem kS{α c:Type}{f:α->c}(h:∀a b,f a=f b->a=b):∀{xs ys:List α},xs.map f=ys.map f->xs=ys
 |[],[],_=>rfl
 |[],y::ys,e=>by simp at e
 |x::xs,[],e=>by simp at e
 |x::xs,y::ys,e=>by simp at e;rw[h x y e.1,kS h e.2]
def Tz(I:Nat->(Nat->O)->Hp->Nat->Prop)(n k:Nat)(K:Exit->St->Prop)(e:Exit)(st:St):Prop:=match e with
 | .normal=>k+1<=n/\I (k+1) st.U st.Y st.Z
 |e=>K e st
@[simp]theorem za2(I:Nat->(Nat->O)->Hp->Nat->Prop)(n k:Nat)(K:Exit->St->Prop)(st:St):Tz I n k K .normal st=(k+1<=n/\I (k+1) st.U st.Y st.Z):=rfl
@[simp]theorem zeE(I:Nat->(Nat->O)->Hp->Nat->Prop)(n k:Nat)(K:Exit->St->Prop)(st:St):Tz I n k K .ret st=K .ret st:=rfl
@[simp]theorem zdI(I:Nat->(Nat->O)->Hp->Nat->Prop)(n k i:Nat)(K:Exit->St->Prop)(st:St):Tz I n k K (.exit i) st=K (.exit i) st:=rfl
theorem zP{C:Ctx}{b:Code}{st:St}{K:Exit->St->Prop}(I:Nat->(Nat->O)->Hp->Nat->Prop)(n:Nat)(j:I 0 st.U st.Y st.Z)
  (a:∀k U Y Z,k<=n->I k U Y Z->Zy C b ⟨U,Y,Z⟩ (Tz I n k K)):Zy C (.loop b) st K:=by
 have f:∀d k st,n-k=d->k<=n->I k st.U st.Y st.Z->Zy C (.loop b) st K:=by
  intro d
  induction d with
  |zero=>
   intro k st hd g i;rw[zH];refine(a k st.U st.Y st.Z g i).mono fun e c h=>?_
   cases e
   case normal=>have:=h.1;omega
   all_goals exact h
  |succ d l=>
   intro k st hd g i;rw[zH];refine(a k st.U st.Y st.Z g i).mono fun e c h=>?_
   cases e
   case normal=>exact l (k+1) c (by omega) h.1 h.2
   all_goals exact h
 exact f _ 0 st rfl (vA _) j
variable{dr:Prop}
abbrev str(l:za):O:=.v (.string ⟨l.toArray⟩)
@[simp]theorem zeG(l:za):(ByteArray.mk l.toArray).size=l.length:=by simp[ByteArray.size]
@[simp]theorem bget(l:za)(i:Nat):(ByteArray.mk l.toArray)[i]?=l[i]?:=by
 by_cases h:i<l.length
 ·rw[getElem?_pos (ByteArray.mk l.toArray) i (by simpa using h),zl h];rfl
 ·rw[getElem?_neg (ByteArray.mk l.toArray) i (by simpa using h),wT (by omega)]
@[simp]theorem N6(l:za)(a b:Nat):(ByteArray.mk l.toArray).extract a b=⟨((l.drop a).take (b-a)).toArray⟩:=by have h:=Lib.extract_data (ByteArray.mk l.toArray) a b;rw[ByteArray.ext_iff];apply Array.toList_inj.1;rw[h]
theorem wR{a b:za}(h:str a=str b):a=b:=by injection h with h;injection h with h;injection h with h;simpa using zr Array.toList h
@[simp]theorem zdJ(P:Program)(t:TypeId)(l:za)(k:IntKind)(i:Int)(h:P.underlying t=some .string):QV P t (.v (.string ⟨l.toArray⟩)) (.v (.int k i)) =
  if 0<=i then(l[i.toNat]?).map fun b=>.v (.int .u8 b.toNat)else none:=by
 simp only[QV,h,bget];split
 ·cases l[i.toNat]?<;>rfl
 ·rfl
@[simp]theorem zdK(P:Program)(Y:Hp)(t:TypeId)(l:za)(lo hi:Option (Option O))(h:P.underlying t=some .string):jy P Y t (.v (.string ⟨l.toArray⟩)) lo hi =
  (kJ 0 lo).bind fun a=>(kJ l.length hi).bind fun b=>if a<=b/\b<=l.length then some (str ((l.drop a).take (b-a)))else none:=by
 simp only[jy,h,zeG,N6];cases kJ 0 lo<;>(try rfl);cases kJ l.length hi<;>rfl
attribute [simp] kJ
@[simp]theorem TA(P:Program)(t:TypeId)(a b:Bool)(h:P.underlying t=some .bool):Qj P .eql t (.v (.bool a)) (.v (.bool b))=some (.v (.bool (a==b))):=by simp[Qj,h]
@[simp]theorem TB(P:Program)(t:TypeId)(a b:Bool)(h:P.underlying t=some .bool):Qj P .neq t (.v (.bool a)) (.v (.bool b))=some (.v (.bool (!(a==b)))):=by simp[Qj,h]
@[simp]theorem zeH(P:Program)(s d:TypeId)(k:IntKind)(n:Int):aE P s d (.v (.int k n))=(P.underlying s).bind fun _=>(P.underlying d).bind fun u=>match u with|.int a=>some (.v (.int a (a.wrap n)))|_=>none:=by simp only[aE];cases P.underlying s<;>(try rfl);cases P.underlying d<;>(try rfl);rename_i u;cases u<;>rfl
theorem l5(a b:UInt8):((a.toNat:Int)==(b.toNat:Int))=decide (a=b):=by rw[qh];simp[<-Qh];omega
theorem yA{F:zb->Option O}{b:List Nat}{a:Bool}{args c:zb}{Y Y1:Hp}{Z:Nat}{r:O}(d:zD Y args=some (c,Y1))(e:F (yg b c)=some r)(f:r.flat=true\/args.all O.noOwn=true) :
  zh a b F args Y Z=some (r,Y,Z):=by
 unfold zh;simp only[d,e,f,qH]
theorem qV{k:IntKind}{a b:Int}(h:O.v (.int k a)=.v (.int k b)):a=b:=by injection h with h;injection h
theorem Yu{a b:Bool}(h:O.v (.bool a)=.v (.bool b)):a=b:=by injection h with h;injection h
def zeI{α a:Type}(f:α->a)(K:a->Prop)(x:α):Prop:=K (f x)
def zeJ{α a:Type}(f:α->Option a)(K:a->Prop)(x:α):Prop:=VJ (f x) K
@[simp]theorem zdL{α a:Type}(f:α->a)(K:a->Prop)(x:α):zeI f K x=K (f x):=rfl
@[simp]theorem zdM{α a:Type}(f:α->Option a)(K:a->Prop)(x:α):zeJ f K x=VJ (f x) K:=rfl
def QZ(C:Ctx)(pf:FuncId->Bool)(f:FuncId)(fn:Func):Prop:=∃code,dY C pf f fn code
theorem wW{C:Ctx}{pf:FuncId->Bool}{f:FuncId}{fn:Func}(e:xa dr C pf)(b:QZ C pf f fn)(a:Bool)(c:List Nat)(F:zb->Option O)(hF:∀args r,F args=some r->args.length<=fn.ntmps/\∃d,zq C fn args=some d/\QN d r):kq dr C.P f (zh a c F):=
 let⟨_,b⟩:=b
 Bu e b a c F hF
def kOk(pf:FuncId->Bool)(C:Ctx)(fn:Func):Bool:=!(fn.name== "runtime.NumGoroutine")&&match fn.body with
 |some c=>vL pf C.dyn C.Ns C.bk fn.ntmps c
 |none=>false
theorem qD{C:Ctx}{pf:FuncId->Bool}{f:FuncId}{fn:Func}(h:C.P.funcs[f]?=some fn)(a:kOk pf C fn=true:=by kernel_rfl):QZ C pf f fn:=by
 unfold kOk at a;split at a
 ·rename_i c b;simp only[zz,yI]at a;exact⟨c,h,a.1,b,a.2⟩
 ·simp at a
theorem xy{C:Ctx}{pf:FuncId->Bool}{f:FuncId}{fn:Func}{α:Type}{V:α->zb}{pre:α->Prop}{out:α->O}(e:xa dr C pf)(h:C.P.funcs[f]?=some fn)(b:Bool)(c:List Nat)(hF:∀a,pre a->(V a).length<=fn.ntmps/\∃d,zq C fn (V a)=some d/\QN d (out a))(g:kOk pf C fn=true:=by kernel_rfl):kq dr C.P f (zh b c (ql V pre out)):=
 wW e (qD h g) b c _ fun args r h=>by obtain⟨a,rfl,Y,rfl⟩:=zN h;exact hF a Y
theorem Ja{α:Type}{V:α->zb}{pre:α->Prop}{out:α->O}(a:α)(Y:Hp)(Z:Nat)(b:zD Y (V a)=some (V a,Y))(hi:∀x y,V x=V y->x=y)(h:pre a)(c:(out a).flat=true\/(V a).all O.noOwn=true):zh false [] (ql V pre out) (V a) Y Z=some (out a,Y,Z):=
 yA b (by
  have e:∀l:zb,yg [] l=l:=fun l=>by cases l<;>rfl
  rw[e];exact qF hi h) c
noncomputable def yr (C:Ctx) (fn:Func):AM.Spec:=fun args Y Z=>if args.length<=fn.ntmps then jF C fn args Y Z else none
theorem Fi{C:Ctx}{pf:FuncId->Bool}{f:FuncId}{fn:Func}{code:Code}(b:xa dr C pf)(a:dY C pf f fn code):kq dr C.P f (yr C fn):=by
 refine⟨⟨fn,a.func,a.name,by rw[a.body];rfl⟩,?_⟩;intro args Y Z r e g h w S G vs hi c;unfold yr at h;split at h
 ·rename_i d;exact l3 b.spec b.quiet b.box b.iter b.mixed a.func a.body a.ok h hi c d
 ·cases h
theorem ky{C:Ctx}{pf:FuncId->Bool}{f:FuncId}{fn:Func}(a:xa dr C pf)(h:C.P.funcs[f]?=some fn)(b:kOk pf C fn=true:=by kernel_rfl):kq dr C.P f (yr C fn):=let⟨_,k⟩:=qD h b;Fi a k
end Go.AM
namespace Go.AM
open Go.RowKit Go.WideShapes Go.ChangeShapes
variable{dr:Prop}
section
variable{H:Type}{V:TypeId×Value->H}{P:Program}
theorem aL(g:laidOutB P=true){W i:World}(j:Below W.heap.size W i){sp:Nat->Bool}:∀{ts:List TypeId} {vs:List Value} {ds:List (DataW H)} {b:List MemPlace},(∀t∈ts,P.readableRec t=true/\t<P.types.size) ->
  DataW.TrodAll V P W 0 (fun _=>true) true ts vs ds b->(∀p∈b,p.block<W.heap.size)->(∀p∈b,sp p.block=true)->DataW.TrodAll V P i 0 sp true ts vs ds b
 |[],vs,ds,b,_,h,_,_=>by obtain⟨rfl,rfl,rfl⟩:=trodAll_nil h;exact trodAll_mk0
 |t::ts,vs,ds,b,f,h,c,e=>by
  obtain⟨v,k,d,l,p,q,rfl,rfl,rfl,m,n⟩:=trodAll_cons h;exact trodAll_cons_mk (WideElems.Trod_stays g (f t (by simp)).1 (f t (by simp)).2 m (fun x a=>j.same (c x (by simp[a]))) (fun x a=>e x (by simp[a])))
   (aL g j (fun u o=>f u (by simp[o])) n (fun x a=>c x (by simp[a])) (fun x a=>e x (by simp[a])))
theorem N7{f:Func}{s:ChangeSpec}{a h c i:Bool}{W l:World}{args:Array Value}{ds C:List (DataW H)}{before:List MemPlace}(D:laidOutB P=true)(E:∀t∈f.params.toList,P.readableRec t=true/\t<P.types.size)
  (z:s.vars=[]) (u:DataW.Whole V P f.params.toList s.vars a W args.toList ds C before) (j:s.fn H ds={results:=[.lit (.bool true)],args:=ds}) {tb:TypeId} (A:f.resultTypes=#[tb]) (m:P.underlying tb=some .bool) (v:Below W.heap.size W l) :
  s.post V P f a h c i W args (.bool true) l:=by
 have k:∀p∈before,p.block<W.heap.size:=fun p Y=>u.lt p Y
 have w:=u;obtain⟨p,q,F,B,n,G,I⟩:=u;rw[z]at B;obtain⟨rfl,rfl⟩:=trodVars_none B;simp only[yU]at n;subst n;have x:DataW.TrodAll V P W 0 (fun _=>true) true f.params.toList args.toList ds before:=F;have d:∀sp:Nat->Bool,(∀p∈before,sp p.block=true)->DataW.TrodAll V P l 0 sp true f.params.toList args.toList ds before:=fun sp y=>aL D v E x k y
 have o:∀p∈before,(fun b=>decide (b<W.heap.size)) p.block=true:=fun p Y=>by simpa using k p Y
 have g:∀(b:Nat) (sp:Nat->Bool) (hd:Bool),DataW.TrodAll V P l b sp hd f.resultTypes.toList ((Value.bool true).resultList f.resultTypes.size) [.lit (.bool true)] []:=fun b sp hd=>by rw[A];exact trodAll_cons_mk (shut_bool m _) trodAll_mk0
 have e:∀sp,DataW.TrodVars V P l sp s.vars [] []:=fun sp=>by rw[z];rfl
 refine⟨ds,[],before,[],before,[],by simpa using w,?_,?_,?_,World.keptBut_mono (fun p Y=>⟨Y,.inr (.inl Y)⟩) (v.frame (·∈before)),fun _=>?_⟩
 ·rw[yU,j];exact g _ _ _
 ·rw[yU,j];exact d _ o
 ·rw[yU,j];exact e _
 ·refine⟨ok_one A rfl (okWide_bool_mk m _),_,_,([]++before)++[],⟨[]++before,[],trodAll_append (d _ (fun _ _=>rfl)) (g _ _ _),e _,rfl,?_,?_⟩,?_⟩
  ·intro b off Y;have r:MemPlace.cell b off∈before:=by simpa using Y
   rw[v.frozen (k _ r)];exact G b off (by simpa using r)
  ·intro J;have:=I J;simpa using this
  ·intro p Y _;simpa using Y
end
end Go.AM
namespace Go.AM
variable{dr:Prop}
def eC:Op->Bool
 | .move _|.assign _|.pick _ _ _|.load _ _|.binOp _ _ _ _ _|.unOp _ _ _|.convert _ _ _|.fieldAddr _ _ _|.field _ _ _|.indexAddr _ _ _|.index _ _ _|.extract _ _=>true
 | .slice _ _ _ _ none=>true
 | .call c=>match c.callee with
  | .builtin .len=>true
  | .builtin .min=>true
  | .builtin .max=>true
  |_=>false
 |_=>false
def tO(C:Ctx)(st:St)(op:Op):Option O:=(zX C (get st.U) st.Y st.Z op).map (·.1)
theorem VO{o:Option O}{Y:Hp}{Z:Nat}:(o.map fun y=>(y,Y,Z))=((o.map fun y=>(y,Y,Z)).map (·.1)).map fun x=>(x,Y,Z):=by cases o<;>rfl
theorem vM{o:Option O}{Y:Hp}{Z:Nat}:(o.bind fun y=>some (y,Y,Z))=((o.bind fun y=>some (y,Y,Z)).map (·.1)).map fun x=>(x,Y,Z):=by cases o<;>rfl
theorem Lj{C:Ctx}{st:St}{op:Op}(h:eC op=true):zX C (get st.U) st.Y st.Z op=(tO C st op).map fun x=>(x,st.Y,st.Z):=by
 unfold tO;generalize get st.U=ρ;cases op with
 |move x=>simp only[Tk];exact VO
 |assign x=>simp only[Li];exact VO
 |pick c a b=>simp only[Tl];exact VO
 |load t a=>simp only[Tn];cases ρ a<;>(try rfl);exact vM
 |binOp op t x y j=>simp only[zbY];cases ρ x<;>cases ρ y<;>(try rfl);exact vM
 |unOp op t x=>simp only[zeo];cases ρ x<;>(try rfl);exact vM
 |convert s d x=>simp only[Tm];cases ρ x<;>(try rfl);exact vM
 |fieldAddr t x f=>simp only[tM];cases ρ x<;>(try rfl);exact vM
 |field t x f=>simp only[N3];cases ρ x<;>(try rfl);exact vM
 |indexAddr t x i=>simp only[tN];cases ρ x<;>cases ρ i<;>(try rfl);exact vM
 |index t x i=>simp only[N4];cases ρ x<;>cases ρ i<;>(try rfl);exact vM
 |extract x i=>simp only[Ff];cases ρ x<;>(try rfl);exact vM
 |slice t x lo hi g=>
  cases g with
  |none=>simp only[N5];cases ρ x<;>(try rfl);exact vM
  |some m=>simp[eC]at h
 |call c=>
  obtain⟨e,args,ts⟩:=c;cases e with
  |builtin b=>
   simp only[Fg];cases ya (args.toList.map ρ)with
   |none=>rfl
   |some xs=>
    simp only[Option.bind_eq_bind,z7];cases b<;>(try (simp[eC]at h;done))
    case len=>
     cases xs with
     |nil=>rfl
     |cons x l=>
      cases l with
      |nil=>simp only[Ts];cases ts[0]?<;>(try rfl);exact vM
      |cons _ _=>rfl
    case min=>simp only[Tt];exact VO
    case max=>simp only[Tu];exact VO
  |_=>simp[eC]at h
 |_=>simp[eC]at h
def kT(C:Ctx)(g:FuncId):Prop:=∀a,C.Γ g=some a->Ws a
def vp(C:Ctx)(op:Op):Prop:=∀st:St,zX C (get st.U) st.Y st.Z op=(tO C st op).map fun x=>(x,st.Y,st.Z)
theorem jx{C:Ctx}{op:Op}(h:eC op=true):vp C op:=fun _=>Lj h
@[simp]theorem zgH(C:Ctx)(g:FuncId)(a:Array Operand)(ts:Array TypeId)(h:kT C g):vp C (.call ⟨.value (.func g),a,ts⟩):=by
 intro st;unfold tO;simp only[Tq,N2];cases ya (a.toList.map (get st.U))with
 |none=>rfl
 |some xs=>
  simp only[Option.bind_eq_bind,z7];cases hs:C.Γ g with
  |none=>simp[jD,hs]
  |some b=>
   rw[Fh C st.Y st.Z g [] [] xs b hs];cases c:b ([]++xs++[]) st.Y st.Z with
   |none=>rfl
   |some r=>obtain⟨x,d,e⟩:=r;obtain⟨⟨rfl,rfl⟩,_⟩:=h b hs _ _ _ _ _ _ c;rfl
theorem je{P:Program}{l:Qg}{g:Nat}{a:AM.Spec}(h:lookup l g=some a)(b:Ws a):kT (zR P l) g:=fun s hs=>by
 have:lookup l g=some s:=hs;rw[h]at this;injection this with this
 exact this ▸ b
@[simp]theorem zgI(C:Ctx)(x:Operand):vp C (.move x):=jx rfl
@[simp]theorem zdN(C:Ctx)(x:Operand):vp C (.assign x):=jx rfl
@[simp]theorem zgJ(C:Ctx)(c a b:Operand):vp C (.pick c a b):=jx rfl
@[simp]theorem zgK(C:Ctx)(t:TypeId)(x:Operand):vp C (.load t x):=jx rfl
@[simp]theorem zhd(C:Ctx)(o:BinOp)(t a:TypeId)(x y:Operand):vp C (.binOp o t x y a):=jx rfl
@[simp]theorem zhE(C:Ctx)(o:UnOp)(t:TypeId)(x:Operand):vp C (.unOp o t x):=jx rfl
@[simp]theorem zgL(C:Ctx)(t u:TypeId)(x:Operand):vp C (.convert t u x):=jx rfl
@[simp]theorem zhF(C:Ctx)(t:TypeId)(x:Operand)(f:Nat):vp C (.fieldAddr t x f):=jx rfl
@[simp]theorem zhG(C:Ctx)(t:TypeId)(x:Operand)(f:Nat):vp C (.field t x f):=jx rfl
@[simp]theorem zhH(C:Ctx)(t:TypeId)(x i:Operand):vp C (.indexAddr t x i):=jx rfl
@[simp]theorem zhI(C:Ctx)(t:TypeId)(x i:Operand):vp C (.index t x i):=jx rfl
@[simp]theorem zhJ(C:Ctx)(x:Operand)(i:Nat):vp C (.extract x i):=jx rfl
@[simp]theorem zhK(C:Ctx)(t:TypeId)(x:Operand)(lo hi:Option Operand):vp C (.slice t x lo hi none):=jx rfl
@[simp]theorem zhe(C:Ctx)(a:Array Operand)(ts:Array TypeId):vp C (.call ⟨.builtin .len,a,ts⟩):=jx rfl
@[simp]theorem zhf(C:Ctx)(a:Array Operand)(ts:Array TypeId):vp C (.call ⟨.builtin .min,a,ts⟩):=jx rfl
@[simp]theorem zhg(C:Ctx)(a:Array Operand)(ts:Array TypeId):vp C (.call ⟨.builtin .max,a,ts⟩):=jx rfl
def bc{α:Type}(y:Bool)(a b:α):α:=match y with
 |true=>a
 |false=>b
@[simp]theorem zgM{α:Type}(a b:α):bc true a b=a:=rfl
@[simp]theorem zeK{α:Type}(a b:α):bc false a b=b:=rfl
@[simp]theorem zhh{α:Type}(y:Bool)(a b:α):bc (!y) a b=bc y b a:=by cases y<;>rfl
@[simp]theorem zgN{α:Type}(y:Bool)(a:α):bc y a a=a:=by cases y<;>rfl
def bx(y:Bool):Bool:=y
@[simp]theorem zgO:bx true=true:=rfl
@[simp]theorem zeL:bx false=false:=rfl
@[simp]theorem zhi{α:Type}(y:Bool)(a b c:α):bc y (bc y a b) c=bc y a c:=by cases y<;>rfl
@[simp]theorem zhj{α:Type}(y:Bool)(a b c:α):bc y a (bc y b c)=bc y a c:=by cases y<;>rfl
def pd(C:Ctx)(st:St)(op:Op)(y:Option Bool)(b:Bool):Option O:=if y=some b then tO C st op else some (.wG [])
section
variable(C:Ctx)(d:Option Tmp)(op:Op)(st:St)
theorem l6(y:Option Bool)(b:Bool)(h:vp C op):Zq C d op st y b=(pd C st op y b).map fun x=>⟨put st.U d x,st.Y,st.Z⟩:=by
 unfold Zq pd;rw[h st];split
 ·cases tO C st op<;>rfl
 ·rfl
@[simp low] theorem zb8(y b:Bool)(h:vp C op):Zq C d op st (some y) b=(pd C st op (some y) b).map fun x=>⟨put st.U d x,st.Y,st.Z⟩:=l6 C d op st _ b h
@[simp]theorem zeM(y:Bool)(p q:Option Bool)(b:Bool)(h:vp C op):Zq C d op st (bc y p q) b=(pd C st op (bc y p q) b).map fun x=>⟨put st.U d x,st.Y,st.Z⟩:=l6 C d op st _ b h
@[simp]theorem zgP(y:Bool)(p q:Option Bool)(b:Bool):pd C st op (bc y p q) b=bc y (pd C st op p b) (pd C st op q b):=by cases y<;>rfl
@[simp]theorem zdO(b:Bool):pd C st op none b=some (.wG []):=rfl
@[simp]theorem zhk(y:Bool):pd C st op (some y) true=bc (bx y) (tO C st op) (some (.wG [])):=by cases y<;>rfl
@[simp]theorem zhl(y:Bool):pd C st op (some y) false=bc (bx y) (some (.wG [])) (tO C st op):=by cases y<;>rfl
end
@[simp]theorem zdP(y:Bool)(a b:O):VN (bc y a b)=bc y (VN a) (VN b):=by cases y<;>rfl
@[simp]theorem zgQ{α:Type}(y:Bool)(a b:α):bc y (some a) (some b)=some (bc y a b):=by cases y<;>rfl
@[simp]theorem zeN(y z:Bool)(w:O):YF (some (.v (.bool y))) (some (bc (bx y) (.v (.bool z)) w)) (some (.v (.bool false)))=some (.v (.bool (y&&z))):=by cases y<;>rfl
@[simp]theorem zgR(y z:Bool)(w:O):YF (some (.v (.bool y))) (some (.v (.bool true))) (some (bc (bx y) w (.v (.bool z))))=some (.v (.bool (y||z))):=by cases y<;>rfl
@[simp]theorem zeO{α:Type}(y c:Bool)(a b d0 d:α):bc y (bc c (bc y a b) d) d0=bc y (bc c a d) d0:=by cases y<;>rfl
@[simp]theorem zeP{α:Type}(y c:Bool)(a b d0 d:α):bc y (bc c d (bc y a b)) d0=bc y (bc c d a) d0:=by cases y<;>rfl
@[simp]theorem zeQ{α:Type}(y c:Bool)(a b d e:α):bc y d (bc c (bc y a b) e)=bc y d (bc c b e):=by cases y<;>rfl
@[simp]theorem zeR{α:Type}(y c:Bool)(a b d e:α):bc y d (bc c e (bc y a b))=bc y d (bc c e b):=by cases y<;>rfl
@[simp]theorem zeS{α:Type}(y c d:Bool)(a b d0 e f:α):bc y (bc c (bc d (bc y a b) f) e) d0=bc y (bc c (bc d a f) e) d0:=by cases y<;>rfl
@[simp]theorem zeT{α:Type}(y c d:Bool)(a b d0 e f:α):bc y (bc c (bc d f (bc y a b)) e) d0=bc y (bc c (bc d f a) e) d0:=by cases y<;>rfl
@[simp]theorem zeU{α:Type}(y c d:Bool)(a b d0 e f:α):bc y (bc c e (bc d (bc y a b) f)) d0=bc y (bc c e (bc d a f)) d0:=by cases y<;>rfl
@[simp]theorem zeV{α:Type}(y c d:Bool)(a b d0 e f:α):bc y (bc c e (bc d f (bc y a b))) d0=bc y (bc c e (bc d f a)) d0:=by cases y<;>rfl
@[simp]theorem zeW{α:Type}(y c d:Bool)(a b e f g:α):bc y e (bc c (bc d (bc y a b) g) f)=bc y e (bc c (bc d b g) f):=by cases y<;>rfl
@[simp]theorem zdQ{α:Type}(y c d:Bool)(a b e f g:α):bc y e (bc c (bc d g (bc y a b)) f)=bc y e (bc c (bc d g b) f):=by cases y<;>rfl
@[simp]theorem zdR{α:Type}(y c d:Bool)(a b e f g:α):bc y e (bc c f (bc d (bc y a b) g))=bc y e (bc c f (bc d b g)):=by cases y<;>rfl
@[simp]theorem zdS{α:Type}(y c d:Bool)(a b e f g:α):bc y e (bc c f (bc d g (bc y a b)))=bc y e (bc c f (bc d g b)):=by cases y<;>rfl
section
variable(P:Program)(C:Ctx)(Y:Hp)(Z:Nat)(t u:TypeId)(y:Bool)(a b:O)
@[simp]theorem zgS:xv P Y t (bc y a b)=bc y (xv P Y t a) (xv P Y t b):=by cases y<;>rfl
@[simp]theorem zgT(o:BinOp)(x:O):Qj P o t (bc y a b) x=bc y (Qj P o t a x) (Qj P o t b x):=by cases y<;>rfl
@[simp]theorem zgU(o:BinOp)(x:O):Qj P o t x (bc y a b)=bc y (Qj P o t x a) (Qj P o t x b):=by cases y<;>rfl
@[simp]theorem zeX(c:Bool)(o:BinOp)(x:O):VB c P o t (bc y a b) x=bc y (VB c P o t a x) (VB c P o t b x):=by cases y<;>rfl
@[simp]theorem zeY(c:Bool)(o:BinOp)(x:O):VB c P o t x (bc y a b)=bc y (VB c P o t x a) (VB c P o t x b):=by cases y<;>rfl
@[simp]theorem zhL(o:UnOp):SL o (bc y a b)=bc y (SL o a) (SL o b):=by cases y<;>rfl
@[simp]theorem zgV:aE P t u (bc y a b)=bc y (aE P t u a) (aE P t u b):=by cases y<;>rfl
@[simp]theorem TC(f:Nat):yX P t f (bc y a b)=bc y (yX P t f a) (yX P t f b):=by cases y<;>rfl
@[simp]theorem za3(f:Nat):Z7 P t f (bc y a b)=bc y (Z7 P t f a) (Z7 P t f b):=by cases y<;>rfl
@[simp]theorem SQ(x:O):qJ P Y t (bc y a b) x=bc y (qJ P Y t a x) (qJ P Y t b x):=by cases y<;>rfl
@[simp]theorem SR(x:O):qJ P Y t x (bc y a b)=bc y (qJ P Y t x a) (qJ P Y t x b):=by cases y<;>rfl
@[simp]theorem zdT(x:O):QV P t (bc y a b) x=bc y (QV P t a x) (QV P t b x):=by cases y<;>rfl
@[simp]theorem zdU(x:O):QV P t x (bc y a b)=bc y (QV P t x a) (QV P t x b):=by cases y<;>rfl
@[simp]theorem zhm:Ki P t (bc y a b)=bc y (Ki P t a) (Ki P t b):=by cases y<;>rfl
@[simp]theorem zdV(lo hi:Option (Option O)):jy P Y t (bc y a b) lo hi=bc y (jy P Y t a lo hi) (jy P Y t b lo hi):=by cases y<;>rfl
@[simp]theorem zdW(x:O)(hi:Option (Option O)):jy P Y t x (some (some (bc y a b))) hi=bc y (jy P Y t x (some (some a)) hi) (jy P Y t x (some (some b)) hi):=by cases y<;>rfl
@[simp]theorem zdX(x:O)(lo:Option (Option O)):jy P Y t x lo (some (some (bc y a b)))=bc y (jy P Y t x lo (some (some a))) (jy P Y t x lo (some (some b))):=by cases y<;>rfl
@[simp]theorem zb9(i:Nat):JN i (bc y a b)=bc y (JN i a) (JN i b):=by cases y<;>rfl
@[simp]theorem zeZ(p q:Option O):YF (some (bc y a b)) p q=bc y (YF (some a) p q) (YF (some b) p q):=by cases y<;>rfl
@[simp low] theorem ze0(p q:Option O):YF p (some (bc y a b)) q=bc y (YF p (some a) q) (YF p (some b) q):=by cases y<;>rfl
@[simp low] theorem ze1(p q:Option O):YF p q (some (bc y a b))=bc y (YF p q (some a)) (YF p q (some b)):=by cases y<;>rfl
@[simp]theorem zfa(c:Bool)(d:List Nat)(F:zb->Option O)(l:zb):zh c d F (bc y a b::l) Y Z=bc y (zh c d F (a::l) Y Z) (zh c d F (b::l) Y Z):=by cases y<;>rfl
@[simp]theorem zfb(c:Bool)(d:List Nat)(F:zb->Option O)(x:O)(l:zb):zh c d F (x::bc y a b::l) Y Z=bc y (zh c d F (x::a::l) Y Z) (zh c d F (x::b::l) Y Z):=by cases y<;>rfl
@[simp]theorem zfc(c:Bool)(d:List Nat)(F:zb->Option O)(x z:O)(l:zb):zh c d F (x::z::bc y a b::l) Y Z=bc y (zh c d F (x::z::a::l) Y Z) (zh c d F (x::z::b::l) Y Z):=by cases y<;>rfl
end
@[simp]theorem zhn{α c:Type}(y:Bool)(f:α->c)(a b:Option α):(bc y a b).map f=bc y (a.map f) (b.map f):=by cases y<;>rfl
@[simp]theorem zgW{α c:Type}(y:Bool)(f:α->Option c)(a b:Option α):(bc y a b).bind f=bc y (a.bind f) (b.bind f):=by cases y<;>rfl
attribute [simp] tO
variable{dr:Prop}
def BB(k:Nat)(D:List (Tmp×Tmp))(i:Nat):List (Tmp×Tmp):=if i=k then D else[]
@[simp]theorem zca(P:Program)(l:Qg)(k:Nat)(D:List (Tmp×Tmp))(i:Nat):(Kr P l (BB k D)).dyn i=if i=k then D else[]:=rfl
@[simp]theorem N8(P:Program)(l:Qg)(k:Nat)(D:List (Tmp×Tmp))(i:Nat)(a:Array Oper)(d:Bool)(st:St)(K:Exit->St->Prop)(h:¬i=k):Zy (Kr P l (BB k D)) (.region i a d) st K=iU (Kr P l (BB k D)) a a.toList st (Y9 K):=YE _ i a d st K (by simp[h]) rfl
theorem l7{a b:Tmp}{st:St}{id i j id' i' j':Nat}{blk:kv}(d:st.U a=.ref id i j)(e:st.U b=.ref id' i' j')(f:id≠id')(g:st.Y id'=some blk)(h:blk.arr=false):WQ [(a,b)] st:=by
 intro p Y;obtain rfl:=wM.1 Y;intro k l m c;rw[d]at c;injection c with c _ _
 subst c;exact⟨id',i',j',blk,e,f,g,h⟩
theorem l8{w:World}{S:Nat->Prop}{G:Nat->GI}{Z:Nat}:∀{us vs:List Value},(∀u∈us,lit u=true)->Zip (qf w S G Z) (us.map O.v) vs->vs=us
 |[],vs,_,h=>by have:=h.1;simp at this;exact qy.1 this.symm
 |u::us,vs,a,h=>by
  obtain⟨v,b,rfl,d,e⟩:=h.jC;rw[l8 (fun x f=>a x (by simp[f])) e];congr 1;cases d with
  |c g=>exact g.w8.1
theorem tP{P:Program}{g:FuncId}{F:zb->Option O}(j:∃fn,P.funcs[g]?=some fn/\(fn.name== "runtime.NumGoroutine")=false/\fn.body.isNone=false)
  (h:∀args r,F args=some r->∃us:List Value,args=us.map O.v/\(∀u∈us,lit u=true)/\∃v,r=.v v/\lit v=true/\∀w,Calls P g us.toArray w fun e w'=>e=.returned v/\w'=w):kq dr P g (zh false [] F):=by
 refine⟨j,?_⟩;intro args Y Z r E H hs w S G vs hi q;unfold zh at hs;split at hs
 ·rename_i k Y1 m;split at hs
  ·rename_i I hF;obtain⟨us,e,s,v,rfl,t,z⟩:=h _ _ hF;have A:yg [] k=k:=by cases k<;>rfl
   rw[A]at e;subst e;have d:args=us.map O.v:=by
    have n:∀(args:zb) (us:List Value) (Y1:Hp),zD Y args=some (us.map O.v,Y1)->args=us.map O.v:=by
     intro args
     induction args with
     |nil=>intro us Y1 b;simp only[zD]at b;injection b with b;injection b with b _
     |cons x l B=>
      intro us Y1 b;simp only[zD]at b;split at b
      ·rename_i y Y2 a;split at b
       ·rename_i J o p;injection b with b
        injection b with b _;cases us with
        |nil=>simp at b
        |cons u us=>
         simp only[we,zk]at b;obtain⟨rfl,rfl⟩:=b;have C:x=.v u/\Y2=Y:=by
          unfold qA at a;split at a
          ·split at a
           ·injection a with a;injection a with a _;cases a
           ·cases a
          ·unfold wY at a;split at a<;>first
            |(split at a<;>first|(split at a<;>first|(injection a with a;injection a with a _;cases a;done)|cases a)|cases a)
            |(injection a with a;injection a with i f;first|(exact⟨by rw[<-i],f.symm⟩)|cases i)
            |cases a
         obtain⟨rfl,rfl⟩:=C;rw[B us o p];rfl
       ·cases b
      ·cases b
    exact n args us Y1 m
   subst d;simp only[O.flat,true_or,qH]at hs;injection hs with hs
   injection hs with i f;injection f with f D;subst i;subst f;subst D;rw[l8 s q];refine(z w).mono fun e w' b=>?_
   obtain⟨rfl,rfl⟩:=b;exact⟨v,S,G,rfl,kx.refl hi,.c (.v t)⟩
  ·cases hs
 ·cases hs
theorem VP:∀(l cs:zb) (off:Nat),off+l.length<=cs.length->ja cs off l=cs.take off++l++cs.drop (off+l.length)
 |[],cs,off,_=>by simp
 |x::l,cs,off,h=>by
  simp only[zO]at h;rw[ja,VP l (cs.set off x) (off+1) (by simp;omega)];have b:(cs.set off x).take (off+1)=cs.take off++[x]:=by
   rw[qq (by simp;omega)];have c:(cs.set off x).take off=cs.take off:=by
    apply dT;intro j;simp only[qu,List.getElem?_set];by_cases a:j<off
    ·simp[a,show¬off=j by omega]
    ·simp[a]
   rw[c];simp
  have d:(cs.set off x).drop (off+1+l.length)=cs.drop (off+(x::l).length):=by rw[List.drop_set_of_lt (by omega)];simp only[zO];congr 1;omega
  rw[b,d];simp
@[simp]theorem N9(z cs:zb)(h:cs.length=z.length):ja z 0 cs=cs:=by rw[VP cs z 0 (by omega)];simp[h]
@[simp]theorem SS(x:O)(z cs:zb)(h:cs.length=z.length):ja (x::z) 1 cs=x::cs:=by rw[VP cs (x::z) 1 (by simp;omega)];simp[show 1+cs.length=z.length+1 by omega]
@[simp]theorem Ss(U:Nat->O):AM.get U (.const .nilIface)=some (.v .nilIface):=rfl
section
variable(C:Ctx)(ρ:Operand->Option O)(Y:Hp)(Z:Nat)
def Fj:O->Option O
 | .ref id i j=>some (.ref id i j)
 | .ptr cs=>some (.ptr cs)
 |_=>none
@[simp]theorem zcb(id i j:Nat):Fj (.ref id i j)=some (.ref id i j):=rfl
@[simp]theorem zcc(cs:zb):Fj (.ptr cs)=some (.ptr cs):=rfl
@[simp]theorem za4(x:Operand):zX C ρ Y Z (.nilCheck x)=(do let p <-ρ x;let r <-Fj p;some (r,Y,Z)):=by
 simp only[zX];cases ρ x with
 |none=>rfl
 |some p=>cases p<;>rfl
end
@[simp]theorem zfd(i:Nat):O.cells (.mp i)=[.mp i]:=rfl
@[simp]theorem zdY(i:Nat):O.wZ (.mp i)=true:=rfl
end Go.AM
namespace Go.Proofs
open Go.Shelf
def Tryz.Eu:Go.Shelf.Ren:=⟨fun|213=>116|265=>151|n=>n,fun|9=>9|3=>3|n=>n,fun|n=>n⟩
theorem Tryz.zaI:Go.Proofs.Lays.n213 prog Tryz.Eu:={
 mixed:=by kernel_rfl
 f213:=func116.trans (zr some (by kernel_rfl))
 f265:=func151.trans (zr some (by kernel_rfl))
 t3:=underlying3
 a3:=isAgg3
 z3:=sizeOf3
 v3:=zeroValue3
 t9:=underlying9
 a9:=isAgg9
 z9:=sizeOf9
 v9:=zeroValue9}
open Go.RowKit in
theorem Tryz.bytealg_CompareString(a b:ByteArray)(w:World) :
  Calls prog 116 #[.string a,.string b] w fun e w'=>e=.returned (.int .i64 (Lib.compareBytes a.data.toList b.data.toList))/\w'=w:=Any.bytealg_CompareString Tryz.zaI a b w
end Go.Proofs
