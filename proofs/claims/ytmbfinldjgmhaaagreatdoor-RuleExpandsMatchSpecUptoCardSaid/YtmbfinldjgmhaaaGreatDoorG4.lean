/- Lemmas. -/
import Derived.ProofKit
import Derived.Lib.Strings
import Derived.Carry
import Derived.ChangeSame
import Derived.OpenShut
import Derived.Shelf.Small.Strs
import Derived.Shelf.Strconv.Itoa0
import Derived.Ground.Names2Prog
import Derived.Test.YtmbfinldjgmhaaaGreatDoorProg
import Derived.Test.YtmbfinldjgmhaaaGreatDoorG3
set_option maxRecDepth 8000
open Go Proofs Proofs.YtmbfinldjgmhaaaGreatDoor Proofs.Tryz RowKit AM SpanLaw Q Zz
namespace Go.AM
variable{dr:Prop}
section
variable{C:Ctx}{pf:FuncId->Bool}
theorem Jr{w:World}{S:Nat->Prop}{G:Nat->GI}{st:St}{a:Act}(hi:Inv C.P w S G st.Y st.Z)(hs:∀t,qb w S G st.Z (st.U t) (a.tmps.getD t undef)) :
  ∀{l:List ResultVar} {xs:zb},wU (l.map (W7 C.P st))=some xs->∃vs,(l.mapM (m:=Sem) fun r=>match r with
   | .tmp t=>pure (a.tmps.getD t undef)
   | .cell p t=>do loadVar t (<-asAddr (a.tmps.getD p undef))).run C.P w=.ok vs w/\Zip (qb w S G st.Z) xs vs
 |[],xs,h=>by
  simp only[K2,wU]at h;injection h with h
  subst h;exact⟨[],by simp,.nil⟩
 |r::l,xs,h=>by
  simp only[wg]at h;cases d:W7 C.P st r with
  |none=>rw[d]at h;simp[wU]at h
  |some p=>
   rw[d]at h;simp only[wU]at h;cases B:wU (l.map (W7 C.P st))with
   |none=>rw[B]at h;simp at h
   |some ys=>
    rw[B]at h;simp at h;subst h;obtain⟨vs,I,J⟩:=Jr hi hs B;cases r with
    |tmp t=>
     simp only[W7]at d;injection d with d
     subst d;refine⟨a.tmps.getD t undef::vs,?_,.cons (hs t) J⟩;simp only[List.mapM_cons,vM,WC,km,I]
    |cell q t=>
     simp only[W7]at d;obtain⟨v,w',S',G',M,k,hx⟩:=pY (dr:=True) hi d (hs q);have y:=hs q;have D:∃v,(do loadVar t (<-asAddr (a.tmps.getD q undef)):Sem Value).run C.P w=.ok v w/\qb w S G st.Z p v:=by
      unfold xA at d;split at d
      ·rename_i cs f;rw[f]at y;have E:=y.K4;generalize a.tmps.getD q undef=u at *;cases E with
       |ptr us N Q=>obtain⟨v,z,n⟩:=XF (G:=G) (Z:=st.Z) (w:=w) (S:=S) d _ us (fun j A K=>⟨(N j A K).2,.c (Q j A K)⟩);exact⟨v,by simp[asAddr,z],n⟩
      ·rename_i id i j f;rw[f]at y;have F:=y.dH;obtain⟨hid,R⟩:=y.Wh;rw[R]at M⊢;split at d
       ·rename_i b T;split at d
        ·rename_i c E;obtain⟨o,W,h4,X⟩:=(hi.live id b T).row F;have x:∀k:Nat,w.cell? ((⟨(G id).g,i*(G id).s+j,none⟩:Addr).add k)=o[i*(G id).s+j+k]?:=by intro k;rw[j8,za2 w _ _ o _ _ W]
         obtain⟨v,z,n⟩:=XF (G:=G) (Z:=st.Z) (w:=w) (S:=S) d ⟨(G id).g,i*(G id).s+j,none⟩ (fun k=>(o[i*(G id).s+j+k]?).getD undef) (fun k A L=>by
          rw[qM]at L;obtain⟨u,h6,h7⟩:=X i (j+k) c A E L;rw[x];have e:i*(G id).s+j+k=i*(G id).s+(j+k):=by omega
          rw[e,h6];exact⟨rfl,h7.2.1⟩)
         exact⟨v,by simp[asAddr,z],n⟩
        ·cases d
       ·cases d
      ·cases d
     obtain⟨v,z,H⟩:=D;refine⟨v::vs,?_,.cons H J⟩;simp only[List.mapM_cons,vM,z,km,I,WC]
theorem Ko{P:Program}{fn:Func}{a:Array Value}{R:Ending->World->Prop}:∀(c:List Nat) (w:World),c.Nodup->(∀D∈c,w.heap[D]?=some (.deferred (some [])))->(∀f,Fr dr w (fun b=>b∈c) f->LeavesIn Fence.wide 0 P fn a R [] .returning f)->LeavesInM Fence.wide 0 P fn a R (c.map gG) .returning w
 |[],w,_,_,h=>h w (Fr.refl _ _)
 |D::c,w,i,hd,h=>by
  obtain⟨j,l⟩:=List.nodup_cons.1 i;refine⟨by simp,.inl ⟨D,_,rfl,run_takeDeferred (hd D (by simp)),Ko c _ l (fun g d=>?_) fun f m=>h f ?_⟩⟩
  ·exact(zfD (k:=g) (r:=D) fun e=>j (by rw[<-e];exact d)).trans (hd g (by simp[d]))
  ·exact(EG (.deferred none) (fun b=>b∈D::c) (by simp)).trans m (fun b _ n=>by simp[n])
theorem lH(N:∀g a,C.Γ g=some a->jr dr C.P g a)(Q:∀g a,pf g=true->C.Γ g=some a->Wk a)(R:∀g a,C.bk g=true->C.Γ g=some a->Ql a)(hit:∀g it,C.it g=some it->Be dr C.P g it)(hm:C.P.follows .mixedOrders=true)
  {f:FuncId} {fn:Func} {code:Code} (hf:C.P.funcs[f]?=some fn) (k:fn.body=some code) (T:vF pf C.dyn C.ML C.bk fn.ntmps code=true)
  {args:zb} {Y Y':Hp} {Z E:Nat} {x:O} (h:je C fn args Y Z=some (x,Y',E)) {w:World} {S:Nat->Prop} {G:Nat->GI} {vs:List Value} (hi:Inv C.P w S G Y Z) (W:Zip (qb w S G Z) args vs) (hn:args.length<=fn.ntmps) :
  Calls C.P f vs.toArray w fun e w'=>∃v S' G',e=.returned v/\kd dr C.P Y Z S G w Y' E S' G' w'/\qb w' S' G' E x v:=by
 unfold je at h;simp only[k]at h;refine aw.1 (callsIn_of_wp_marks (n:=0) hf k trivial ?_);have H:iu dr C.P w S (jD Y G) fn.ntmps Z G w.heap.size ⟨jL args,Y,Z⟩ {tmps:=vs.toArray++Array.replicate (fn.ntmps-vs.toArray.size) undef,defers:=[]} w:=by
  refine⟨S,G,hi,fun t=>?_,?_,.nil (ze _),fun _ h=>h,fun _ h=>.inl h,fun id b k=>.inl ⟨id,b,k,rfl⟩,Fr.refl _ _,ze _,fun _ _=>rfl⟩
  ·have X:vs.length=args.length:=W.1.symm;unfold jL;by_cases ht:t<args.length
   ·have p:args[t]?=some args[t]:=zj ht;have l:vs[t]?=some (vs[t]'(by omega)):=zj (by omega);have h3:=W.2 t _ _ p l;have h4:(vs.toArray++Array.replicate (fn.ntmps-vs.toArray.size) undef)[t]?=vs[t]?:=by rw[kV (by simpa using(by omega:t<vs.length))];simp
    simp only[p,il];rw[wV,h4,l];exact h3
   ·have p:args[t]?=none:=yO (by omega);have h4:(vs.toArray++Array.replicate (fn.ntmps-vs.toArray.size) undef).getD t undef=undef:=by rw[wV,Array.getElem?_append_right (by simpa using(by omega:vs.length<=t)),QK];split<;>rfl
    simp only[p,Option.getD_none];rw[h4];exact jM
  ·have X:vs.length=args.length:=W.1.symm;simp;omega
 have I:∀(e:Exit) (st:St),(e=.normal\/e=.ret)->qW C code ⟨jL args,Y,Z⟩=some (e,st)->(xX C.P fn st).map (fun x=>(x,st.Y,st.Z))=some (x,Y',E) ->
   code.wpIn Fence.wide 0 C.P (bodyPostM Fence.wide 0 C.P fn fun e w'=>∃v S' G',e=.returned v/\kd dr C.P Y Z S G w Y' E S' G' w'/\qb w' S' G' E x v) {tmps:=vs.toArray++Array.replicate (fn.ntmps-vs.toArray.size) undef,defers:=[]} w:=by
  intro e st he m hr;obtain⟨r,d,s⟩:=zV hr;injection s with e1 s
  injection s with e2 e3;subst e1;subst e2;subst e3;refine lG N Q R hit hm code T Fence.wide 0 (.inl rfl) (.inl rfl) w S (jD Y G) Z G w.heap.size _ st e _ w _ (ze _) m H fun F w1 hs'=>?_
  obtain⟨S',G',c⟩:=hs';obtain⟨hd0,Ds,hd1,hd2,o⟩:=c.defers;have J:LeavesInM Fence.wide 0 C.P fn F.tmps (fun e w'=>∃v S' G',e=.returned v/\kd dr C.P Y Z S G w st.Y st.Z S' G' w'/\qb w' S' G' st.Z r v) F.defers .returning w1:=by
   rw[hd1];refine Ko (dr:=dr) Ds w1 hd2 (fun D hD=>(o D hD).2.1) fun w' A=>?_
   have K:∀b,b∈Ds->Vv S' G' st.Y b:=fun b k=>⟨(o b k).2.2.1,(o b k).2.2.2⟩
   have q:=c.inv.frame A K;have hsl:∀t,qb w' S' G' st.Z (st.U t) (F.tmps.getD t undef):=fun t=>(c.jx t).mono (fun b k=>⟨k,A.block b (c.inv.st b k) fun hb'=>(K b hb').1 k⟩) (ze _) (fun _ _=>rfl)
   have hk:kd dr C.P Y Z S G w st.Y st.Z S' G' w':=⟨q,c.up,c.loc,c.s0,c.s1,c.own,c.fr.trans A fun b k p=>by have:=(o b p).1;omega⟩;have L:∃v,(results fn F.tmps).run C.P w'=.ok v w'/\qb w' S' G' st.Z r v:=by
    unfold xX at d;have go:∀xs,wU (fn.results.toList.map (W7 C.P st))=some xs->r=(match xs with|[x]=>x|xs=>.wq xs)->∃v,(results fn F.tmps).run C.P w'=.ok v w'/\qb w' S' G' st.Z r v:=by
     intro xs hx i;obtain⟨us,p,l⟩:=Jr q hsl hx;have M:(results fn F.tmps).run C.P w'=.ok (if h:us.toArray.size=1 then us.toArray[0]else .tuple us.toArray) w':=by unfold results;rw[Array.mapM_eq_mapM_toList];simp only[vM,Sem.run_map];erw [p];rfl
     refine⟨_,M,?_⟩
     match xs,l,i with
     |[],l,i=>rw[l.WE];subst i;exact .wq rfl (by simp)
     |[y],l,i=>obtain⟨u,rfl,hu⟩:=ZI l;subst i;simpa using hu
     |y::z::ys,l,i=>have hl:=l.1;subst i;rw[dif_neg (by simp at hl⊢;omega)];exact .wq (by simpa using hl) (fun j pv u hj hu=>l.2 j pv u hj (by simpa using hu))
    split at d
    ·rename_i y hy;injection d with d
     exact go [y] hy d.symm
    ·rename_i xs B hx;injection d with d
     refine go xs hx ?_;rw[<-d]
     match xs,B with
     |[],_=>rfl
     |[y],B=>exact(B y rfl).elim
     |y::z::ys,_=>rfl
    ·cases d
   obtain⟨v,hv1,hv2⟩:=L;exact⟨v,hv1,v,S',G',rfl,hk,hv2⟩
  rcases he with rfl|rfl
  ·exact J
  ·exact J
 split at h
 ·rename_i st m;exact I _ st (.inl rfl) m h
 ·rename_i st m;exact I _ st (.inr rfl) m h
 ·cases h
end
variable{dr:Prop}
def O.isV:O->Bool
 | .v _=>true
 |_=>false
def O.flat:O->Bool
 | .v _=>true
 | .wq cs=>cs.all O.isV
 |_=>false
def lI(s:Nat):O->O
 | .nil=>.sl s []
 |x=>x
def q6:List Nat->zb->zb
 |s::ns,x::l=>lI s x::q6 ns l
 |_,l=>l
def EH(x y:O):Prop:=x=y\/(x=.nil/\∃s,y=.sl s [])
def VF:O->O->Prop
 | .wq xs,.wq ys=>xs.length=ys.length/\∀(j:Nat) (x y:O),xs[j]?=some x->ys[j]?=some y->EH x y
 |x,y=>EH x y
def zi(a:Bool)(ns:List Nat)(F:zb->Option O):AM.Spec:=fun args Y Z=>
 match zw Y args with
 |some (b,Y1)=>match F (q6 ns b)with
  |some r=>if r.flat=true\/args.all O.noOwn=true then some (r,Y,Z)else if a=true then some (r,Y1,Z)else none
  |none=>none
 |none=>none
def yh(ns:List Nat)(F:zb->Option (Option kn)):AM.Spec:=fun args Y Z=>
 match zw Y args with
 |some (a,Y1)=>match F (q6 ns a)with
  |some none=>some (.nil,Y1,Z)
  |some (some b)=>some (.own Z 0 b.es.length,qt Y1 Z (some b),Z+1)
  |none=>none
 |none=>none
theorem Nl{α:Type}(f:Nat->α){i j:Nat}(h:i≠j)(x y:α):qt (qt f i x) j y=qt (qt f j y) i x:=by
 funext k;unfold qt;by_cases hi:k=i
 ·subst hi;simp[h]
 ·simp[hi]
theorem VG{Y Y1:Hp}{x y:O}{Z:Nat}(f:Y Z=none)(b:Option kn)(h:wu Y x=some (y,Y1)):wu (qt Y Z b) x=some (y,qt Y1 Z b)/\Y1 Z=none:=by
 unfold wu at h;split at h
 ·rename_i id off n;split at h
  ·rename_i j g;have a:id≠Z:=fun e=>by rw[e,f]at g;cases g
   split at h
   ·rename_i i;injection h with h
    injection h with c d;subst c;subst d;refine⟨?_,by rw[qL _ _ _ _ a.symm];exact f⟩;unfold wu;simp only[qL Y Z id b a,g,i,and_self,qI];rw[Nl Y a.symm]
   ·cases h
  ·cases h
 all_goals first
  |(injection h with h;injection h with c d;subst c;subst d;exact⟨rfl,f⟩)
  |(split at h
    ·rename_i i;injection h with h;injection h with c d;subst c;subst d
     exact⟨by unfold wu;simp only[i,and_self,qI],f⟩
    ·cases h)
  |cases h
theorem Vg{Z:Nat}(b:Option kn):∀{xs ys:zb} {Y Y1:Hp},Y Z=none->qY Y xs=some (ys,Y1)->qY (qt Y Z b) xs=some (ys,qt Y1 Z b)/\Y1 Z=none
 |[],ys,Y,Y1,a,h=>by
  simp only[qY]at h;injection h with h;injection h with c d;subst c;subst d
  exact⟨rfl,a⟩
 |x::l,ys,Y,Y1,a,h=>by
  simp only[qY]at h;split at h
  ·rename_i y Y2 e;split at h
   ·rename_i r f g;injection h with h;injection h with c d;subst c;subst d
    obtain⟨i,j⟩:=VG a b e;obtain⟨k,m⟩:=Vg b j g;exact⟨by simp only[qY,i,k],m⟩
   ·cases h
  ·cases h
theorem oQ{Y Y1:Hp}{x y:O}{Z:Nat}(a:Y Z=none)(b:Option kn)(h:qa Y x=some (y,Y1)):qa (qt Y Z b) x=some (y,qt Y1 Z b)/\Y1 Z=none:=by
 cases x with
 |agg cs=>
  simp only[qa]at h⊢;split at h
  ·rename_i l i c;injection h with h;injection h with d e;subst d;subst e
   obtain⟨f,g⟩:=Vg b a c;exact⟨by simp only[f],g⟩
  ·cases h
 |_=>simp only[qa]at h⊢;exact VG a b h
theorem VH{Z:Nat}(b:Option kn):∀{xs ys:zb} {Y Y1:Hp},Y Z=none->zw Y xs=some (ys,Y1)->zw (qt Y Z b) xs=some (ys,qt Y1 Z b)/\Y1 Z=none
 |[],ys,Y,Y1,a,h=>by
  simp only[zw]at h;injection h with h;injection h with c d;subst c;subst d
  exact⟨rfl,a⟩
 |x::l,ys,Y,Y1,a,h=>by
  simp only[zw]at h;split at h
  ·rename_i y Y2 e;split at h
   ·rename_i r f g;injection h with h;injection h with c d;subst c;subst d
    obtain⟨i,j⟩:=oQ a b e;obtain⟨k,m⟩:=VH b j g;exact⟨by simp only[zw,i,k],m⟩
   ·cases h
  ·cases h
theorem zr(ns:List Nat)(F:zb->Option O):Wk (zi false ns F):=by
 intro args Y Z r Y' j h;unfold zi at h;split at h
 ·rename_i a Y1 c;split at h
  ·rename_i k hF;split at h
   ·rename_i d;injection h with h
    injection h with e h;injection h with f g;subst e;refine⟨⟨f.symm,g.symm⟩,fun b i=>?_⟩;unfold zi;simp only[(VH b i c).1,hF];rw[zf d]
   ·simp at h
  ·cases h
 ·cases h
structure Xy (C:Ctx) (pf:FuncId->Bool) (f:FuncId) (fn:Func) (code:Code):Prop where
 func:C.P.funcs[f]?=some fn
 name:(fn.name== "runtime.NumGoroutine")=false
 body:fn.body=some code
 ok:vF pf C.dyn C.ML C.bk fn.ntmps code=true
structure vR (dr:Prop) (C:Ctx) (pf:FuncId->Bool):Prop where
 spec:∀g spec,C.Γ g=some spec->jr dr C.P g spec
 quiet:∀g spec,pf g=true->C.Γ g=some spec->Wk spec
 mixed:C.P.follows .mixedOrders=true
 box:∀g spec,C.bk g=true->C.Γ g=some spec->Ql spec:=by intro _ _ h;cases h
 iter:∀g it,C.it g=some it->Be dr C.P g it:=by intro _ _ h;cases h
abbrev Good:=vR True
section
variable{C:Ctx}{pf:FuncId->Bool}{f:FuncId}{fn:Func}{code:Code}
theorem kd.outer{P:Program}{Y:Hp}{Z:Nat}{S:Nat->Prop}{G:Nat->GI}{w w':World}(h:Inv P w S G Y Z)(k:Fr dr w (fun _=>False) w') :
  kd dr P Y Z S G w Y Z (fun b=>S b\/(w.heap.size<=b/\b<w'.heap.size)) G w':=by
 have c:∀b,b<w.heap.size->w'.heap[b]?=w.heap[b]?:=fun b a=>k.block b a fun h=>h
 have d:∀b,S b->(S b\/(w.heap.size<=b/\b<w'.heap.size))/\w'.heap[b]?=w.heap[b]?:=fun b a=>⟨.inl a,c b (h.st b a)⟩
 refine⟨⟨fun b a=>?_,h.top,fun id b a=>(h.live id b a).mono d (ze _) (fun _ _=>rfl) (c _ (h.live id b a).lt),fun id b a hs=>?_,h.inj,h.gD.mono d⟩,ze _,fun _ _=>rfl,fun _ a=>.inl a,fun b a=>?_,fun id b a=>.inl ⟨id,b,a,rfl⟩,⟨k.os,k.tape,k.output,k.size,k.drawn,fun b a _=>c b a⟩⟩
 ·rcases a with a|a
  ·exact yb (h.st b a) k.size
  ·exact a.2
 ·rcases hs with hs|hs
  ·exact h.apart id b a hs
  ·have:=(h.live id b a).lt;omega
 ·rcases a with a|a
  ·exact .inl a
  ·exact .inr (.inr a.1)
theorem XK{P:Program}{w:World}{S:Nat->Prop}(G:Nat->GI)(a:∀b,S b->b<w.heap.size)(c:HS P w S):Inv P w S G (fun _=>none) 0:=
 ⟨a,fun _ _ h=>(by cases h),fun _ _ h=>(by cases h),fun _ _ h=>(by cases h),fun _ _ _ _ h=>(by cases h),c⟩
theorem vZ{G:Nat->GI}{b:Nat}(h:jD (fun _=>none) G b):False:=by obtain⟨_,_,h,_⟩:=h;cases h
theorem Zip.closed{w:World}{S:Nat->Prop}{G:Nat->GI}{Z:Nat}{xs:zb}{us:List Value}(h:Zip (wK w S) xs us):Zip (qb w S G Z) xs us:=h.imp fun _ _ h=>.c h
theorem cu{w w':World}{S S':Nat->Prop}{r:O}{v:Value}(h:wK w S r v)(a:r.flat=true):wK w' S' r v:=by
 cases h with
 |v h=>exact .v h
 |wq b e=>
  refine .wq b fun j c u d f=>?_
  simp only[O.flat,zL]at a;have:=a c (zz d);have g:=e j c u d f;cases c<;>simp[O.isV]at this;obtain⟨rfl,b⟩:=g.wY;exact .v b
 |_=>simp[O.flat]at a
theorem ZN(c:vR dr C pf)(i:Xy C pf f fn code){args:zb}{x:O}{Y1:Hp}{a:Nat}(h:je C fn args (fun _=>none) 0=some (x,Y1,a))(l:args.length<=fn.ntmps)
  {w:World} {S:Nat->Prop} {vs:List Value} (m:∀b,S b->b<w.heap.size) (j:HS C.P w S) (n:Zip (wK w S) args vs) :
  Calls C.P f vs.toArray w fun e w'=>∃v S' G',e=.returned v/\Fr dr w (fun _=>False) w'/\Inv C.P w' S' G' Y1 a/\qb w' S' G' a x v/\(∀b,S b->S' b)/\(∀b,S' b->S b\/w.heap.size<=b)/\(∀id blk,Y1 id=some blk->w.heap.size<=(G' id).g):=by
 refine(lH c.spec c.quiet c.box c.iter c.mixed i.func i.body i.ok h (XK (fun _=>⟨0,0,0⟩) m j) n.closed l).mono fun e w' o=>?_
 obtain⟨v,S',G',p,k,q⟩:=o;refine⟨v,S',G',p,⟨k.fr.os,k.fr.tape,k.fr.output,k.fr.size,k.fr.drawn,fun b d _=>k.fr.block b d vZ⟩,k.inv,q,k.keep,fun b d=>?_,fun id blk d=>?_⟩
 ·rcases k.from_ b d with h|h|h
  ·exact .inl h
  ·exact(vZ h).elim
  ·exact .inr h
 ·rcases k.own id blk d with h|h
  ·exact(vZ h).elim
  ·exact h
theorem rm{w:World}{S:Nat->Prop}{x:O}{u:Value}(h:wK w S x u)(s:Nat):wK w S (lI s x) u:=by
 unfold lI;split
 ·cases h;exact .sl (es:=[]) (fun _ _=>undef) (by simp) (by simp) (by simp[maxLen]) (by simp) (by simp) (by simp)
 ·exact h
theorem Qo{w:World}{S:Nat->Prop}:∀{ns:List Nat} {xs:zb} {us:List Value},Zip (wK w S) xs us->Zip (wK w S) (q6 ns xs) us
 |[],xs,us,h=>by unfold q6;exact h
 |s::ns,[],us,h=>by unfold q6;exact h
 |s::ns,x::xs,us,h=>by obtain⟨u,a,rfl,b,c⟩:=h.jF;simp only[q6];exact .cons (rm b s) (Qo c)
theorem GR{w:World}{S:Nat->Prop}{x y:O}{u:Value}(h:wK w S x u)(a:EH x y):wK w S y u:=by
 rcases a with rfl|⟨rfl,s,rfl⟩
 ·exact h
 ·exact rm h s
theorem tm{w:World}{S:Nat->Prop}{x y:O}{u:Value}(h:wK w S x u)(a:VF x y):wK w S y u:=by
 unfold VF at a;split at a
 ·cases h with
  |wq g d=>
   rename_i xs ys us;refine .wq (by omega) fun j e v c f=>?_
   have b:j<xs.length:=by rw[a.1];exact(zd.1 c).1
   exact GR (d j xs[j] v (zj b) f) (a.2 j xs[j] e (zj b) c)
 ·exact GR h a
theorem Bf(hg:vR dr C pf)(q:Xy C pf f fn code)(j:Bool)(ns:List Nat)(F:zb->Option O)(hF:∀args r,F args=some r->args.length<=fn.ntmps/\∃s,zt C fn args=some s/\VF s r):jr dr C.P f (zi j ns F):=by
 refine⟨⟨fn,q.func,q.name,by rw[q.body];rfl⟩,?_⟩;intro args Y Z r Y' Z' h w S G vs hi hz;unfold zi at h;split at h
 ·rename_i aZ Y1 u;split at h
  ·rename_i s y;obtain⟨hn,rr,a,z⟩:=hF _ s y;unfold zt at a;split at a
   ·rename_i x hpe nxe A;obtain⟨⟨r1,T⟩,B,k⟩:=zV a;simp only at k;subst k;obtain⟨S1,t,D,E⟩:=yP (dr:=dr) hi u hz;refine(ZN hg q A hn t.inv.st t.inv.gD (Qo D)).mono fun e w' hh=>?_
    obtain⟨v,S',G',W,X,l,hx,hs0,H,_⟩:=hh;obtain⟨S2,k2,I⟩:=Zi (dr:=dr) l B hx;have J:=tm I z;have m:∀b,S2 b->S1 b\/(w.heap.size<=b/\b<w'.heap.size):=by
     intro b i;have n:=k2.inv.st b i;rcases k2.from_ b i with h1|⟨id,blk,h1,rfl⟩|h1
     ·rcases H b h1 with K|K
      ·exact .inl K
      ·exact .inr ⟨K,n⟩
     ·rcases Nat.lt_or_ge (G' id).g w.heap.size with h3|h3
      ·rename_i o;have:=o id blk h1;omega
      ·exact .inr ⟨h3,n⟩
     ·exact absurd h1 (by omega)
    split at h
    ·rename_i d;injection h with h
     injection h with L h;injection h with M N;subst L;subst M;subst N;refine⟨v,_,G,W,kd.outer hi X,.c ?_⟩;rcases d with Q|R
     ·exact cu J Q
     ·have p:=E R;exact J.mono fun b i=>⟨by rw[<-p];exact m b i,rfl⟩
    ·split at h
     ·injection h with h;injection h with L h;injection h with M N;subst L;subst M;subst N;exact⟨v,_,G,W,t.trans (kd.outer t.inv X),.c (J.mono fun b i=>⟨m b i,rfl⟩)⟩
     ·cases h
   ·cases a
  ·cases h
 ·cases h
end
variable{dr:Prop}
section
variable{P:Program}{Y1 Y2 hpe:Hp}{Z nxe:Nat}{S1 S':Nat->Prop}{G G':Nat->GI}{w w':World}{D:Nat->Prop}
theorem dU(hi:Inv P w S1 G Y1 Z)(a:∀id b,Y2 id=some b->Y1 id=some b/\¬D (G id).g)(l:∀b,D b->jD Y1 G b)(d:Fr dr w D w')(e:Inv P w' S' G' hpe nxe)(f:∀b,S1 b->S' b)(i:∀b,S' b->S1 b\/D b\/w.heap.size<=b) :
  kd dr P Y1 Z S1 G w Y2 Z S' G w':=by
 have m:∀b,S1 b->¬D b:=fun b c hd=>by obtain⟨id,blk,p,rfl⟩:=l b hd;exact hi.apart id blk p c
 have q:∀b,S1 b->S' b/\w'.heap[b]?=w.heap[b]?:=fun b c=>⟨f b c,d.block b (hi.st b c) (m b c)⟩
 refine⟨⟨e.st,fun id b c=>hi.top id b (a id b c).1,fun id b c=>?_,fun id b c hs=>?_,fun id id' b o c n r=>hi.inj id id' b o (a id b c).1 (a id' o n).1 r,e.gD⟩,ze _,fun _ _=>rfl,f,fun b c=>?_,fun id b c=>.inl ⟨id,b,(a id b c).1,rfl⟩,⟨d.os,d.tape,d.output,d.size,d.drawn,fun k s t=>d.block k s fun hd=>t (l k hd)⟩⟩
 ·have j:=hi.live id b (a id b c).1;exact j.mono q (ze _) (fun _ _=>rfl) (d.block _ j.lt (a id b c).2)
 ·have j:=hi.live id b (a id b c).1;rcases i _ hs with h|h|h
  ·exact hi.apart id b (a id b c).1 h
  ·exact(a id b c).2 h
  ·have:=j.lt;omega
 ·rcases i b c with h|h|h
  ·exact .inl h
  ·exact .inr (.inl (l b h))
  ·exact .inr (.inr h)
theorem Bg(hi:Inv P w S1 G Y1 Z)(f:∀id b,Y2 id=some b->Y1 id=some b/\¬D (G id).g)(L:∀b,D b->jD Y1 G b)(N:Fr dr w D w')(l:Inv P w' S' G' hpe nxe)(E:∀b,S1 b->S' b)(F:∀b,S' b->S1 b\/D b\/w.heap.size<=b)
  {id:Nat} {b:kn} (B:hpe id=some b) (v:b.arr=true) (s:D (G' id).g\/w.heap.size<=(G' id).g) :
  kd dr P Y1 Z S1 G w (qt Y2 Z (some b)) (Z+1) S' (qt G Z (G' id)) w':=by
 have x:=dU hi f L N l E F;have y:∀id' z,Y2 id'=some z->(G id').g≠(G' id).g:=fun id' z M q=>by
  rcases s with h|h
  ·exact(f id' z M).2 (q ▸ h)
  ·have:=(hi.live id' z (f id' z M).1).lt;omega
 have r:∀k,k<Z->qt G Z (G' id) k=G k:=fun k a=>qL _ _ _ _ (by omega)
 have m:∀k,k≠Z->qt Y2 Z (some b) k=Y2 k:=fun k a=>qL _ _ _ _ a
 have H:∀b,S' b->S' b/\w'.heap[b]?=w'.heap[b]?:=fun b B=>⟨B,rfl⟩
 have e:∀k c,Y2 k=some c->k<Z:=fun k c a=>hi.top k c (f k c a).1
 refine⟨⟨l.st,fun k c a=>?_,fun k c a=>?_,fun k c a=>?_,fun k n c A a o q=>?_,l.gD⟩,by omega,r,x.keep,x.from_,fun n c a=>?_,x.fr⟩
 ·by_cases d:k=Z
  ·omega
  ·rw[m k d]at a;have:=e k c a;omega
 ·by_cases d:k=Z
  ·subst d;simp only[wP]at a⊢;injection a with a
   subst a;have t:=l.live id _ B;refine⟨t.bs,fun C=>⟨t.size C,t.len C,t.fit C,?_⟩,t.UQ⟩;obtain⟨I,Q,R,S⟩:=t.row C;refine⟨I,Q,R,fun i j c T J W=>?_⟩;obtain⟨u,X,K⟩:=S i j c T J W;exact⟨u,X,K.1,.c (K.1 v),K.2.2⟩
  ·rw[m k d]at a;rw[r k (e k c a)];exact(x.inv.live k c a).mono H (by omega) r rfl
 ·by_cases d:k=Z
  ·subst d;simp only[wP];exact l.apart id b B
  ·rw[m k d]at a;rw[r k (e k c a)];exact x.inv.apart k c a
 ·by_cases d:k=Z<;>by_cases p:n=Z
  ·omega
  ·subst d;rw[m n p]at o;rw[r n (e n A o)]at q;simp only[wP]at q;exact(y n A o q.symm).elim
  ·subst p;rw[m k d]at a;rw[r k (e k c a)]at q;simp only[wP]at q;exact(y k c a q).elim
  ·rw[m k d]at a;rw[m n p]at o;rw[r k (e k c a),r n (e n A o)]at q;exact hi.inj k n c A (f k c a).1 (f n A o).1 q
 ·by_cases d:n=Z
  ·subst d;simp only[wP];rcases s with h|h
   ·exact .inl (L _ h)
   ·exact .inr h
  ·rw[m n d]at a;rw[r n (e n c a)];exact .inl ⟨n,c,(f n c a).1,rfl⟩
theorem Bh{id n:Nat}{v:Value}(h:qb w' S' G' nxe (.own id 0 n) v):qb w' S' (qt G Z (G' id)) (Z+1) (.own Z 0 n) v:=by have a:=h.xg;obtain⟨cap,e,b,c,d,rfl⟩:=h.vE;have:=qb.own (w:=w') (S:=S') (G:=qt G Z (G' id)) (Z:=Z+1) (id:=Z) (off:=0) (n:=n) (cap:=cap) (by omega) b c (by simpa using d) (by simpa using a);simpa using this
end
section
variable{C:Ctx}{pf:FuncId->Bool}{f:FuncId}{fn:Func}{code:Code}
def WK(r:Option kn)(x:O)(Y:Hp)(_:Nat):Prop:=match r with
 |none=>x=.nil
 |some b=>∃id,x=.own id 0 b.es.length/\Y id=some b/\b.arr=true
theorem xa(K:vR dr C pf)(n:Xy C pf f fn code)(ns:List Nat)(F:zb->Option (Option kn))(hF:∀args r,F args=some r->args.length<=fn.ntmps/\∃x Y Z,je C fn args (fun _=>none) 0=some (x,Y,Z)/\WK r x Y Z) :
  jr dr C.P f (yh ns F):=by
 refine⟨⟨fn,n.func,n.name,by rw[n.body];rfl⟩,?_⟩;intro args Y Z r Y' M h w S G vs hi L;unfold yh at h;split at h
 ·rename_i N Y1 s;obtain⟨S1,g,o,_⟩:=yP (dr:=dr) hi s L;have i:∀id b,Y1 id=some b->Y1 id=some b/\¬False:=fun id b h=>⟨h,fun h=>h⟩
  split at h
  ·rename_i j;obtain⟨t,x,hpe,nxe,k,d⟩:=hF _ none j;injection h with h
   injection h with u h;injection h with y z;subst u;subst y;subst z;simp only[WK]at d;subst d;refine(ZN K n k t g.inv.st g.inv.gD (Qo o)).mono fun e w' A=>?_
   obtain⟨v,S',G',B,E,a,H,l,m,_⟩:=A;have I:=dU (dr:=dr) (D:=fun _=>False) (Y2:=Y1) g.inv i (fun _ h=>h.elim) E a l (fun b J=>(m b J).imp (fun h=>h) .inr);have:=H.Zp;subst this;exact⟨_,_,_,B,g.trans I,.c .nil⟩
  ·rename_i b j;obtain⟨t,x,hpe,nxe,k,d⟩:=hF _ (some b) j;injection h with h
   injection h with u h;injection h with y z;subst u;subst y;subst z;obtain⟨id,rfl,hid,p⟩:=d;refine(ZN K n k t g.inv.st g.inv.gD (Qo o)).mono fun e w' A=>?_
   obtain⟨v,S',G',B,E,a,H,l,m,q⟩:=A;have I:=Bg (dr:=dr) (D:=fun _=>False) (Y2:=Y1) g.inv i (fun _ h=>h.elim) E a l (fun b J=>(m b J).imp (fun h=>h) .inr) hid p (.inr (q id b hid));exact⟨_,_,_,B,g.trans I,Bh H⟩
  ·cases h
 ·cases h
end
end Go.AM
namespace Go.AM
open Go.RowKit Go.WideShapes Go.ChangeShapes
variable{dr:Prop}
def Bi(P:Program):Nat->List Field->Option Nat
 |o,[]=>some o
 |o,f::a=>if f.offset=o then Bi P (o+P.cellsOf f.type) a else none
def iz(P:Program)(T:List TypeId):Bool:=T.all fun t=>match P.underlying t with
 |some .bool|some (.int _)|some .string=>P.cellsOf t==1
 |some (.slice e)=>P.cellsOf t==1&&T.contains e&&decide (0<P.cellsOf e)
 |some (.struct a)=>Bi P 0 a.toList==some (P.cellsOf t)&&a.toList.all fun f=>T.contains f.type
 |_=>false
structure Bounds (H:Type) (Bl:Nat->Prop) (Bd:DataW H->Prop):Prop where
 slice:∀es sp,Bd (.slice es sp)->Bl es.length/\∀d∈es,Bd d
 nil:Bl 0
 agg:∀l,Bd (.agg l)->∀d∈l,Bd d
 str:∀b,Bd (.lit (.string b))->Bl b.length
section
variable{H:Type}{V:TypeId×Value->H}{P:Program}{w:World}{sp:Nat->Bool}{held:Bool}{Bl:Nat->Prop}{Bd:DataW H->Prop}
theorem oR{α:Type}{l:List α}{o n j:Nat}(a:j<n):((l.drop o).take n)[j]?=l[o+j]?:=by rw[qy,zf a,qM]
theorem rn{R:O->Value->Prop}{Q:Field->zb->Prop}:∀(e:List Field) (o n:Nat) (cs:List Value),Bi P o e=some n->cs.length=n ->
  (∀f∈e,∃a,Zip R a ((cs.drop f.offset).take (P.cellsOf f.type))/\Q f a) ->
  ∃a:zb,a.length+o=n/\(∀(j:Nat) (g:O) (u:Value),a[j]?=some g->cs[o+j]?=some u->R g u)/\∀f∈e,o<=f.offset/\Q f ((a.drop (f.offset-o)).take (P.cellsOf f.type))
 |[],o,n,cs,c,p,_=>by
  simp only[Bi]at c;injection c with c
  subst c;exact⟨[],by simp,by simp,by simp⟩
 |f::e,o,n,cs,c,p,h=>by
  simp only[Bi]at c;split at c
  ·rename_i s;obtain⟨d,q,t⟩:=h f (by simp);obtain⟨i,y,v,w⟩:=rn e (o+P.cellsOf f.type) n cs c p (fun f' b=>h f' (by simp[b]));have l:d.length=P.cellsOf f.type:=by have:=q.1;simp only[yV,iq]at this;omega
   refine⟨d++i,by simp;omega,fun j g u k r=>?_,fun f' b=>?_⟩
   ·by_cases m:j<d.length
    ·rw[zY m]at k;refine q.2 j g u k ?_;rw[oR (by omega),s];exact r
    ·rw[zQ (by omega)]at k;refine v (j-d.length) g u k ?_;rw[show o+P.cellsOf f.type+(j-d.length)=o+j from by omega];exact r
   ·rcases zv.1 b with rfl|b
    ·refine⟨by omega,?_⟩;have:((d++i).drop (f'.offset-o)).take (P.cellsOf f'.type)=d:=by rw[show f'.offset-o=0 from by omega,kc,<-l,List.take_left]
     rw[this];exact t
    ·obtain⟨z,x⟩:=w f' b;refine⟨by omega,?_⟩;have:(d++i).drop (f'.offset-o)=i.drop (f'.offset-(o+P.cellsOf f.type)):=by rw[List.drop_append,UN (by omega),kj];congr 1;omega
     rw[this];exact x
  ·cases c
end
section
variable{C:Ctx}{pf:FuncId->Bool}{f:FuncId}{fn:Func}{code:Code}
theorem Iw(n:vR dr C pf)(g:Xy C pf f fn code){args:zb}(h:zt C fn args=some (.v (.bool true)))(o:args.length<=fn.ntmps){w:World}{vs:List Value}(i:w.ShapedOpen C.P)(a:∀t∈JK,AU w (fun b=>b<w.heap.size) t)(p:Zip (wK w (fun b=>b<w.heap.size)) args vs) :
  Calls C.P f vs.toArray w fun e w'=>e=.returned (.bool true)/\Below w.heap.size w w':=by
 unfold zt at h;split at h
 ·rename_i x q s j;obtain⟨⟨r,Y2⟩,l,m⟩:=zV h;simp only at m;subst m;refine(ZN n g j o (fun _ u=>u) (HS.Rp i a) p).mono fun e w' y=>?_
  obtain⟨v,D,E,z,c,d,A,_⟩:=y;obtain⟨F,_,B⟩:=Zi (dr:=dr) d l A;obtain⟨rfl,_⟩:=B.wY;exact⟨z,c.os,c.tape,c.output,c.size,fun k g=>c.block k g fun h=>h⟩
 ·cases h
end
end Go.AM
namespace Go.AM
variable{dr:Prop}
attribute [congr] A5 A6
attribute [simp] ct A8 Sd Is ti Nf It Se Ni Nh EB EC A7 th Ir ED aG EE dT
 oP EF Ba Bb Nj
@[simp]theorem lJ(K:Exit->St->Prop)(st:St):Z1 K st=K .normal st:=rfl
@[simp]theorem Si(id i:Nat)(K:Exit->St->Prop)(st:St)(h:¬i=id):WJ id K (.exit i) st=K (.exit i) st:=by simp[WJ,h]
@[simp]theorem zm{α:Type}(f:Nat->α)(k i:Nat)(x:α)(h:¬i=k):qt f k x i=f i:=by simp[qt,h]
@[simp]theorem zdJ(U:Nat->O)(d:Nat)(x:O):put U (some d) x=qt U d x:=rfl
@[simp]theorem zdK(U:Nat->O)(x:O):put U none x=U:=rfl
@[simp]theorem zcL(args:zb)(t:Nat):jL args t=(args[t]?).getD (.wq []):=rfl
@[simp]theorem zfV(U:Nat->O)(t:Nat):get U (.tmp t)=some (U t):=rfl
@[simp]theorem Nn(U:Nat->O)(f:Nat):get U (.func f)=some (.fn (.func f) [] []):=rfl
@[simp]theorem zfW(U:Nat->O)(k:IntKind)(n:Int):get U (.const (.int k n))=some (.v (.int k n)):=rfl
@[simp]theorem zdL(U:Nat->O)(b:Bool):get U (.const (.bool b))=some (.v (.bool b)):=rfl
@[simp]theorem zfX(U:Nat->O)(s:ByteArray):get U (.const (.string s))=some (.v (.string s)):=rfl
@[simp]theorem zfY(U:Nat->O):get U (.const (.slice none 0 0))=some .nil:=rfl
@[simp]theorem zag(U:Nat->O):get U (.const .nilFunc)=some (.v .nilFunc):=rfl
@[simp]theorem zfZ(U:Nat->O)(cs:Array Value):get U (.const (.agg cs))=(vD cs.toList).map .agg:=rfl
@[simp]theorem zbe(C:Ctx)(a:Array Oper)(d:Option Tmp)(op:Op)(t:TypeId)(p:String)(b:Array Edge)(st:St):yJ C a ⟨d,op,t,p,b,none⟩ st =
  (zX C (get st.U) st.Y st.Z op).map fun r=>⟨put st.U d r.1,r.2.1,r.2.2⟩:=jg C a d op t p b st
def Zs(C:Ctx)(d:Option Tmp)(op:Op)(st:St)(y:Option Bool)(b:Bool):Option St:=
 if y=some b then(zX C (get st.U) st.Y st.Z op).map fun r=>⟨put st.U d r.1,r.2.1,r.2.2⟩else some ⟨put st.U d (.wq []),st.Y,st.Z⟩
theorem tn{C:Ctx}{d:Option Tmp}{op:Op}{st:St}{y a:Option Bool}{b:Bool}(h:y=a):Zs C d op st y b=Zs C d op st a b:=by rw[h]
@[simp]theorem zbf(C:Ctx)(a:Array Oper)(d:Option Tmp)(op:Op)(t:TypeId)(p:String)(c:Array Edge)(j:Nat)(b:Bool)(st:St):yJ C a ⟨d,op,t,p,c,some (j,b)⟩ st =
  Zs C d op st (QS a st.U j) b:=by
 unfold yJ Zs Region.wanted;simp only[yH];split
 ·cases zX C (get st.U) st.Y st.Z op<;>rfl
 ·rfl
@[simp]theorem zcM(C:Ctx)(d:Option Tmp)(op:Op)(st:St)(b:Bool):Zs C d op st (some b) b=(zX C (get st.U) st.Y st.Z op).map fun r=>⟨put st.U d r.1,r.2.1,r.2.2⟩:=by simp[Zs]
@[simp]theorem zdM(C:Ctx)(d:Option Tmp)(op:Op)(st:St):Zs C d op st (some true) false=some ⟨put st.U d (.wq []),st.Y,st.Z⟩:=by simp[Zs]
@[simp]theorem zdN(C:Ctx)(d:Option Tmp)(op:Op)(st:St):Zs C d op st (some false) true=some ⟨put st.U d (.wq []),st.Y,st.Z⟩:=by simp[Zs]
@[simp]theorem zbg(C:Ctx)(d:Option Tmp)(op:Op)(st:St)(b:Bool):Zs C d op st none b=some ⟨put st.U d (.wq []),st.Y,st.Z⟩:=by simp[Zs]
attribute [congr] tn
def VI:O->Option Bool
 | .v (.bool b)=>some b
 |_=>none
@[simp]theorem zah(b:Bool):VI (.v (.bool b))=some b:=rfl
@[simp]theorem zbh(l:zb):VI (.wq l)=none:=rfl
def EI(U:Nat->O):Option Nat->Option Bool
 |some d=>VI (U d)
 |none=>none
@[simp]theorem zai(U:Nat->O)(d:Nat):EI U (some d)=VI (U d):=rfl
@[simp]theorem zcN(a:Array Oper)(U:Nat->O)(j:Nat):QS a U j=EI U ((a[j]?).bind (·.dst)):=by
 unfold QS EI VI;cases (a[j]?).bind (·.dst)with
 |none=>rfl
 |some d=>rfl
section
variable(C:Ctx)(ρ:Operand->Option O)(Y:Hp)(Z:Nat)
@[simp]theorem Sj(x:Operand):zX C ρ Y Z (.move x)=(ρ x).map fun y=>(y,Y,Z):=rfl
@[simp]theorem Ix(x:Operand):zX C ρ Y Z (.assign x)=(ρ x).map fun y=>(y,Y,Z):=rfl
def Yy(c a b:Option O):Option O:=match c with
 |some (.v (.bool true))=>a
 |some (.v (.bool false))=>b
 |_=>none
@[simp]theorem zbi(a b:Option O):Yy (some (.v (.bool true))) a b=a:=rfl
@[simp]theorem zaj(a b:Option O):Yy (some (.v (.bool false))) a b=b:=rfl
@[simp]theorem Sk(c a b:Operand):zX C ρ Y Z (.pick c a b)=(Yy (ρ c) (ρ a) (ρ b)).map fun y=>(y,Y,Z):=by
 unfold Yy;simp only[zX];generalize ρ c=o;cases o with
 |none=>rfl
 |some p=>cases p<;>(try rfl);rename_i x;cases x<;>(try rfl);rename_i t;cases t<;>rfl
@[simp]theorem zbj(op:BinOp)(t a:TypeId)(x y:Operand):zX C ρ Y Z (.binOp op t x y a)=(do let p <-ρ x;let q <-ρ y;let r <-Vw (isK y) C.P op t p q;some (r,Y,Z)):=by simp only[zX];cases ρ x<;>cases ρ y<;>(try rfl);simp;cases Vw (isK y) C.P op t _ _<;>rfl
@[simp]theorem zdO(op:UnOp)(t:TypeId)(x:Operand):zX C ρ Y Z (.unOp op t x)=(do let p <-ρ x;let r <-RM op p;some (r,Y,Z)):=by simp only[zX];cases ρ x<;>(try rfl);simp;cases RM op _<;>rfl
@[simp]theorem Sl(s d:TypeId)(x:Operand):zX C ρ Y Z (.convert s d x)=(do let p <-ρ x;let r <-az C.P s d p;some (r,Y,Z)):=by simp only[zX];cases ρ x<;>(try rfl);simp;cases az C.P s d _<;>rfl
@[simp]theorem Sm(t:TypeId)(x:Operand):zX C ρ Y Z (.load t x)=(do let p <-ρ x;let r <-xA C.P Y t p;some (r,Y,Z)):=by simp only[zX];cases ρ x<;>(try rfl);simp;cases xA C.P Y t _<;>rfl
@[simp]theorem zdP(t:TypeId)(a x:Operand):zX C ρ Y Z (.store t a x)=(do let p <-ρ a;let q <-ρ x;let h <-QQ C.P Y t p q;some (.wq [],h,Z)):=by simp only[zX];cases ρ a<;>cases ρ x<;>(try rfl);simp;cases QQ C.P Y t _ _<;>rfl
@[simp]theorem tp(t:TypeId)(x:Operand)(f:Nat):zX C ρ Y Z (.fieldAddr t x f)=(do let p <-ρ x;let r <-yY C.P t f p;some (r,Y,Z)):=by simp only[zX];cases ρ x<;>(try rfl);simp;cases yY C.P t f _<;>rfl
@[simp]theorem Np(t:TypeId)(x:Operand)(f:Nat):zX C ρ Y Z (.field t x f)=(do let p <-ρ x;let r <-ZY C.P t f p;some (r,Y,Z)):=by simp only[zX];cases ρ x<;>(try rfl);simp;cases ZY C.P t f _<;>rfl
@[simp]theorem tq(t:TypeId)(x i:Operand):zX C ρ Y Z (.indexAddr t x i)=(do let p <-ρ x;let q <-ρ i;let r <-qJ C.P Y t p q;some (r,Y,Z)):=by simp only[zX];cases ρ x<;>cases ρ i<;>(try rfl);simp;cases qJ C.P Y t _ _<;>rfl
@[simp]theorem Nq(t:TypeId)(x i:Operand):zX C ρ Y Z (.index t x i)=(do let p <-ρ x;let q <-ρ i;let r <-QR C.P t p q;some (r,Y,Z)):=by simp only[zX];cases ρ x<;>cases ρ i<;>(try rfl);simp;cases QR C.P t _ _<;>rfl
@[simp]theorem Nr(t:TypeId)(x:Operand)(lo hi:Option Operand):zX C ρ Y Z (.slice t x lo hi none)=(do let p <-ρ x;let r <-jC C.P Y t p (lo.map ρ) (hi.map ρ);some (r,Y,Z)):=by simp only[zX];cases ρ x<;>(try rfl);simp;cases jC C.P Y t _ _ _<;>rfl
@[simp]theorem Sn(t:TypeId)(l c:Operand):zX C ρ Y Z (.makeSlice t l c)=(do let p <-ρ l;let q <-ρ c;ZM C.P Y Z t p q):=by simp only[zX];cases ρ l<;>cases ρ c<;>rfl
def JN(i:Nat):O->Option O
 | .wq vs=>vs[i]?
 |_=>none
@[simp]theorem Sq(i:Nat)(vs:zb):JN i (.wq vs)=vs[i]?:=rfl
@[simp]theorem EJ(x:Operand)(i:Nat):zX C ρ Y Z (.extract x i)=(do let p <-ρ x;let r <-JN i p;some (r,Y,Z)):=by
 simp only[zX];cases ρ x with
 |none=>rfl
 |some p=>cases p<;>(try rfl);simp[JN];rename_i vs;cases vs[i]?<;>rfl
@[simp]theorem zdQ(t:TypeId):zX C ρ Y Z (.alloc t)=(do let n <-qC C.P t;let z <-yT C.P t;if 0<n/\z.length=n then some (.ref Z 0 0,qt Y Z (some ⟨t,n,false,[z]⟩),Z+1)else none):=by simp only[zX];cases qC C.P t<;>cases yT C.P t<;>rfl
@[simp]theorem zgC(t:TypeId)(x:Operand):zX C ρ Y Z (.box t x)=(do let n <-qC C.P t;let y <-ρ x;if 0<n/\y.cells.length=n/\y.cells.all O.wH=true then some (.ref Z 0 0,qt Y Z (some ⟨t,n,false,[y.cells]⟩),Z+1)else none):=by simp only[zX];cases qC C.P t<;>cases ρ x<;>rfl
@[simp]theorem zdR(t:TypeId)(a:Array (Nat×Operand)):zX C ρ Y Z (.build t a)=(do let q <-va ρ a.toList;let r <-zS C.P t q;some (r,Y,Z)):=by simp only[zX];cases va ρ a.toList<;>(try rfl);simp;cases zS C.P t _<;>rfl
@[simp]theorem RN(t:TypeId)(n:Nat)(a:Array (Nat×Operand)):zX C ρ Y Z (.buildSlice t n a)=(do let q <-va ρ a.toList;zp C.P Y Z t n q):=by simp only[zX];cases va ρ a.toList<;>rfl
@[simp]theorem zak(f:Fn)(a b:Array Operand):zX C ρ Y Z (.makeFunc f a b)=(do let p <-wU (a.toList.map ρ);let q <-wU (b.toList.map ρ);some (.fn f p q,Y,Z)):=by simp only[zX];cases wU (a.toList.map ρ)<;>cases wU (b.toList.map ρ)<;>rfl
@[simp]theorem Sr(f:Operand)(args:Array Operand)(ts:Array TypeId):zX C ρ Y Z (.call {callee:=.value f,args:=args,argTypes:=ts})=(do let xs <-wU (args.toList.map ρ);jG C Y Z (ρ f) xs):=by simp only[zX,xW];cases wU (args.toList.map ρ)<;>rfl
@[simp]theorem EK(b:Builtin)(args:Array Operand)(ts:Array TypeId):zX C ρ Y Z (.call {callee:=.builtin b,args:=args,argTypes:=ts})=(do let xs <-wU (args.toList.map ρ);yv C.P Y Z ts b xs):=by simp only[zX,xW];cases wU (args.toList.map ρ)<;>rfl
end
@[simp]theorem zal{α:Type}:wU ([]:List (Option α))=some []:=rfl
@[simp]theorem Ss{α:Type}(x:α)(l:List (Option α)):wU (some x::l)=(wU l).map (x::·):=rfl
@[simp]theorem zcO(ρ:Operand->Option O):va ρ []=some []:=rfl
@[simp]theorem zbk(ρ:Operand->Option O)(i:Nat)(x:Operand)(l:List (Nat×Operand)):va ρ ((i,x)::l)=(do let p <-ρ x;let r <-va ρ l;some ((i,p)::r)):=by simp only[va];cases ρ x<;>cases va ρ l<;>rfl
theorem EL(C:Ctx)(Y:Hp)(Z g:Nat)(first a xs:zb)(b:AM.Spec)(h:C.Γ g=some b):jG C Y Z (some (.fn (.func g) first a)) xs=b (first++xs++a) Y Z:=by simp[jG,h]
section
variable(P:Program)(Y:Hp)(Z:Nat)(t:TypeId)
@[simp]theorem zf0(op:BinOp)(k:IntKind)(a b:Int):xV P op t (.v (.int k a)) (.v (.int k b))=MP op k a b:=by simp[xV]
@[simp]theorem zf1(op:BinOp)(a b:ByteArray):xV P op t (.v (.string a)) (.v (.string b))=MQ op a b:=rfl
@[simp]theorem zgD(b:Bool):RM .not (.v (.bool b))=some (.v (.bool !b)):=rfl
@[simp]theorem zgE(k:IntKind)(n:Int):RM .neg (.v (.int k n))=some (.v (.int k (k.wrap (0-n)))):=rfl
@[simp]theorem zdS(cs:zb):xA P Y t (.ptr cs)=qO P t cs:=rfl
@[simp]theorem zdT(id i j:Nat):xA P Y t (.ref id i j)=(do let b <-Y id;let c <-b.es[i]?;qO P t (c.drop j)):=by
 simp only[xA];cases Y id with
 |none=>rfl
 |some b=>simp;cases b.es[i]?<;>rfl
@[simp]theorem RO(f:Nat)(cs:zb):yY P t f (.ptr cs)=(do let q <-wG P t f;if q.2.1=0 then none else some (.ptr (cs.drop q.1))):=by simp only[yY];cases wG P t f<;>rfl
@[simp]theorem RQ(f id i j:Nat):yY P t f (.ref id i j)=(do let q <-wG P t f;if q.2.1=0 then none else some (.ref id i (j+q.1))):=by simp only[yY];cases wG P t f<;>rfl
@[simp]theorem zf2(s:ByteArray):Yt P t (.v (.string s))=match P.underlying t with|some .string=>some (.v (.int .i64 s.size))|_=>none:=rfl
@[simp]theorem zgF(s:Nat)(es:List zb):Yt P t (.sl s es)=(ym P t).map fun _=>.v (.int .i64 es.length):=rfl
@[simp]theorem zf3:Yt P t .nil=(ym P t).map fun _=>.v (.int .i64 0):=rfl
@[simp]theorem zf4(id off n:Nat):Yt P t (.own id off n)=(ym P t).map fun _=>.v (.int .i64 n):=rfl
theorem rq(i:Int)(x:O)(d:∀cs,x≠.ptr cs)(e:∀a b c,x≠.ref a b c):Zh P t i x=none:=by
 unfold Zh;split
 ·split
  ·split
   ·split
    ·exact absurd rfl (d _)
    ·exact absurd rfl (e _ _ _)
    ·rfl
   ·rfl
  ·rfl
 ·rfl
@[simp]theorem zdU(s:Nat)(es:List zb)(k:IntKind)(i:Int):qJ P Y t (.sl s es) (.v (.int k i))=(do let e <-ym P t;let n <-qC P e;if s=n/\0<n/\0<=i then(es[i.toNat]?).map .ptr else none):=by
 simp only[qJ];cases ym P t with
 |none=>exact(rq P t i _ (fun _=>by simp) (fun _ _ _=>by simp)).trans rfl
 |some e=>simp;cases qC P e<;>rfl
@[simp]theorem zcP(id off n:Nat)(k:IntKind)(i:Int):qJ P Y t (.own id off n) (.v (.int k i))=(do let e <-ym P t;let m <-qC P e;let b <-Y id;if b.e=e/\0<m/\0<=i/\i.toNat<n then some (.ref id (off+i.toNat) 0)else none):=by
 simp only[qJ];cases ym P t with
 |none=>exact(rq P t i _ (fun _=>by simp) (fun _ _ _=>by simp)).trans rfl
 |some e=>simp;cases qC P e<;>(try rfl);simp;cases Y id<;>rfl
end
@[simp]theorem Su(P:Program)(Y:Hp)(Z:Nat)(ts:Array TypeId)(x:O):yv P Y Z ts .len [x]=(do let t <-ts[0]?;let y <-Yt P t x;some (y,Y,Z)):=by
 simp only[yv];cases ts[0]? with
 |none=>rfl
 |some t=>simp;cases Yt P t x<;>rfl
@[simp]theorem Sv(P:Program)(Y:Hp)(Z:Nat)(ts:Array TypeId)(xs:zb):yv P Y Z ts .min xs=(MR xs).map fun y=>(y,Y,Z):=rfl
@[simp]theorem Sw(P:Program)(Y:Hp)(Z:Nat)(ts:Array TypeId)(xs:zb):yv P Y Z ts .max xs=(MS xs).map fun y=>(y,Y,Z):=rfl
@[simp]theorem zbl(P:Program)(Y:Hp)(Z:Nat)(ts:Array TypeId)(s x:O):yv P Y Z ts .append [s,x]=(do let t <-ts[0]?;let u <-ts[1]?;yI P Y Z t u s x):=by simp only[yv];cases ts[0]?<;>cases ts[1]?<;>rfl
@[simp]theorem zcQ(P:Program)(Y:Hp)(n:Nat)(e t u:TypeId)(i o k:Nat):iV P Y n e t u (.own i o k)=if u=t then view Y n (.own i o k)else none:=rfl
@[simp]theorem zdV(P:Program)(Y:Hp)(n:Nat)(e t u:TypeId)(k:Nat)(es:List zb):iV P Y n e t u (.sl k es)=if u=t then view Y n (.sl k es)else none:=rfl
@[simp]theorem zcR(P:Program)(Y:Hp)(n:Nat)(e t u:TypeId):iV P Y n e t u .nil=if u=t then view Y n .nil else none:=rfl
@[simp]theorem zdW(P:Program)(Y:Hp)(n:Nat)(e t u:TypeId):iV P Y n e t u .em=if u=t then view Y n .em else none:=rfl
@[simp]theorem zcS(P:Program)(Y:Hp)(n:Nat)(e t u:TypeId)(b:ByteArray):iV P Y n e t u (.v (.string b))=if R8 P u=true/\GK P e=true then some (b.data.toList.map fun c=>[.v (.int .u8 c.toNat)])else none:=rfl
@[simp]theorem zcT(P:Program)(Y:Hp)(Z:Nat)(ts:Array TypeId)(x:O):yv P Y Z ts .clear [x]=(do let t <-ts[0]?;dM P Y Z t x):=by simp only[yv];cases ts[0]?<;>rfl
@[simp]theorem zdX(P:Program)(Y:Hp)(Z:Nat)(ts:Array TypeId)(s x:O):yv P Y Z ts .copy [s,x]=(do let t <-ts[0]?;GL P Y Z t s x):=by simp only[yv];cases ts[0]?<;>rfl
attribute [simp] MR XD MS XE MP MQ y9 xX W7
@[simp]theorem zcU(cs:zb):O.cells (.agg cs)=cs:=rfl
@[simp]theorem zcV(cs:zb):O.cells (.wq cs)=[.wq cs]:=rfl
@[simp]theorem zf5(x:Value):O.cells (.v x)=[.v x]:=rfl
@[simp]theorem zcW:O.cells .nil=[.nil]:=rfl
@[simp]theorem zdY:O.cells .em=[.em]:=rfl
@[simp]theorem zdZ(s:Nat)(es:List zb):O.cells (.sl s es)=[.sl s es]:=rfl
@[simp]theorem zcX(cs:zb):O.cells (.ptr cs)=[.ptr cs]:=rfl
@[simp]theorem zcY(i o n:Nat):O.cells (.own i o n)=[.own i o n]:=rfl
@[simp]theorem zcZ(i o n:Nat):O.cells (.ref i o n)=[.ref i o n]:=rfl
@[simp]theorem zd0(f:Fn)(a b:zb):O.cells (.fn f a b)=[.fn f a b]:=rfl
@[simp]theorem zd1(x:Value):O.wH (.v x)=true:=rfl
@[simp]theorem zbm:O.wH .nil=true:=rfl
@[simp]theorem zc0:O.wH .em=true:=rfl
@[simp]theorem zc1(s:Nat)(es:List zb):O.wH (.sl s es)=true:=rfl
@[simp]theorem zbn(cs:zb):O.wH (.ptr cs)=true:=rfl
@[simp]theorem zbo(i o n:Nat):O.wH (.own i o n)=true:=rfl
@[simp]theorem zbp(i o n:Nat):O.wH (.ref i o n)=true:=rfl
@[simp]theorem zc2(f:Fn)(a b:zb):O.wH (.fn f a b)=true:=rfl
@[simp]theorem zbq(cs:zb):O.wH (.agg cs)=false:=rfl
@[simp]theorem zbr(cs:zb):O.wH (.wq cs)=false:=rfl
attribute [simp] wu qa zw qY AM.freeze O.flat O.isV O.noOwn
@[simp]theorem Sx(i o n:Nat):O.kY (.own i o n)=true:=rfl
@[simp]theorem zbs(x:Value):O.kY (.v x)=false:=rfl
@[simp]theorem Sy:O.kY .nil=false:=rfl
@[simp]theorem zam:O.kY .em=false:=rfl
@[simp]theorem zan(s:Nat)(es:List zb):O.kY (.sl s es)=false:=rfl
@[simp]theorem Sz(cs:zb):O.kY (.ptr cs)=false:=rfl
@[simp]theorem SA(i o n:Nat):O.kY (.ref i o n)=false:=rfl
@[simp]theorem zao(f:Fn)(a b:zb):O.kY (.fn f a b)=false:=rfl
@[simp]theorem zf6{α:Type}(f:Nat->α)(k:Nat)(x y:α):qt (qt f k x) k y=qt f k y:=by funext i;simp only[qt];split<;>rfl
@[simp]theorem zc3(P:Program)(Y:Hp)(t:TypeId)(id i j:Nat)(x:O):QQ P Y t (.ref id i j) x=(do
  let a <-Y id;let q <-(if a.arr=true then qa Y x else some (x,Y));let b <-q.2 id;let n <-qC P t;let c <-b.es[i]?
  if q.1.cells.length=n/\j+n<=c.length/\q.1.cells.all O.wH=true then some (qt q.2 id (some ⟨b.e,b.s,b.arr,b.es.set i (y9 c j q.1.cells)⟩))else none):=by
 simp only[QQ];cases Y id with
 |none=>rfl
 |some a=>
  simp only[Option.bind_eq_bind,z8];generalize (if a.arr=true then qa Y x else some (x,Y))=o;cases o with
  |none=>rfl
  |some q=>
   obtain⟨y,d⟩:=q;simp only[z8];cases d id with
   |none=>rfl
   |some b=>
    simp only[z8];cases qC P t with
    |none=>rfl
    |some n=>simp only[z8];cases b.es[i]?<;>rfl
@[simp]theorem zf7(x y:Value)(Y:Hp)(Z:Nat):wc (.v y) (.v x) Y Z=(x=y):=by simp[wc]
def Vh:O->Int
 | .v (.int _ n)=>n
 |_=>0
@[simp]theorem zc4(k:IntKind)(n:Int):Vh (.v (.int k n))=n:=rfl
theorem wQ{n:Int}(a:-9223372036854775808<=n)(b:n<=9223372036854775807):IntKind.i64.wrap n=n:=by rw[AD];omega
variable{dr:Prop}
open Classical in
noncomputable def qu {α b:Type} (V:α->zb) (pre:α->Prop) (out:α->b):zb->Option b:=fun args=>
 if h:∃a,args=V a/\pre a then some (out (Classical.choose h))else none
theorem qG{α e:Type}{V:α->zb}{pre:α->Prop}{out:α->e}(d:∀a b,V a=V b->a=b){a:α}(h:pre a):qu V pre out (V a)=some (out a):=by have c:∃b,V a=V b/\pre b:=⟨a,rfl,h⟩;unfold qu;rw[zgA c];have:=jq c;rw[<-d _ _ this.1]
theorem zK{α c:Type}{V:α->zb}{pre:α->Prop}{out:α->c}{args:zb}{r:c}(h:qu V pre out args=some r):∃a,args=V a/\pre a/\r=out a:=by
 unfold qu at h;split at h
 ·rename_i b;injection h with h
  have:=jq b;exact⟨_,this.1,this.2,h.symm⟩
 ·cases h
abbrev Qf:=List (Nat×AM.Spec)
def lookup:Qf->Nat->Option AM.Spec
 |[],_=>none
 |(k,s)::l,g=>if g=k then some s else lookup l g
@[simp]theorem fB(k:Nat)(s:AM.Spec)(l:Qf)(g:Nat):lookup ((k,s)::l) g=if g=k then some s else lookup l g:=rfl
def zW(P:Program)(l:Qf):Ctx:=⟨P,lookup l,fun _=>[],fun _=>[],fun _=>false,fun _=>[],fun _=>none⟩
@[simp]theorem zc5(P:Program)(l:Qf)(i:Nat):(zW P l).dyn i=[]:=rfl
@[simp]theorem RR(P:Program)(l:Qf)(i:Nat)(a:Array Oper)(d:Bool)(st:St)(K:Exit->St->Prop):Zw (zW P l) (.region i a d) st K=iy (zW P l) a a.toList st (Z1 K):=Yw _ i a d st K rfl rfl
def Kp(P:Program)(l:Qf)(a:Nat->List (Tmp×Tmp)):Ctx:=⟨P,lookup l,a,fun _=>[],fun _=>false,fun _=>[],fun _=>none⟩
@[simp]theorem zd2(P:Program)(l:Qf)(a:Nat->List (Tmp×Tmp)):(Kp P l a).P=P:=rfl
@[simp]theorem zf8(P:Program)(l:Qf):(zW P l).P=P:=rfl
@[simp]theorem zf9(P:Program)(l:Qf)(Y:Hp)(Z g:Nat)(a b xs:zb):jG (zW P l) Y Z (some (.fn (.func g) a b)) xs=(lookup l g).bind fun s=>s (a++xs++b) Y Z:=by unfold jG zW;simp only;cases lookup l g<;>rfl
@[simp]theorem zd3(P:Program)(l:Qf)(c:Nat->List (Tmp×Tmp))(Y:Hp)(Z g:Nat)(a b xs:zb):jG (Kp P l c) Y Z (some (.fn (.func g) a b)) xs=(lookup l g).bind fun s=>s (a++xs++b) Y Z:=by unfold jG Kp;simp only;cases lookup l g<;>rfl
def cv(dr:Prop)(P:Program)(q:List Nat):Qf->Prop
 |[]=>True
 |(g,s)::l=>jr dr P g s/\(q.contains g=true->Wk s)/\cv dr P q l
theorem qx{P:Program}{l:Qf}{q:List Nat}(c:P.follows .mixedOrders=true)(h:cv dr P q l):vR dr (zW P l) (fun g=>q.contains g):=by
 have a:∀(l:Qf),cv dr P q l->∀g s,lookup l g=some s->jr dr P g s/\(q.contains g=true->Wk s):=by
  intro l
  induction l with
  |nil=>intro _ g s h;cases h
  |cons x l d=>
   obtain⟨k,sp⟩:=x;rintro⟨e,f,i⟩ g s hs;simp only[fB]at hs;split at hs
   ·rename_i b;injection hs with hs
    subst hs;subst b;exact⟨e,f⟩
   ·exact d i g s hs
 exact⟨fun g s hs=>(a l h g s hs).1,fun g s j hs=>(a l h g s hs).2 j,c,(fun _ _ h=>by cases h),(fun _ _ h=>by cases h)⟩
def AllE(dr:Prop)(P:Program):Qf->Prop
 |[]=>True
 |(g,s)::l=>jr dr P g s/\AllE dr P l
abbrev g0F:Nat->Bool:=fun g=>([]:List Nat).contains g
abbrev Gd(C:Ctx):Prop:=AM.Good C g0F
theorem allE{P:Program}:∀{l:Qf},AllE dr P l->cv dr P [] l
 |[],_=>trivial
 |(_,_)::_,h=>⟨h.1,by simp,allE h.2⟩
theorem qc{P:Program}{l:Qf}(a:P.follows .mixedOrders=true)(h:AllE dr P l):vR dr (zW P l) g0F:=qx (q:=[]) a (allE h)
theorem qH(k:Nat)(h:k<9223372036854775807:=by omega):IntKind.i64.wrap ((k:Int)+1)=(k:Int)+1:=wQ (by omega) (by omega)
theorem wX(n:Int)(h:-9223372036854775808<=n/\n<=9223372036854775807:=by omega):IntKind.i64.wrap n=n:=wQ h.1 h.2
theorem Bj{P:Program}{l:Qf}{q:List Nat}(a:Nat->List (Tmp×Tmp))(b:P.follows .mixedOrders=true)(h:cv dr P q l):vR dr (Kp P l a) (fun g=>q.contains g):=
 let g:=qx b h
 ⟨g.spec,g.quiet,g.mixed,(fun _ _ h=>by cases h),(fun _ _ h=>by cases h)⟩
def Ja(r:O)(x:O)(Y:Hp)(_:Nat):Prop:=∃a,(AM.freeze Y x).map (·.1)=some a/\VF a r
theorem Kq{C:Ctx}{fn:Func}{code:Code}{args:zb}{r:O}(b:fn.body=some code)
  (h:Zw C code ⟨jL args,fun _=>none,0⟩ (Yx C.P fn (Ja r))):∃a,zt C fn args=some a/\VF a r:=by
 obtain⟨x,Y',f,c,a,d,e⟩:=qz b h;exact⟨a,by unfold zt;simp only[c];exact d,e⟩
theorem qq(x:O):VF x x:=by
 unfold VF;split
 ·exact⟨rfl,fun j x y b a=>by rw[b]at a;injection a with a;exact .inl a⟩
 ·exact .inl rfl
theorem Kr{C:Ctx}{fn:Func}{code:Code}{args:zb}{Y:Hp}{Z:Nat}{r:Option kn}(b:fn.body=some code)
  (h:Zw C code ⟨jL args,Y,Z⟩ (Yx C.P fn (WK r))):∃x Y' a,je C fn args Y Z=some (x,Y',a)/\WK r x Y' a:=qz b h
def qU(Y:Hp)(Z:Nat)(e s:Nat)(v:O)(xs:List zb):Prop:=(v=.nil/\xs=[])\/∃id,id<Z/\v=.own id 0 xs.length/\Y id=some ⟨e,s,true,xs⟩
def QM(v:O)(Y:Hp):Hp:=match v with
 | .own id _ _=>qt Y id none
 |_=>Y
theorem qU.nil(Y:Hp)(Z e s:Nat):qU Y Z e s .nil []:=.inl ⟨rfl,rfl⟩
theorem qU.len{P:Program}{Y:Hp}{Z e s:Nat}{v:O}{xs:List zb}{t:TypeId}(h:qU Y Z e s v xs)(a:ym P t=some e):Yt P t v=some (.v (.int .i64 xs.length)):=by rcases h with⟨rfl,rfl⟩|⟨id,_,rfl,_⟩<;>simp[a]
theorem qU.yS{P:Program}{Y:Hp}{Z e s by_:Nat}{v:O}{xs:List zb}{c z:zb}{t:TypeId}(h:qU Y Z e s v xs)(g:ym P t=some e)(hs:qC P e=some s)(i:jB P e=some by_)(j:yT P e=some z)
  (a:z.length=s) (k:0<s) (b:xs.length+1<=maxLen) (d:(xs.length+1)*by_<=140737488355328) :
  yI P (qt Y Z (some ⟨e,s,true,[c]⟩)) (Z+1) t t v (.own Z 0 1) =
   some (.own (Z+1) 0 (xs.length+1),qt (QM v (qt Y Z (some ⟨e,s,true,[c]⟩))) (Z+1) (some ⟨e,s,true,xs++[c]⟩),Z+2):=by
 rcases h with⟨rfl,rfl⟩|⟨id,hid,rfl,l⟩
 ·simp at b d;simp[yI,g,hs,i,j,a,k,b,d,AM.view,QM]
 ·have f:¬id=Z:=by omega
  simp[yI,g,hs,i,j,a,k,b,d,AM.view,QM,f,l]
theorem qU.after{Y:Hp}{Z e s:Nat}{v:O}{xs:List zb}{c:zb}{tmp:Option kn}:qU (qt (QM v (qt Y Z tmp)) (Z+1) (some ⟨e,s,true,xs++[c]⟩)) (Z+2) e s (.own (Z+1) 0 (xs.length+1)) (xs++[c]):=
 .inr ⟨Z+1,by omega,by simp,by simp⟩
theorem yi{Y:Hp}{Z e s:Nat}{v:O}{xs:List zb}(h:qU Y Z e s v xs)(Y':Hp)(id:Nat)(a:∀n,v≠.own id 0 n):QM v Y' id=Y' id:=by
 rcases h with⟨rfl,rfl⟩|⟨k,b,rfl,c⟩
 ·rfl
 ·have:¬id=k:=fun e=>a _ (by rw[e])
  simp[QM,this]
theorem qU.freeze{Y:Hp}{Z e s:Nat}{v:O}{xs:List zb}(h:qU Y Z e s v xs)(a:Nat):Ja (.sl s xs) v Y a:=by
 rcases h with⟨rfl,rfl⟩|⟨id,hid,rfl,b⟩
 ·exact⟨.nil,by simp,.inr ⟨rfl,s,rfl⟩⟩
 ·exact⟨.sl s xs,by simp[b],qq _⟩
theorem qU.UW{Y:Hp}{Z e s:Nat}{v:O}{xs:List zb}(h:qU Y Z e s v xs)(y:Value)(f:Nat):Ja (.wq [.sl s xs,.v y]) (.wq [v,.v y]) Y f:=by
 rcases h with⟨rfl,rfl⟩|⟨id,hid,rfl,g⟩
 ·refine⟨.wq [.nil,.v y],by simp,rfl,fun j a b c d=>?_⟩
  match j,c,d with
  | 0,c,d=>simp at c d;subst c;subst d;exact .inr ⟨rfl,s,rfl⟩
  | 1,c,d=>simp at c d;subst c;subst d;exact .inl rfl
  |j+2,c,d=>simp at c
 ·exact⟨.wq [.sl s xs,.v y],by simp[g],qq _⟩
theorem vw{α c:Type}{f:α->c}(h:∀a b,f a=f b->a=b):∀{xs ys:List α},xs.map f=ys.map f->xs=ys
 |[],[],_=>rfl
 |[],y::ys,e=>by simp at e
 |x::xs,[],e=>by simp at e
 |x::xs,y::ys,e=>by simp at e;rw[h x y e.1,vw h e.2]
def SB(I:Nat->(Nat->O)->Hp->Nat->Prop)(n k:Nat)(K:Exit->St->Prop)(e:Exit)(st:St):Prop:=match e with
 | .normal=>k+1<=n/\I (k+1) st.U st.Y st.Z
 |e=>K e st
@[simp]theorem zap(I:Nat->(Nat->O)->Hp->Nat->Prop)(n k:Nat)(K:Exit->St->Prop)(st:St):SB I n k K .normal st=(k+1<=n/\I (k+1) st.U st.Y st.Z):=rfl
@[simp]theorem zd4(I:Nat->(Nat->O)->Hp->Nat->Prop)(n k:Nat)(K:Exit->St->Prop)(st:St):SB I n k K .ret st=K .ret st:=rfl
@[simp]theorem zc6(I:Nat->(Nat->O)->Hp->Nat->Prop)(n k i:Nat)(K:Exit->St->Prop)(st:St):SB I n k K (.exit i) st=K (.exit i) st:=rfl
theorem zT{C:Ctx}{b:Code}{st:St}{K:Exit->St->Prop}(I:Nat->(Nat->O)->Hp->Nat->Prop)(n:Nat)(j:I 0 st.U st.Y st.Z)
  (a:∀k U Y Z,k<=n->I k U Y Z->Zw C b ⟨U,Y,Z⟩ (SB I n k K)):Zw C (.loop b) st K:=by
 have f:∀d k st,n-k=d->k<=n->I k st.U st.Y st.Z->Zw C (.loop b) st K:=by
  intro d
  induction d with
  |zero=>
   intro k st hd g i;rw[zJ];refine(a k st.U st.Y st.Z g i).mono fun e c h=>?_
   cases e
   case normal=>have:=h.1;omega
   all_goals exact h
  |succ d l=>
   intro k st hd g i;rw[zJ];refine(a k st.U st.Y st.Z g i).mono fun e c h=>?_
   cases e
   case normal=>exact l (k+1) c (by omega) h.1 h.2
   all_goals exact h
 exact f _ 0 st rfl (xq _) j
variable{dr:Prop}
abbrev str(l:za):O:=.v (.string ⟨l.toArray⟩)
@[simp]theorem zd5(l:za):(ByteArray.mk l.toArray).size=l.length:=by simp[ByteArray.size]
@[simp]theorem bget(l:za)(i:Nat):(ByteArray.mk l.toArray)[i]?=l[i]?:=by
 by_cases h:i<l.length
 ·rw[getElem?_pos (ByteArray.mk l.toArray) i (by simpa using h),zj h];rfl
 ·rw[getElem?_neg (ByteArray.mk l.toArray) i (by simpa using h),yO (by omega)]
@[simp]theorem Ns(l:za)(a b:Nat):(ByteArray.mk l.toArray).extract a b=⟨((l.drop a).take (b-a)).toArray⟩:=by have h:=Lib.extract_data (ByteArray.mk l.toArray) a b;rw[ByteArray.ext_iff];apply Array.toList_inj.1;rw[h]
theorem wR{a b:za}(h:str a=str b):a=b:=by injection h with h;injection h with h;injection h with h;simpa using zu Array.toList h
@[simp]theorem zc7(P:Program)(t:TypeId)(l:za)(k:IntKind)(i:Int)(h:P.underlying t=some .string):QR P t (.v (.string ⟨l.toArray⟩)) (.v (.int k i)) =
  if 0<=i then(l[i.toNat]?).map fun b=>.v (.int .u8 b.toNat)else none:=by
 simp only[QR,h,bget];split
 ·cases l[i.toNat]?<;>rfl
 ·rfl
@[simp]theorem zc8(P:Program)(Y:Hp)(t:TypeId)(l:za)(lo hi:Option (Option O))(h:P.underlying t=some .string):jC P Y t (.v (.string ⟨l.toArray⟩)) lo hi =
  (kD 0 lo).bind fun a=>(kD l.length hi).bind fun b=>if a<=b/\b<=l.length then some (str ((l.drop a).take (b-a)))else none:=by
 simp only[jC,h,zd5,Ns];cases kD 0 lo<;>(try rfl);cases kD l.length hi<;>rfl
attribute [simp] kD
@[simp]theorem SC(P:Program)(t:TypeId)(a b:Bool)(h:P.underlying t=some .bool):xV P .eql t (.v (.bool a)) (.v (.bool b))=some (.v (.bool (a==b))):=by simp[xV,h]
@[simp]theorem SD(P:Program)(t:TypeId)(a b:Bool)(h:P.underlying t=some .bool):xV P .neq t (.v (.bool a)) (.v (.bool b))=some (.v (.bool (!(a==b)))):=by simp[xV,h]
@[simp]theorem zd6(P:Program)(s d:TypeId)(k:IntKind)(n:Int):az P s d (.v (.int k n))=(P.underlying s).bind fun _=>(P.underlying d).bind fun u=>match u with|.int a=>some (.v (.int a (a.wrap n)))|_=>none:=by simp only[az];cases P.underlying s<;>(try rfl);cases P.underlying d<;>(try rfl);rename_i u;cases u<;>rfl
theorem GU(a b:UInt8):((a.toNat:Int)==(b.toNat:Int))=decide (a=b):=by rw[qv];simp[<-Qi];omega
theorem yk{F:zb->Option O}{ns:List Nat}{a:Bool}{args b:zb}{Y Y1:Hp}{Z:Nat}{r:O}(c:zw Y args=some (b,Y1))(d:F (q6 ns b)=some r)(e:r.flat=true\/args.all O.noOwn=true) :
  zi a ns F args Y Z=some (r,Y,Z):=by
 unfold zi;simp only[c,d,e,qI]
theorem qS{k:IntKind}{a b:Int}(h:O.v (.int k a)=.v (.int k b)):a=b:=by injection h with h;injection h
theorem Ym{a b:Bool}(h:O.v (.bool a)=.v (.bool b)):a=b:=by injection h with h;injection h
def zaq{α a:Type}(f:α->a)(K:a->Prop)(x:α):Prop:=K (f x)
def zd7{α a:Type}(f:α->Option a)(K:a->Prop)(x:α):Prop:=Y9 (f x) K
@[simp]theorem zc9{α a:Type}(f:α->a)(K:a->Prop)(x:α):zaq f K x=K (f x):=rfl
@[simp]theorem zda{α a:Type}(f:α->Option a)(K:a->Prop)(x:α):zd7 f K x=Y9 (f x) K:=rfl
@[simp]theorem zdb{α a:Type}(f:α->a)(o:Option α)(K:a->Prop):Y9 (o.map f) K=Y9 o (zaq f K):=by cases o<;>simp[Y9]
def QU(C:Ctx)(pf:FuncId->Bool)(f:FuncId)(fn:Func):Prop:=∃code,Xy C pf f fn code
theorem yj{C:Ctx}{pf:FuncId->Bool}{f:FuncId}{fn:Func}(d:vR dr C pf)(b:QU C pf f fn)(a:Bool)(ns:List Nat)(F:zb->Option O)(hF:∀args r,F args=some r->args.length<=fn.ntmps/\∃c,zt C fn args=some c/\VF c r):jr dr C.P f (zi a ns F):=
 let⟨_,b⟩:=b
 Bf d b a ns F hF
def kOk(pf:FuncId->Bool)(C:Ctx)(fn:Func):Bool:=!(fn.name== "runtime.NumGoroutine")&&match fn.body with
 |some c=>vF pf C.dyn C.ML C.bk fn.ntmps c
 |none=>false
theorem qE{C:Ctx}{pf:FuncId->Bool}{f:FuncId}{fn:Func}(h:C.P.funcs[f]?=some fn)(a:kOk pf C fn=true:=by kernel_rfl):QU C pf f fn:=by
 unfold kOk at a;split at a
 ·rename_i c b;simp only[zC,yF]at a;exact⟨c,h,a.1,b,a.2⟩
 ·simp at a
theorem Z2{C:Ctx}{pf:FuncId->Bool}{f:FuncId}{fn:Func}{α:Type}{V:α->zb}{pre:α->Prop}{out:α->O}(d:vR dr C pf)(h:C.P.funcs[f]?=some fn)(b:Bool)(ns:List Nat)(hF:∀a,pre a->(V a).length<=fn.ntmps/\∃c,zt C fn (V a)=some c/\VF c (out a))(e:kOk pf C fn=true:=by kernel_rfl):jr dr C.P f (zi b ns (qu V pre out)):=
 yj d (qE h e) b ns _ fun args r h=>by obtain⟨a,rfl,Y,rfl⟩:=zK h;exact hF a Y
theorem Js{α:Type}{V:α->zb}{pre:α->Prop}{out:α->O}(a:α)(Y:Hp)(Z:Nat)(b:zw Y (V a)=some (V a,Y))(hi:∀x y,V x=V y->x=y)(h:pre a)(c:(out a).flat=true\/(V a).all O.noOwn=true):zi false [] (qu V pre out) (V a) Y Z=some (out a,Y,Z):=
 yk b (by
  have e:∀l:zb,q6 [] l=l:=fun l=>by cases l<;>rfl
  rw[e];exact qG hi h) c
noncomputable def yz (C:Ctx) (fn:Func):AM.Spec:=fun args Y Z=>if args.length<=fn.ntmps then je C fn args Y Z else none
theorem EM{C:Ctx}{pf:FuncId->Bool}{f:FuncId}{fn:Func}{code:Code}(b:vR dr C pf)(a:Xy C pf f fn code):jr dr C.P f (yz C fn):=by
 refine⟨⟨fn,a.func,a.name,by rw[a.body];rfl⟩,?_⟩;intro args Y Z r Y' e h w S G vs hi c;unfold yz at h;split at h
 ·rename_i d;exact lH b.spec b.quiet b.box b.iter b.mixed a.func a.body a.ok h hi c d
 ·cases h
theorem kM{C:Ctx}{pf:FuncId->Bool}{f:FuncId}{fn:Func}(a:vR dr C pf)(h:C.P.funcs[f]?=some fn)(b:kOk pf C fn=true:=by kernel_rfl):jr dr C.P f (yz C fn):=let⟨_,k⟩:=qE h b;EM a k
end Go.AM
namespace Go.AM
open Go.RowKit Go.WideShapes Go.ChangeShapes
variable{dr:Prop}
section
variable{H:Type}{V:TypeId×Value->H}{P:Program}
theorem aI(g:laidOutB P=true){W i:World}(j:Below W.heap.size W i){sp:Nat->Bool}:∀{ts:List TypeId} {vs:List Value} {ds:List (DataW H)} {b:List MemPlace},(∀t∈ts,P.readableRec t=true/\t<P.types.size) ->
  DataW.TrodAll V P W 0 (fun _=>true) true ts vs ds b->(∀p∈b,p.block<W.heap.size)->(∀p∈b,sp p.block=true)->DataW.TrodAll V P i 0 sp true ts vs ds b
 |[],vs,ds,b,_,h,_,_=>by obtain⟨rfl,rfl,rfl⟩:=trodAll_nil h;exact trodAll_mk0
 |t::ts,vs,ds,b,f,h,c,e=>by
  obtain⟨v,k,d,l,p,q,rfl,rfl,rfl,m,n⟩:=trodAll_cons h;exact trodAll_cons_mk (WideElems.Trod_stays g (f t (by simp)).1 (f t (by simp)).2 m (fun x a=>j.same (c x (by simp[a]))) (fun x a=>e x (by simp[a])))
   (aI g j (fun u o=>f u (by simp[o])) n (fun x a=>c x (by simp[a])) (fun x a=>e x (by simp[a])))
theorem Nt{f:Func}{s:ChangeSpec}{a h c i:Bool}{W l:World}{args:Array Value}{ds C:List (DataW H)}{before:List MemPlace}(D:laidOutB P=true)(E:∀t∈f.params.toList,P.readableRec t=true/\t<P.types.size)
  (z:s.vars=[]) (u:DataW.Whole V P f.params.toList s.vars a W args.toList ds C before) (j:s.fn H ds={results:=[.lit (.bool true)],args:=ds}) {tb:TypeId} (A:f.resultTypes=#[tb]) (m:P.underlying tb=some .bool) (v:Below W.heap.size W l) :
  s.post V P f a h c i W args (.bool true) l:=by
 have k:∀p∈before,p.block<W.heap.size:=fun p Y=>u.lt p Y
 have w:=u;obtain⟨p,q,F,B,n,G,I⟩:=u;rw[z]at B;obtain⟨rfl,rfl⟩:=trodVars_none B;simp only[jJ]at n;subst n;have x:DataW.TrodAll V P W 0 (fun _=>true) true f.params.toList args.toList ds before:=F;have d:∀sp:Nat->Bool,(∀p∈before,sp p.block=true)->DataW.TrodAll V P l 0 sp true f.params.toList args.toList ds before:=fun sp y=>aI D v E x k y
 have o:∀p∈before,(fun b=>decide (b<W.heap.size)) p.block=true:=fun p Y=>by simpa using k p Y
 have g:∀(b:Nat) (sp:Nat->Bool) (hd:Bool),DataW.TrodAll V P l b sp hd f.resultTypes.toList ((Value.bool true).resultList f.resultTypes.size) [.lit (.bool true)] []:=fun b sp hd=>by rw[A];exact trodAll_cons_mk (shut_bool m _) trodAll_mk0
 have e:∀sp,DataW.TrodVars V P l sp s.vars [] []:=fun sp=>by rw[z];rfl
 refine⟨ds,[],before,[],before,[],by simpa using w,?_,?_,?_,World.keptBut_mono (fun p Y=>⟨Y,.inr (.inl Y)⟩) (v.frame (·∈before)),fun _=>?_⟩
 ·rw[jJ,j];exact g _ _ _
 ·rw[jJ,j];exact d _ o
 ·rw[jJ,j];exact e _
 ·refine⟨ok_one A rfl (okWide_bool_mk m _),_,_,([]++before)++[],⟨[]++before,[],trodAll_append (d _ (fun _ _=>rfl)) (g _ _ _),e _,rfl,?_,?_⟩,?_⟩
  ·intro b off Y;have r:MemPlace.cell b off∈before:=by simpa using Y
   rw[v.frozen (k _ r)];exact G b off (by simpa using r)
  ·intro J;have:=I J;simpa using this
  ·intro p Y _;simpa using Y
end
end Go.AM
namespace Go.AM
variable{dr:Prop}
def dV:Op->Bool
 | .move _|.assign _|.pick _ _ _|.load _ _|.binOp _ _ _ _ _|.unOp _ _ _|.convert _ _ _|.fieldAddr _ _ _|.field _ _ _|.indexAddr _ _ _|.index _ _ _|.extract _ _=>true
 | .slice _ _ _ _ none=>true
 | .call c=>match c.callee with
  | .builtin .len=>true
  | .builtin .min=>true
  | .builtin .max=>true
  |_=>false
 |_=>false
def tt(C:Ctx)(st:St)(op:Op):Option O:=(zX C (get st.U) st.Y st.Z op).map (·.1)
theorem VJ{o:Option O}{Y:Hp}{Z:Nat}:(o.map fun y=>(y,Y,Z))=((o.map fun y=>(y,Y,Z)).map (·.1)).map fun x=>(x,Y,Z):=by cases o<;>rfl
theorem vG{o:Option O}{Y:Hp}{Z:Nat}:(o.bind fun y=>some (y,Y,Z))=((o.bind fun y=>some (y,Y,Z)).map (·.1)).map fun x=>(x,Y,Z):=by cases o<;>rfl
theorem Iy{C:Ctx}{st:St}{op:Op}(h:dV op=true):zX C (get st.U) st.Y st.Z op=(tt C st op).map fun x=>(x,st.Y,st.Z):=by
 unfold tt;generalize get st.U=ρ;cases op with
 |move x=>simp only[Sj];exact VJ
 |assign x=>simp only[Ix];exact VJ
 |pick c a b=>simp only[Sk];exact VJ
 |load t a=>simp only[Sm];cases ρ a<;>(try rfl);exact vG
 |binOp op t x y j=>simp only[zbj];cases ρ x<;>cases ρ y<;>(try rfl);exact vG
 |unOp op t x=>simp only[zdO];cases ρ x<;>(try rfl);exact vG
 |convert s d x=>simp only[Sl];cases ρ x<;>(try rfl);exact vG
 |fieldAddr t x f=>simp only[tp];cases ρ x<;>(try rfl);exact vG
 |field t x f=>simp only[Np];cases ρ x<;>(try rfl);exact vG
 |indexAddr t x i=>simp only[tq];cases ρ x<;>cases ρ i<;>(try rfl);exact vG
 |index t x i=>simp only[Nq];cases ρ x<;>cases ρ i<;>(try rfl);exact vG
 |extract x i=>simp only[EJ];cases ρ x<;>(try rfl);exact vG
 |slice t x lo hi g=>
  cases g with
  |none=>simp only[Nr];cases ρ x<;>(try rfl);exact vG
  |some m=>simp[dV]at h
 |call c=>
  obtain⟨e,args,ts⟩:=c;cases e with
  |builtin b=>
   simp only[EK];cases wU (args.toList.map ρ)with
   |none=>rfl
   |some xs=>
    simp only[Option.bind_eq_bind,z8];cases b<;>(try (simp[dV]at h;done))
    case len=>
     cases xs with
     |nil=>rfl
     |cons x l=>
      cases l with
      |nil=>simp only[Su];cases ts[0]?<;>(try rfl);exact vG
      |cons _ _=>rfl
    case min=>simp only[Sv];exact VJ
    case max=>simp only[Sw];exact VJ
  |_=>simp[dV]at h
 |_=>simp[dV]at h
def kN(C:Ctx)(g:FuncId):Prop:=∀a,C.Γ g=some a->Wk a
def ve(C:Ctx)(op:Op):Prop:=∀st:St,zX C (get st.U) st.Y st.Z op=(tt C st op).map fun x=>(x,st.Y,st.Z)
theorem jy{C:Ctx}{op:Op}(h:dV op=true):ve C op:=fun _=>Iy h
@[simp]theorem zga(C:Ctx)(g:FuncId)(a:Array Operand)(ts:Array TypeId)(h:kN C g):ve C (.call ⟨.value (.func g),a,ts⟩):=by
 intro st;unfold tt;simp only[Sr,Nn];cases wU (a.toList.map (get st.U))with
 |none=>rfl
 |some xs=>
  simp only[Option.bind_eq_bind,z8];cases hs:C.Γ g with
  |none=>simp[jG,hs]
  |some b=>
   rw[EL C st.Y st.Z g [] [] xs b hs];cases c:b ([]++xs++[]) st.Y st.Z with
   |none=>rfl
   |some r=>obtain⟨x,Y',d⟩:=r;obtain⟨⟨rfl,rfl⟩,_⟩:=h b hs _ _ _ _ _ _ c;rfl
theorem jd{P:Program}{l:Qf}{g:Nat}{a:AM.Spec}(h:lookup l g=some a)(b:Wk a):kN (zW P l) g:=fun s hs=>by
 have:lookup l g=some s:=hs;rw[h]at this;injection this with this
 exact this ▸ b
@[simp]theorem zgb(C:Ctx)(x:Operand):ve C (.move x):=jy rfl
@[simp]theorem zdc(C:Ctx)(x:Operand):ve C (.assign x):=jy rfl
@[simp]theorem zgc(C:Ctx)(c a b:Operand):ve C (.pick c a b):=jy rfl
@[simp]theorem zgd(C:Ctx)(t:TypeId)(x:Operand):ve C (.load t x):=jy rfl
@[simp]theorem zgG(C:Ctx)(o:BinOp)(t a:TypeId)(x y:Operand):ve C (.binOp o t x y a):=jy rfl
@[simp]theorem zg8(C:Ctx)(o:UnOp)(t:TypeId)(x:Operand):ve C (.unOp o t x):=jy rfl
@[simp]theorem zge(C:Ctx)(t u:TypeId)(x:Operand):ve C (.convert t u x):=jy rfl
@[simp]theorem zg9(C:Ctx)(t:TypeId)(x:Operand)(f:Nat):ve C (.fieldAddr t x f):=jy rfl
@[simp]theorem zha(C:Ctx)(t:TypeId)(x:Operand)(f:Nat):ve C (.field t x f):=jy rfl
@[simp]theorem zhb(C:Ctx)(t:TypeId)(x i:Operand):ve C (.indexAddr t x i):=jy rfl
@[simp]theorem zhc(C:Ctx)(t:TypeId)(x i:Operand):ve C (.index t x i):=jy rfl
@[simp]theorem zhd(C:Ctx)(x:Operand)(i:Nat):ve C (.extract x i):=jy rfl
@[simp]theorem zhe(C:Ctx)(t:TypeId)(x:Operand)(lo hi:Option Operand):ve C (.slice t x lo hi none):=jy rfl
@[simp]theorem zgH(C:Ctx)(a:Array Operand)(ts:Array TypeId):ve C (.call ⟨.builtin .len,a,ts⟩):=jy rfl
@[simp]theorem zgI(C:Ctx)(a:Array Operand)(ts:Array TypeId):ve C (.call ⟨.builtin .min,a,ts⟩):=jy rfl
@[simp]theorem zgJ(C:Ctx)(a:Array Operand)(ts:Array TypeId):ve C (.call ⟨.builtin .max,a,ts⟩):=jy rfl
def bc{α:Type}(y:Bool)(a b:α):α:=match y with
 |true=>a
 |false=>b
@[simp]theorem zgf{α:Type}(a b:α):bc true a b=a:=rfl
@[simp]theorem zd8{α:Type}(a b:α):bc false a b=b:=rfl
@[simp]theorem zgK{α:Type}(y:Bool)(a b:α):bc (!y) a b=bc y b a:=by cases y<;>rfl
@[simp]theorem zgg{α:Type}(y:Bool)(a:α):bc y a a=a:=by cases y<;>rfl
def bx(y:Bool):Bool:=y
@[simp]theorem zgh:bx true=true:=rfl
@[simp]theorem zd9:bx false=false:=rfl
@[simp]theorem zgL{α:Type}(y:Bool)(a b c:α):bc y (bc y a b) c=bc y a c:=by cases y<;>rfl
@[simp]theorem zgM{α:Type}(y:Bool)(a b c:α):bc y a (bc y b c)=bc y a c:=by cases y<;>rfl
def oS(C:Ctx)(st:St)(op:Op)(y:Option Bool)(b:Bool):Option O:=if y=some b then tt C st op else some (.wq [])
section
variable(C:Ctx)(d:Option Tmp)(op:Op)(st:St)
theorem lK(y:Option Bool)(b:Bool)(h:ve C op):Zs C d op st y b=(oS C st op y b).map fun x=>⟨put st.U d x,st.Y,st.Z⟩:=by
 unfold Zs oS;rw[h st];split
 ·cases tt C st op<;>rfl
 ·rfl
@[simp low] theorem zbt(y b:Bool)(h:ve C op):Zs C d op st (some y) b=(oS C st op (some y) b).map fun x=>⟨put st.U d x,st.Y,st.Z⟩:=lK C d op st _ b h
@[simp]theorem zea(y:Bool)(p q:Option Bool)(b:Bool)(h:ve C op):Zs C d op st (bc y p q) b=(oS C st op (bc y p q) b).map fun x=>⟨put st.U d x,st.Y,st.Z⟩:=lK C d op st _ b h
@[simp]theorem zgi(y:Bool)(p q:Option Bool)(b:Bool):oS C st op (bc y p q) b=bc y (oS C st op p b) (oS C st op q b):=by cases y<;>rfl
@[simp]theorem zdd(b:Bool):oS C st op none b=some (.wq []):=rfl
@[simp]theorem zgN(y:Bool):oS C st op (some y) true=bc (bx y) (tt C st op) (some (.wq [])):=by cases y<;>rfl
@[simp]theorem zgO(y:Bool):oS C st op (some y) false=bc (bx y) (some (.wq [])) (tt C st op):=by cases y<;>rfl
end
@[simp]theorem zde(y:Bool)(a b:O):VI (bc y a b)=bc y (VI a) (VI b):=by cases y<;>rfl
@[simp]theorem zgj{α:Type}(y:Bool)(a b:α):bc y (some a) (some b)=some (bc y a b):=by cases y<;>rfl
@[simp]theorem zeb(y z:Bool)(w:O):Yy (some (.v (.bool y))) (some (bc (bx y) (.v (.bool z)) w)) (some (.v (.bool false)))=some (.v (.bool (y&&z))):=by cases y<;>rfl
@[simp]theorem zgk(y z:Bool)(w:O):Yy (some (.v (.bool y))) (some (.v (.bool true))) (some (bc (bx y) w (.v (.bool z))))=some (.v (.bool (y||z))):=by cases y<;>rfl
@[simp]theorem zec{α:Type}(y c:Bool)(a b d0 d:α):bc y (bc c (bc y a b) d) d0=bc y (bc c a d) d0:=by cases y<;>rfl
@[simp]theorem zed{α:Type}(y c:Bool)(a b d0 d:α):bc y (bc c d (bc y a b)) d0=bc y (bc c d a) d0:=by cases y<;>rfl
@[simp]theorem zee{α:Type}(y c:Bool)(a b d e:α):bc y d (bc c (bc y a b) e)=bc y d (bc c b e):=by cases y<;>rfl
@[simp]theorem zef{α:Type}(y c:Bool)(a b d e:α):bc y d (bc c e (bc y a b))=bc y d (bc c e b):=by cases y<;>rfl
@[simp]theorem zeg{α:Type}(y c d:Bool)(a b d0 e f:α):bc y (bc c (bc d (bc y a b) f) e) d0=bc y (bc c (bc d a f) e) d0:=by cases y<;>rfl
@[simp]theorem zeh{α:Type}(y c d:Bool)(a b d0 e f:α):bc y (bc c (bc d f (bc y a b)) e) d0=bc y (bc c (bc d f a) e) d0:=by cases y<;>rfl
@[simp]theorem zei{α:Type}(y c d:Bool)(a b d0 e f:α):bc y (bc c e (bc d (bc y a b) f)) d0=bc y (bc c e (bc d a f)) d0:=by cases y<;>rfl
@[simp]theorem zej{α:Type}(y c d:Bool)(a b d0 e f:α):bc y (bc c e (bc d f (bc y a b))) d0=bc y (bc c e (bc d f a)) d0:=by cases y<;>rfl
@[simp]theorem zek{α:Type}(y c d:Bool)(a b e f g:α):bc y e (bc c (bc d (bc y a b) g) f)=bc y e (bc c (bc d b g) f):=by cases y<;>rfl
@[simp]theorem zdf{α:Type}(y c d:Bool)(a b e f g:α):bc y e (bc c (bc d g (bc y a b)) f)=bc y e (bc c (bc d g b) f):=by cases y<;>rfl
@[simp]theorem zdg{α:Type}(y c d:Bool)(a b e f g:α):bc y e (bc c f (bc d (bc y a b) g))=bc y e (bc c f (bc d b g)):=by cases y<;>rfl
@[simp]theorem zdh{α:Type}(y c d:Bool)(a b e f g:α):bc y e (bc c f (bc d g (bc y a b)))=bc y e (bc c f (bc d g b)):=by cases y<;>rfl
section
variable(P:Program)(C:Ctx)(Y:Hp)(Z:Nat)(t u:TypeId)(y:Bool)(a b:O)
@[simp]theorem zgl:xA P Y t (bc y a b)=bc y (xA P Y t a) (xA P Y t b):=by cases y<;>rfl
@[simp]theorem zgm(o:BinOp)(x:O):xV P o t (bc y a b) x=bc y (xV P o t a x) (xV P o t b x):=by cases y<;>rfl
@[simp]theorem zgn(o:BinOp)(x:O):xV P o t x (bc y a b)=bc y (xV P o t x a) (xV P o t x b):=by cases y<;>rfl
@[simp]theorem zel(c:Bool)(o:BinOp)(x:O):Vw c P o t (bc y a b) x=bc y (Vw c P o t a x) (Vw c P o t b x):=by cases y<;>rfl
@[simp]theorem zem(c:Bool)(o:BinOp)(x:O):Vw c P o t x (bc y a b)=bc y (Vw c P o t x a) (Vw c P o t x b):=by cases y<;>rfl
@[simp]theorem zhf(o:UnOp):RM o (bc y a b)=bc y (RM o a) (RM o b):=by cases y<;>rfl
@[simp]theorem zgo:az P t u (bc y a b)=bc y (az P t u a) (az P t u b):=by cases y<;>rfl
@[simp]theorem SE(f:Nat):yY P t f (bc y a b)=bc y (yY P t f a) (yY P t f b):=by cases y<;>rfl
@[simp]theorem zar(f:Nat):ZY P t f (bc y a b)=bc y (ZY P t f a) (ZY P t f b):=by cases y<;>rfl
@[simp]theorem RS(x:O):qJ P Y t (bc y a b) x=bc y (qJ P Y t a x) (qJ P Y t b x):=by cases y<;>rfl
@[simp]theorem RT(x:O):qJ P Y t x (bc y a b)=bc y (qJ P Y t x a) (qJ P Y t x b):=by cases y<;>rfl
@[simp]theorem zdi(x:O):QR P t (bc y a b) x=bc y (QR P t a x) (QR P t b x):=by cases y<;>rfl
@[simp]theorem zdj(x:O):QR P t x (bc y a b)=bc y (QR P t x a) (QR P t x b):=by cases y<;>rfl
@[simp]theorem zgP:Yt P t (bc y a b)=bc y (Yt P t a) (Yt P t b):=by cases y<;>rfl
@[simp]theorem zdk(lo hi:Option (Option O)):jC P Y t (bc y a b) lo hi=bc y (jC P Y t a lo hi) (jC P Y t b lo hi):=by cases y<;>rfl
@[simp]theorem zdl(x:O)(hi:Option (Option O)):jC P Y t x (some (some (bc y a b))) hi=bc y (jC P Y t x (some (some a)) hi) (jC P Y t x (some (some b)) hi):=by cases y<;>rfl
@[simp]theorem zdm(x:O)(lo:Option (Option O)):jC P Y t x lo (some (some (bc y a b)))=bc y (jC P Y t x lo (some (some a))) (jC P Y t x lo (some (some b))):=by cases y<;>rfl
@[simp]theorem zbu(i:Nat):JN i (bc y a b)=bc y (JN i a) (JN i b):=by cases y<;>rfl
@[simp]theorem zen(p q:Option O):Yy (some (bc y a b)) p q=bc y (Yy (some a) p q) (Yy (some b) p q):=by cases y<;>rfl
@[simp low] theorem zeo(p q:Option O):Yy p (some (bc y a b)) q=bc y (Yy p (some a) q) (Yy p (some b) q):=by cases y<;>rfl
@[simp low] theorem zep(p q:Option O):Yy p q (some (bc y a b))=bc y (Yy p q (some a)) (Yy p q (some b)):=by cases y<;>rfl
@[simp]theorem zeq(c:Bool)(ns:List Nat)(F:zb->Option O)(l:zb):zi c ns F (bc y a b::l) Y Z=bc y (zi c ns F (a::l) Y Z) (zi c ns F (b::l) Y Z):=by cases y<;>rfl
@[simp]theorem zer(c:Bool)(ns:List Nat)(F:zb->Option O)(x:O)(l:zb):zi c ns F (x::bc y a b::l) Y Z=bc y (zi c ns F (x::a::l) Y Z) (zi c ns F (x::b::l) Y Z):=by cases y<;>rfl
@[simp]theorem zes(c:Bool)(ns:List Nat)(F:zb->Option O)(x z:O)(l:zb):zi c ns F (x::z::bc y a b::l) Y Z=bc y (zi c ns F (x::z::a::l) Y Z) (zi c ns F (x::z::b::l) Y Z):=by cases y<;>rfl
end
@[simp]theorem zgQ{α c:Type}(y:Bool)(f:α->c)(a b:Option α):(bc y a b).map f=bc y (a.map f) (b.map f):=by cases y<;>rfl
@[simp]theorem zgp{α c:Type}(y:Bool)(f:α->Option c)(a b:Option α):(bc y a b).bind f=bc y (a.bind f) (b.bind f):=by cases y<;>rfl
attribute [simp] tt
variable{dr:Prop}
def Bm(k:Nat)(D:List (Tmp×Tmp))(i:Nat):List (Tmp×Tmp):=if i=k then D else[]
@[simp]theorem zbv(P:Program)(l:Qf)(k:Nat)(D:List (Tmp×Tmp))(i:Nat):(Kp P l (Bm k D)).dyn i=if i=k then D else[]:=rfl
@[simp]theorem Nu(P:Program)(l:Qf)(k:Nat)(D:List (Tmp×Tmp))(i:Nat)(a:Array Oper)(d:Bool)(st:St)(K:Exit->St->Prop)(h:¬i=k):Zw (Kp P l (Bm k D)) (.region i a d) st K=iy (Kp P l (Bm k D)) a a.toList st (Z1 K):=Yw _ i a d st K (by simp[h]) rfl
theorem lL{a b:Tmp}{st:St}{id i j id' i' j':Nat}{blk:kn}(d:st.U a=.ref id i j)(e:st.U b=.ref id' i' j')(f:id≠id')(g:st.Y id'=some blk)(h:blk.arr=false):WH [(a,b)] st:=by
 intro p Y;obtain rfl:=qB.1 Y;intro k l m c;rw[d]at c;injection c with c _ _
 subst c;exact⟨id',i',j',blk,e,f,g,h⟩
theorem lM{w:World}{S:Nat->Prop}{G:Nat->GI}{Z:Nat}:∀{us vs:List Value},(∀u∈us,lit u=true)->Zip (qb w S G Z) (us.map O.v) vs->vs=us
 |[],vs,_,h=>by have:=h.1;simp at this;exact qj.1 this.symm
 |u::us,vs,a,h=>by
  obtain⟨v,b,rfl,d,e⟩:=h.jF;rw[lM (fun x f=>a x (by simp[f])) e];congr 1;cases d with
  |c g=>exact g.wY.1
theorem tw{P:Program}{g:FuncId}{F:zb->Option O}(j:∃fn,P.funcs[g]?=some fn/\(fn.name== "runtime.NumGoroutine")=false/\fn.body.isNone=false)
  (h:∀args r,F args=some r->∃us:List Value,args=us.map O.v/\(∀u∈us,lit u=true)/\∃v,r=.v v/\lit v=true/\∀w,Calls P g us.toArray w fun e w'=>e=.returned v/\w'=w):jr dr P g (zi false [] F):=by
 refine⟨j,?_⟩;intro args Y Z r Y' E hs w S G vs hi q;unfold zi at hs;split at hs
 ·rename_i k Y1 m;split at hs
  ·rename_i H hF;obtain⟨us,e,s,v,rfl,t,z⟩:=h _ _ hF;have A:q6 [] k=k:=by cases k<;>rfl
   rw[A]at e;subst e;have d:args=us.map O.v:=by
    have n:∀(args:zb) (us:List Value) (Y1:Hp),zw Y args=some (us.map O.v,Y1)->args=us.map O.v:=by
     intro args
     induction args with
     |nil=>intro us Y1 b;simp only[zw]at b;injection b with b;injection b with b _
     |cons x l B=>
      intro us Y1 b;simp only[zw]at b;split at b
      ·rename_i y Y2 a;split at b
       ·rename_i I o p;injection b with b
        injection b with b _;cases us with
        |nil=>simp at b
        |cons u us=>
         simp only[wg,zl]at b;obtain⟨rfl,rfl⟩:=b;have C:x=.v u/\Y2=Y:=by
          unfold qa at a;split at a
          ·split at a
           ·injection a with a;injection a with a _;cases a
           ·cases a
          ·unfold wu at a;split at a<;>first
            |(split at a<;>first|(split at a<;>first|(injection a with a;injection a with a _;cases a;done)|cases a)|cases a)
            |(injection a with a;injection a with i f;first|(exact⟨by rw[<-i],f.symm⟩)|cases i)
            |cases a
         obtain⟨rfl,rfl⟩:=C;rw[B us o p];rfl
       ·cases b
      ·cases b
    exact n args us Y1 m
   subst d;simp only[O.flat,true_or,qI]at hs;injection hs with hs
   injection hs with i f;injection f with f D;subst i;subst f;subst D;rw[lM s q];refine(z w).mono fun e w' b=>?_
   obtain⟨rfl,rfl⟩:=b;exact⟨v,S,G,rfl,kd.refl hi,.c (.v t)⟩
  ·cases hs
 ·cases hs
theorem VK:∀(l cs:zb) (off:Nat),off+l.length<=cs.length->y9 cs off l=cs.take off++l++cs.drop (off+l.length)
 |[],cs,off,_=>by simp
 |x::l,cs,off,h=>by
  simp only[z7]at h;rw[y9,VK l (cs.set off x) (off+1) (by simp;omega)];have b:(cs.set off x).take (off+1)=cs.take off++[x]:=by
   rw[ql (by simp;omega)];have c:(cs.set off x).take off=cs.take off:=by
    apply QF;intro j;simp only[qy,dD];by_cases a:j<off
    ·simp[a,show¬off=j by omega]
    ·simp[a]
   rw[c];simp
  have d:(cs.set off x).drop (off+1+l.length)=cs.drop (off+(x::l).length):=by rw[List.drop_set_of_lt (by omega)];simp only[z7];congr 1;omega
  rw[b,d];simp
@[simp]theorem Nv(z cs:zb)(h:cs.length=z.length):y9 z 0 cs=cs:=by rw[VK cs z 0 (by omega)];simp[h]
@[simp]theorem RU(x:O)(z cs:zb)(h:cs.length=z.length):y9 (x::z) 1 cs=x::cs:=by rw[VK cs (x::z) 1 (by simp;omega)];simp[show 1+cs.length=z.length+1 by omega]
@[simp]theorem Rr(U:Nat->O):AM.get U (.const .nilIface)=some (.v .nilIface):=rfl
section
variable(C:Ctx)(ρ:Operand->Option O)(Y:Hp)(Z:Nat)
def EN:O->Option O
 | .ref id i j=>some (.ref id i j)
 | .ptr cs=>some (.ptr cs)
 |_=>none
@[simp]theorem zbw(id i j:Nat):EN (.ref id i j)=some (.ref id i j):=rfl
@[simp]theorem zbx(cs:zb):EN (.ptr cs)=some (.ptr cs):=rfl
@[simp]theorem zas(x:Operand):zX C ρ Y Z (.nilCheck x)=(do let p <-ρ x;let r <-EN p;some (r,Y,Z)):=by
 simp only[zX];cases ρ x with
 |none=>rfl
 |some p=>cases p<;>rfl
end
@[simp]theorem zet(i:Nat):O.cells (.mp i)=[.mp i]:=rfl
@[simp]theorem zdn(i:Nat):O.wH (.mp i)=true:=rfl
variable{dr:Prop}
section
variable{C:Ctx}{pf:FuncId->Bool}{f:FuncId}{fn:Func}{code:Code}
theorem tx(hg:vR dr C pf)(s:Xy C pf f fn code)(k:Bool)(ns:List Nat)(F:zb->Option O)
  (hF:∀args r,F args=some r->∀(w:World) (S:Nat->Prop) (vs:List Value),Zip (wK w S) args vs->∃a t,Zip (wK w S) a vs/\a.length<=fn.ntmps/\zt C fn a=some t/\∀(w:World) (S:Nat->Prop) (u:Value),wK w S t u->wK w S r u):jr dr C.P f (zi k ns F):=by
 refine⟨⟨fn,s.func,s.name,by rw[s.body];rfl⟩,?_⟩;intro args Y Z r Y' Z' h w S G vs hi hz;unfold zi at h;split at h
 ·rename_i aZ Y1 z;split at h
  ·rename_i t A;obtain⟨S1,y,B,D⟩:=yP (dr:=dr) hi z hz;obtain⟨a,rr,E,hn,d,H⟩:=hF _ t A w S1 vs (Qo B);unfold zt at d;split at d
   ·rename_i x hpe nxe I;obtain⟨⟨r1,hpf1⟩,J,l⟩:=zV d;simp only at l;subst l;refine(ZN hg s I hn y.inv.st y.inv.gD E).mono fun e w' hh=>?_
    obtain⟨v,S',G',he,fr,m,hx,hs0,K,_⟩:=hh;obtain⟨S2,k2,L⟩:=Zi (dr:=dr) m J hx;have M:=H _ _ _ L;have n:∀b,S2 b->S1 b\/(w.heap.size<=b/\b<w'.heap.size):=by
     intro b j;have o:=k2.inv.st b j;rcases k2.from_ b j with h1|⟨id,blk,h1,rfl⟩|h1
     ·rcases K b h1 with N|N
      ·exact .inl N
      ·exact .inr ⟨N,o⟩
     ·rcases Nat.lt_or_ge (G' id).g w.heap.size with h3|h3
      ·rename_i p;have:=p id blk h1;omega
      ·exact .inr ⟨h3,o⟩
     ·exact absurd h1 (by omega)
    split at h
    ·rename_i i;injection h with h
     injection h with Q h;injection h with R T;subst Q;subst R;subst T;refine⟨v,_,G,he,kd.outer hi fr,.c ?_⟩;rcases i with W|X
     ·exact cu M W
     ·have q:=D X;exact M.mono fun b j=>⟨by rw[<-q];exact n b j,rfl⟩
    ·split at h
     ·injection h with h;injection h with Q h;injection h with R T;subst Q;subst R;subst T;exact⟨v,_,G,he,y.trans (kd.outer y.inv fr),.c (M.mono fun b j=>⟨n b j,rfl⟩)⟩
     ·cases h
   ·cases d
  ·cases h
 ·cases h
inductive Xz (s:Nat):List (List O)->O->Prop
 |nil:Xz s [] .nil
 |em:Xz s [] .em
 |sl {c:List O} {es:List (List O)}:Xz s (c::es) (.sl s (c::es))
theorem Bn{w:World}{S:Nat->Prop}{s:Nat}{es:List zb}{u:Value}(h:wK w S (.sl s es) u):∃y,Xz s es y/\wK w S y u:=by
 cases es with
 |cons c es=>exact⟨_,.sl,h⟩
 |nil=>
  cases h with
  |sl us a d b e f g=>
   rename_i A cap;cases A with
   |none=>have:=a rfl;subst this;exact⟨.nil,.nil,.nil⟩
   |some ad=>exact⟨.em,.em,.em b⟩
theorem VL{w:World}{S:Nat->Prop}{s:Nat}{es:List zb}{y:O}{u:Value}(h:Xz s es y)(a:wK w S y u):wK w S (.sl s es) u:=by
 cases h with
 |nil=>cases a;exact .sl (es:=[]) (fun _ _=>undef) (by simp) (by simp) (by simp[maxLen]) (by simp) (by simp) (by simp)
 |em=>
  cases a with
  |em b=>exact .sl (es:=[]) (fun _ _=>undef) (by simp) (by simp) b (by simp) (by simp) (by simp)
 |sl=>exact a
theorem Z3{w:World}{S:Nat->Prop}{cs:zb}{u:Value}(h:wK w S (.agg cs) u){j s:Nat}{es:List zb}(c:cs[j]?=some (.sl s es)):∃y,Xz s es y/\wK w S (.agg (cs.set j y)) u:=by
 cases h with
 |agg f d=>
  rename_i us;have g:j<cs.length:=(zd.1 c).1;obtain⟨y,i,l⟩:=Bn (d j _ us[j] c (by simp));refine⟨y,i,.agg (by simpa using f) fun k m u a b=>?_⟩;rw[dD]at a;split at a
  ·rename_i e;subst e;injection a with a
   subst a;rw[vB (by omega)]at b;injection b with b
   subst b;exact l
  ·exact d k m u a b
section
variable{P:Program}{Y:Hp}{Z:Nat}{t:TypeId}{s e:Nat}{es:List zb}{y:O}
theorem Xz.cell(h:Xz s es y):y.wH=true:=by cases h<;>rfl
end
theorem qU.more{Y:Hp}{Z e s:Nat}{v:O}{xs:List zb}(h:qU Y Z e s v xs)(b:Option kn):qU (qt Y Z b) (Z+1) e s v xs:=by
 rcases h with⟨rfl,rfl⟩|⟨id,c,rfl,a⟩
 ·exact .inl ⟨rfl,rfl⟩
 ·exact .inr ⟨id,by omega,rfl,by rw[zm _ _ _ _ (by omega)];exact a⟩
theorem xl(e:vR dr C pf)(c:QU C pf f fn)(b:Bool)(ns:List Nat)(F:zb->Option O)
  (hF:∀args r,F args=some r->∀(w:World) (S:Nat->Prop) (vs:List Value),Zip (wK w S) args vs->∃a d,Zip (wK w S) a vs/\a.length<=fn.ntmps/\zt C fn a=some d/\∀(w:World) (S:Nat->Prop) (u:Value),wK w S d u->wK w S r u):jr dr C.P f (zi b ns F):=
 let⟨_,c⟩:=c
 tx e c b ns F hF
end
variable{dr:Prop}
def ZO(P:Program)(l:Qf)(k:Nat)(L:List Tmp)(b:List Nat):Ctx:=⟨P,lookup l,fun _=>[],fun i=>if i=k then L else[],fun g=>b.contains g,fun _=>[],fun _=>none⟩
@[simp]theorem zeu(P:Program)(l:Qf)(k:Nat)(L:List Tmp)(b:List Nat):(ZO P l k L b).P=P:=rfl
@[simp]theorem zev(P:Program)(l:Qf)(k:Nat)(L:List Tmp)(b:List Nat)(Y:Hp)(Z g:Nat)(x y xs:zb):jG (ZO P l k L b) Y Z (some (.fn (.func g) x y)) xs=(lookup l g).bind fun s=>s (x++xs++y) Y Z:=by unfold jG ZO;simp only;cases lookup l g<;>rfl
@[simp]theorem Nw(P:Program)(l:Qf)(k:Nat)(L:List Tmp)(b:List Nat)(i:Nat)(a:Array Oper)(d:Bool)(st:St)(K:Exit->St->Prop)(h:¬i=k):Zw (ZO P l k L b) (.region i a d) st K=iy (ZO P l k L b) a a.toList st (Z1 K):=
 Yw _ i a d st K rfl (by simp[ZO,h])
theorem jb{P:Program}{l:Qf}{k:Nat}{L:List Tmp}{b:List Nat}{a:Array Oper}{d:Bool}{st:St}{K:Exit->St->Prop}(h:xy L st):Zw (ZO P l k L b) (.region k a d) st K=iy (ZO P l k L b) a a.toList st (Z1 K):=
 Wl _ k a d st K (fun _ h=>by cases h) (by simpa[ZO]using h)
def EO(P:Program)(l:Qf)(k:Nat)(t:Tmp):Ctx:=⟨P,lookup l,fun _=>[],fun _=>[],fun _=>false,fun i=>if i=k then[t]else[],fun _=>none⟩
@[simp]theorem zew(P:Program)(l:Qf)(k:Nat)(t:Tmp):(EO P l k t).P=P:=rfl
@[simp]theorem zex(P:Program)(l:Qf)(k:Nat)(t:Tmp)(Y:Hp)(Z g:Nat)(x y xs:zb):jG (EO P l k t) Y Z (some (.fn (.func g) x y)) xs=(lookup l g).bind fun s=>s (x++xs++y) Y Z:=by unfold jG EO;simp only;cases lookup l g<;>rfl
def bh(b:List Nat):Qf->Prop
 |[]=>True
 |(g,s)::l=>(b.contains g=true->Ql s)/\bh b l
theorem JO{P:Program}{l:Qf}{q:List Nat}{k:Nat}{L:List Tmp}{b:List Nat}(d:P.follows .mixedOrders=true)(h:cv dr P q l)(f:bh b l):vR dr (ZO P l k L b) (fun g=>q.contains g):=by
 let g:=qx d h;refine⟨g.spec,g.quiet,g.mixed,?_,fun _ _ h=>by cases h⟩;have c:∀l:Qf,bh b l->∀g s,b.contains g=true->lookup l g=some s->Ql s:=by
  intro l
  induction l with
  |nil=>intro _ g s _ h;cases h
  |cons x l i=>
   obtain⟨k,sp⟩:=x;rintro⟨j,m⟩ g s a hs;simp only[fB]at hs;split at hs
   ·rename_i e;injection hs with hs
    subst hs;subst e;exact j a
   ·exact i m g s a hs
 exact fun g s a hs=>c l f g s a hs
theorem Qp:∀{xs ys:zb} {Y Y1:Hp},zw Y xs=some (ys,Y1)->∀{id:Nat} {b:kn},Y id=some b->b.arr=false->Y1 id=some b
 |[],ys,Y,Y1,h,id,b,a,c=>by simp only[zw]at h;injection h with h;injection h with _ h;subst h;exact a
 |x::l,ys,Y,Y1,h,id,b,a,c=>by
  simp only[zw]at h;split at h
  ·rename_i y Y2 d;split at h
   ·rename_i r e f;injection h with h;injection h with _ h;subst h
    exact Qp f (Jp d a c) c
   ·cases h
  ·cases h
theorem Ks(ns:List Nat)(F:zb->Option (Option kn)):Ql (yh ns F):=by
 intro args Y Z r Y' d h;unfold yh at h;split at h
 ·rename_i e Y1 c;split at h
  ·injection h with h;injection h with _ h;injection h with a b;subst a;subst b;exact⟨ze _,fun id blk _ a b=>Qp c a b⟩
  ·injection h with h;injection h with _ h;injection h with a b;subst a;subst b;exact⟨by omega,fun id blk hid a b=>by rw[zm _ _ _ _ (by omega)];exact Qp c a b⟩
  ·cases h
 ·cases h
def qg(a r:O):Prop:=∀(w:World) (S:Nat->Prop) (u:Value),wK w S a u->wK w S r u
def Nx(r:O)(x:O)(Y:Hp)(_:Nat):Prop:=∃a,(AM.freeze Y x).map (·.1)=some a/\qg a r
theorem wW{C:Ctx}{fn:Func}{code:Code}{args:zb}{r:O}(b:fn.body=some code)
  (h:Zw C code ⟨jL args,fun _=>none,0⟩ (Yx C.P fn (Nx r))):∃a,zt C fn args=some a/\qg a r:=by
 obtain⟨x,Y',f,c,a,d,e⟩:=qz b h;exact⟨a,by unfold zt;simp only[c];exact d,e⟩
theorem qU.gone{Y:Hp}{Z e s:Nat}{v:O}{xs:List zb}(h:qU Y Z e s v xs):∃y Y1,wu Y v=some (y,Y1)/\(y=.nil/\xs=[]\/y=.sl s xs)/\∀id,(∀n,v≠.own id 0 n)->Y1 id=Y id:=by
 rcases h with⟨rfl,rfl⟩|⟨id,c,rfl,a⟩
 ·exact⟨.nil,Y,rfl,.inl ⟨rfl,rfl⟩,fun _ _=>rfl⟩
 ·exact⟨.sl s xs,qt Y id none,by simp[a],.inr rfl,fun k b=>zm _ _ _ _ (fun e=>b xs.length (by subst e;rfl))⟩
theorem tz{w:World}{S:Nat->Prop}{s:Nat}{xs:List zb}{y:O}{u:Value}(h:y=.nil/\xs=[]\/y=.sl s xs)(a:wK w S y u):wK w S (.sl s xs) u:=by
 rcases h with⟨rfl,rfl⟩|rfl
 ·exact VL .nil a
 ·exact a
theorem qg.refl(x:O):qg x x:=fun _ _ _ h=>h
theorem qg.YV{s:Nat}{xs:List zb}{y:O}(h:y=.nil/\xs=[]\/y=.sl s xs):qg y (.sl s xs):=fun _ _ _ a=>tz h a
inductive qP:List O->List O->Prop
 |nil:qP [] []
 |cons {x y:O} {xs ys:List O}:qg x y->qP xs ys->qP (x::xs) (y::ys)
theorem qP.length{xs ys:zb}(h:qP xs ys):xs.length=ys.length:=by
 induction h with
 |nil=>rfl
 |cons _ _ a=>simp[a]
theorem qP.get{xs ys:zb}(h:qP xs ys):∀{j:Nat} {x y:O},xs[j]?=some x->ys[j]?=some y->qg x y:=by
 induction h with
 |nil=>intro j x y h;cases h
 |cons c _ d=>
  intro j x y a b;cases j with
  |zero=>simp at a b;subst a;subst b;exact c
  |succ j=>exact d (by simpa using a) (by simpa using b)
theorem qP.agg{xs ys:zb}(h:qP xs ys):qg (.agg xs) (.agg ys):=by
 intro w S u c;cases c with
 |agg d e=>
  refine .agg (by rw[<-h.length];exact d) fun j g u b f=>?_
  have a:j<xs.length:=by rw[h.length];exact(zd.1 b).1
  exact h.get (zj a) b _ _ _ (e j _ u (zj a) f)
theorem qP.wq{xs ys:zb}(h:qP xs ys):qg (.wq xs) (.wq ys):=by
 intro w S u c;cases c with
 |wq d e=>
  refine .wq (by rw[<-h.length];exact d) fun j g u b f=>?_
  have a:j<xs.length:=by rw[h.length];exact(zd.1 b).1
  exact h.get (zj a) b _ _ _ (e j _ u (zj a) f)
theorem qU.at_{Y:Hp}{Z e s:Nat}{v:O}{xs:List zb}(h:qU Y Z e s v xs)(a:0<xs.length):∃id,id<Z/\v=.own id 0 xs.length/\Y id=some ⟨e,s,true,xs⟩:=by
 rcases h with⟨rfl,rfl⟩|h
 ·simp at a
 ·exact h
theorem qU.same{Y Y':Hp}{Z a e s:Nat}{v:O}{xs:List zb}(h:qU Y Z e s v xs)(d:Z<=a)(b:∀id n,v=.own id 0 n->Y' id=Y id):qU Y' a e s v xs:=by
 rcases h with⟨rfl,rfl⟩|⟨id,f,rfl,c⟩
 ·exact .inl ⟨rfl,rfl⟩
 ·exact .inr ⟨id,by omega,rfl,by rw[b id _ rfl];exact c⟩
variable{dr:Prop}
def n1(s:Nat):O->O
 | .nil=>.sl s []
 | .em=>.sl s []
 |x=>x
@[simp]theorem zgR(s:Nat):n1 s .nil=.sl s []:=rfl
@[simp]theorem zhg(s:Nat):n1 s .em=.sl s []:=rfl
@[simp]theorem zhh(s t:Nat)(es:List zb):n1 s (.sl t es)=.sl t es:=rfl
@[simp]theorem n1_v(s:Nat)(x:Value):n1 s (.v x)=.v x:=rfl
def QI:List (Option Nat)->zb->zb
 |some s::l,x::xs=>n1 s x::QI l xs
 |none::l,x::xs=>x::QI l xs
 |_,xs=>xs
inductive Sh where
 |a
 |g (p:List (Option Nat))
 |s (n:Nat) (p:List (Option Nat))
def Sh.fix:Sh->O->O
 | .g p,.agg cs=>.agg (QI p cs)
 | .s _ p,.sl m es=>.sl m (es.map (QI p))
 | .s n _,x=>n1 n x
 |_,x=>x
@[simp]theorem Sh.zht(x:O):Sh.fix .a x=x:=by cases x<;>rfl
@[simp]theorem Sh.zhu(p:List (Option Nat))(cs:zb):Sh.fix (.g p) (.agg cs)=.agg (QI p cs):=rfl
@[simp]theorem Sh.oG(n m:Nat)(p:List (Option Nat))(es:List zb):Sh.fix (.s n p) (.sl m es)=.sl m (es.map (QI p)):=rfl
@[simp]theorem Sh.zgB(n:Nat)(p:List (Option Nat)):Sh.fix (.s n p) .nil=.sl n []:=rfl
@[simp]theorem Sh.zg6(n:Nat)(p:List (Option Nat)):Sh.fix (.s n p) .em=.sl n []:=rfl
attribute [simp] QI
def cw:List Sh->zb->zb
 |h::l,x::xs=>h.fix x::cw l xs
 |_,xs=>xs
attribute [simp] cw
theorem Iz(s:Nat)(x:O):qg x (n1 s x):=by
 intro w S u h;cases x with
 |nil=>exact VL .nil h
 |em=>exact VL .em h
 |_=>exact h
theorem vU:∀(p:List (Option Nat)) (cs:zb),(QI p cs).length=cs.length
 |[],cs=>by cases cs<;>rfl
 |none::p,[]=>rfl
 |some s::p,[]=>rfl
 |none::p,x::cs=>by simp[vU p cs]
 |some s::p,x::cs=>by simp[vU p cs]
theorem Zj:∀(p:List (Option Nat)) (cs:zb),qP cs (QI p cs)
 |[],[]=>.nil
 |[],x::cs=>by have:=Zj [] cs;rw[show QI [] cs=cs by cases cs<;>rfl]at this;exact .cons (qg.refl x) this
 |none::p,[]=>.nil
 |some s::p,[]=>.nil
 |none::p,x::cs=>.cons (qg.refl x) (Zj p cs)
 |some s::p,x::cs=>.cons (Iz s x) (Zj p cs)
theorem Kt(h:Sh)(x:O):qg x (h.fix x):=by
 intro w S u f;cases h with
 |a=>simpa using f
 |g p=>
  cases x with
  |agg cs=>exact(Zj p cs).agg w S u f
  |_=>exact f
 |s n p=>
  cases x with
  |sl m es=>
   cases f with
   |sl us o q r t v y=>
    rename_i A cap;have:=wK.sl (w:=w) (S:=S) (es:=es.map (QI p)) (A:=A) (cap:=cap) (s:=m) us o (by simpa using q) r (fun c z=>by
     obtain⟨b,d,rfl⟩:=qp.1 z;rw[vU];exact t b d) (fun i j c B hi l=>by
     rw[qf]at hi;obtain⟨b,d,rfl⟩:∃b,es[i]?=some b/\QI p b=c:=by
      cases k:es[i]? with
      |none=>rw[k]at hi;cases hi
      |some b=>rw[k]at hi;injection hi with hi;exact⟨b,rfl,hi⟩
     have e:j<b.length:=by have:=(zd.1 l).1;rwa [vU]at this
     exact v i j b _ d (zj e)) (fun i j c B hi l=>by
     rw[qf]at hi;obtain⟨b,d,rfl⟩:∃b,es[i]?=some b/\QI p b=c:=by
      cases k:es[i]? with
      |none=>rw[k]at hi;cases hi
      |some b=>rw[k]at hi;injection hi with hi;exact⟨b,rfl,hi⟩
     have e:j<b.length:=by have:=(zd.1 l).1;rwa [vU]at this
     exact(Zj p b).get (zj e) l _ _ _ (y i j b _ d (zj e)))
    rw[xQ]at this;exact this
  |nil=>exact VL .nil f
  |em=>exact VL .em f
  |_=>exact f
theorem JP{w:World}{S:Nat->Prop}:∀{hs:List Sh} {xs:zb} {us:List Value},Zip (wK w S) xs us->Zip (wK w S) (cw hs xs) us
 |[],xs,us,h=>by cases xs<;>exact h
 |s::hs,[],us,h=>h
 |s::hs,x::xs,us,h=>by obtain⟨u,a,rfl,b,c⟩:=h.jF;exact .cons (Kt s x w S u b) (JP c)
def qA(a:List Sh)(F:zb->Option O):AM.Spec:=zi false [] fun args=>F (cw a args)
theorem yR(a:List Sh)(F:zb->Option O):Wk (qA a F):=zr _ _
theorem wT{C:Ctx}{pf:FuncId->Bool}{f:FuncId}{fn:Func}(c:vR dr C pf)(d:QU C pf f fn)(a:List Sh)(F:zb->Option O)
  (hF:∀args r,F args=some r->args.length<=fn.ntmps/\∃b,zt C fn args=some b/\qg b r):jr dr C.P f (qA a F):=
 xl c d false [] _ fun args r h w S vs e=>by obtain⟨g,b,i,j⟩:=hF _ _ h;exact⟨cw a args,b,JP e,g,i,j⟩
theorem vH{a:List Sh}{F:zb->Option O}{args:zb}{Y:Hp}{Z:Nat}{b:zb}{r:O}(c:zw Y args=some (b,Y))(d:F (cw a b)=some r)(e:r.flat=true\/args.all O.noOwn=true) :
  qA a F args Y Z=some (r,Y,Z):=by
 have f:q6 [] b=b:=by cases b<;>rfl
 exact yk c (by rw[f];exact d) e
def cx(sh:Sh)(r:O)(x:O)(Y:Hp)(_:Nat):Prop:=∃a,(AM.freeze Y x).map (·.1)=some a/\sh.fix a=r
theorem Ya{C:Ctx}{fn:Func}{code:Code}{args:zb}{sh:Sh}{r:O}(b:fn.body=some code)
  (h:Zw C code ⟨jL args,fun _=>none,0⟩ (Yx C.P fn (cx sh r))):∃a,zt C fn args=some a/\qg a r:=by
 obtain⟨x,Y',f,c,a,d,e⟩:=qz b h;exact⟨a,by unfold zt;simp only[c];exact d,e ▸ Kt sh a⟩
def qo(sh:Sh)(r:O)(x:O)(Y:Hp)(_:Nat):Prop:=∃a y,(AM.freeze Y x).map (·.1)=some (.wq [a,y])/\.wq [sh.fix a,y]=r
theorem yM{C:Ctx}{fn:Func}{code:Code}{args:zb}{sh:Sh}{r:O}(b:fn.body=some code)
  (h:Zw C code ⟨jL args,fun _=>none,0⟩ (Yx C.P fn (qo sh r))):∃a,zt C fn args=some a/\qg a r:=by
 obtain⟨x,Y',f,c,a,y,d,e⟩:=qz b h;exact⟨.wq [a,y],by unfold zt;simp only[c];exact d,e ▸ (qP.cons (Kt sh a) (.cons (qg.refl y) .nil)).wq⟩
theorem xu{P:Program}{g:FuncId}{F:zb->Option O}(j:∃fn,P.funcs[g]?=some fn/\(fn.name== "runtime.NumGoroutine")=false/\fn.body.isNone=false)
  (h:∀args r,F args=some r->∃us:List Value,args=us.map O.v/\(∀u∈us,lit u=true)/\r.flat=true/\∃v,(∀w S,wK w S r v)/\∀w S,HS P w S->Calls P g us.toArray w fun e w'=>e=.returned v/\Fr dr w (fun _=>False) w'):jr dr P g (zi false [] F):=by
 refine⟨j,?_⟩;intro args Y Z r Y' I hs w S G vs hi s;unfold zi at hs;split at hs
 ·rename_i k Y1 m;split at hs
  ·rename_i J hF;obtain⟨us,e,t,n,v,z,A⟩:=h _ _ hF;have B:q6 [] k=k:=by cases k<;>rfl
   rw[B]at e;subst e;have d:args=us.map O.v:=by
    have o:∀(args:zb) (us:List Value) (Y1:Hp),zw Y args=some (us.map O.v,Y1)->args=us.map O.v:=by
     intro args
     induction args with
     |nil=>intro us Y1 b;simp only[zw]at b;injection b with b;injection b with b _
     |cons x l C=>
      intro us Y1 b;simp only[zw]at b;split at b
      ·rename_i y Y2 a;split at b
       ·rename_i K p q;injection b with b
        injection b with b _;cases us with
        |nil=>simp at b
        |cons u us=>
         simp only[wg,zl]at b;obtain⟨rfl,rfl⟩:=b;have D:x=.v u/\Y2=Y:=by
          unfold qa at a;split at a
          ·split at a
           ·injection a with a;injection a with a _;cases a
           ·cases a
          ·unfold wu at a;split at a<;>first
            |(split at a<;>first|(split at a<;>first|(injection a with a;injection a with a _;cases a;done)|cases a)|cases a)
            |(injection a with a;injection a with i f;first|(exact⟨by rw[<-i],f.symm⟩)|cases i)
            |cases a
         obtain⟨rfl,rfl⟩:=D;rw[C us p q];rfl
       ·cases b
      ·cases b
    exact o args us Y1 m
   subst d;simp only[n,true_or,qI]at hs;injection hs with hs
   injection hs with i f;injection f with f E;subst i;subst f;subst E;rw[lM t s];refine(A w S hi.gD).mono fun e w' b=>?_
   obtain⟨rfl,H⟩:=b;exact⟨v,_,G,rfl,kd.outer hi H,.c (z _ _)⟩
  ·cases hs
 ·cases hs
end Go.AM
namespace Go.Proofs
open Go.Shelf
def Tryz.D1:Go.Shelf.Ren:=⟨fun|213=>103|265=>134|n=>n,fun|9=>9|3=>3|n=>n,fun|n=>n⟩
theorem Tryz.UX:Go.Proofs.Lays.n213 prog Tryz.D1:={
 mixed:=by kernel_rfl
 f213:=func103.trans (zu some (by kernel_rfl))
 f265:=func134.trans (zu some (by kernel_rfl))
 t3:=underlying3
 a3:=isAgg3
 z3:=sizeOf3
 v3:=zeroValue3
 t9:=underlying9
 a9:=isAgg9
 z9:=sizeOf9
 v9:=zeroValue9}
open Go.RowKit in
theorem Tryz.bytealg_CompareString(a b:ByteArray)(w:World) :
  Calls prog 103 #[.string a,.string b] w fun e w'=>e=.returned (.int .i64 (Lib.compareBytes a.data.toList b.data.toList))/\w'=w:=Any.bytealg_CompareString Tryz.UX a b w
end Go.Proofs
