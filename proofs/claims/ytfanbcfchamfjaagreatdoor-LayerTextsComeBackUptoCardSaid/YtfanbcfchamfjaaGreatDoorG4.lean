/- Lemmas. -/
import Derived.Test.YtfanbcfchamfjaaGreatDoorG3
set_option maxRecDepth 8000
open Go Proofs Proofs.YtfanbcfchamfjaaGreatDoor Proofs.Tryz RowKit AM SpanLaw Q Zz
namespace Go.AM
variable{dr:Prop}
section
variable{C:Ctx}{pf:FuncId->Bool}
theorem YR{w:World}{S:Nat->Prop}{G:Nat->GI}{st:St}{a:Act}(A:Inv C.P w S G st.Y st.Z)(hs:∀t,qg w S G st.Z (st.σ t) (a.tmps.getD t undef)) :
  ∀{l:List ResultVar} {xs:zb},wK (l.map (Wu C.P st))=some xs->∃vs,(l.mapM (m:=Sem) fun r=>match r with
   | .tmp t=>pure (a.tmps.getD t undef)
   | .cell p t=>do loadVar t (<-asAddr (a.tmps.getD p undef))).run C.P w=.ok vs w/\Zip (qg w S G st.Z) xs vs
 |[],xs,h=>by
  simp only[ji,wK]at h;injection h with h
  subst h;exact⟨[],by simp,.nil⟩
 |r::l,xs,h=>by
  simp only[zG]at h;cases d:Wu C.P st r with
  |none=>rw[d]at h;simp[wK]at h
  |some p=>
   rw[d]at h;simp only[wK]at h;cases B:wK (l.map (Wu C.P st))with
   |none=>rw[B]at h;simp at h
   |some ys=>
    rw[B]at h;simp at h;subst h;obtain⟨vs,I,J⟩:=YR A hs B;cases r with
    |tmp t=>
     simp only[Wu]at d;injection d with d
     subst d;refine⟨a.tmps.getD t undef::vs,?_,.cons (hs t) J⟩;simp only[List.mapM_cons,vr,Q7,ky,I]
    |cell q t=>
     simp only[Wu]at d;obtain⟨v,w',S',G',M,k,hx⟩:=n9 (dr:=True) A d (hs q);have x:=hs q;have D:∃v,(do loadVar t (<-asAddr (a.tmps.getD q undef)):Sem Value).run C.P w=.ok v w/\qg w S G st.Z p v:=by
      unfold xc at d;split at d
      ·rename_i cs f;rw[f]at x;have E:=x.Kl;generalize a.tmps.getD q undef=u at *;cases E with
       |ptr us N Q=>obtain⟨v,y,n⟩:=VI (G:=G) (Z:=st.Z) (w:=w) (S:=S) d _ us (fun j z K=>⟨(N j z K).2,.c (Q j z K)⟩);exact⟨v,by simp[asAddr,y],n⟩
      ·rename_i id i j f;rw[f]at x;have F:=x.Qn;obtain⟨hid,R⟩:=x.kW;rw[R]at M⊢;split at d
       ·rename_i b T;split at d
        ·rename_i c E;obtain⟨cur,U,h4,W⟩:=(A.live id b T).row F;have o:∀k:Nat,w.cell? ((⟨(G id).g,i*(G id).s+j,none⟩:Addr).add k)=cur[i*(G id).s+j+k]?:=by intro k;rw[Xk,cell_of_row w _ _ cur _ _ U]
         obtain⟨v,y,n⟩:=VI (G:=G) (Z:=st.Z) (w:=w) (S:=S) d ⟨(G id).g,i*(G id).s+j,none⟩ (fun k=>(cur[i*(G id).s+j+k]?).getD undef) (fun k z L=>by
          rw[yd]at L;obtain⟨u,X,h7⟩:=W i (j+k) c z E L;rw[o];have e:i*(G id).s+j+k=i*(G id).s+(j+k):=by omega
          rw[e,X];exact⟨rfl,h7.2.1⟩)
         exact⟨v,by simp[asAddr,y],n⟩
        ·cases d
       ·cases d
      ·cases d
     obtain⟨v,y,H⟩:=D;refine⟨v::vs,?_,.cons H J⟩;simp only[List.mapM_cons,vr,y,ky,I,Q7]
theorem JH{P:Program}{fn:Func}{a:Array Value}{R:Ending->World->Prop}:∀(c:List Nat) (w:World),c.Nodup->(∀D∈c,w.heap[D]?=some (.deferred (some [])))->(∀f,Fr dr w (fun b=>b∈c) f->LeavesIn Fence.wide 0 P fn a R [] .returning f)->LeavesInM Fence.wide 0 P fn a R (c.map eU) .returning w
 |[],w,_,_,h=>h w (Fr.refl _ _)
 |D::c,w,i,hd,h=>by
  obtain⟨j,l⟩:=zbu.1 i;refine⟨by simp,.inl ⟨D,_,rfl,run_takeDeferred (hd D (by simp)),JH c _ l (fun g d=>?_) fun f m=>h f ?_⟩⟩
  ·exact(zgW (k:=g) (r:=D) fun e=>j (by rw[<-e];exact d)).trans (hd g (by simp[d]))
  ·exact(CI (.deferred none) (fun b=>b∈D::c) (by simp)).trans m (fun b _ n=>by simp[n])
theorem XX(M:∀g a,C.Γ g=some a->jl dr C.P g a)(N:∀g a,pf g=true->C.Γ g=some a->Qt a)(Q:∀g a,C.bk g=true->C.Γ g=some a->QP a)(hit:∀g it,C.it g=some it->tW dr C.P g it)(hm:C.P.follows .mixedOrders=true)
  {f:FuncId} {fn:Func} {code:Code} (hf:C.P.funcs[f]?=some fn) (k:fn.body=some code) (R:vj pf C.dyn C.I5 C.bk fn.ntmps code=true)
  {args:zb} {Y Y':Hp} {Z Z':Nat} {x:O} (h:yR C fn args Y Z=some (x,Y',Z')) {w:World} {S:Nat->Prop} {G:Nat->GI} {vs:List Value} (hi:Inv C.P w S G Y Z) (T:Zip (qg w S G Z) args vs) (hn:args.length<=fn.ntmps) :
  Calls C.P f vs.toArray w fun e w'=>∃v S' G',e=.returned v/\kd dr C.P Y Z S G w Y' Z' S' G' w'/\qg w' S' G' Z' x v:=by
 unfold yR at h;simp only[k]at h;refine Xl.1 (callsIn_of_wp_marks (n:=0) hf k trivial ?_);have F:fG dr C.P w S (jv Y G) fn.ntmps Z G w.heap.size ⟨kM args,Y,Z⟩ {tmps:=vs.toArray++Array.replicate (fn.ntmps-vs.toArray.size) undef,defers:=[]} w:=by
  refine⟨S,G,hi,fun t=>?_,?_,.nil (zk _),fun _ h=>h,fun _ h=>.inl h,fun id b k=>.inl ⟨id,b,k,rfl⟩,Fr.refl _ _,zk _,fun _ _=>rfl⟩
  ·have U:vs.length=args.length:=T.1.symm;unfold kM;by_cases ht:t<args.length
   ·have p:args[t]?=some args[t]:=zm ht;have l:vs[t]?=some (vs[t]'(by omega)):=zm (by omega);have h3:=T.2 t _ _ p l;have W:(vs.toArray++Array.replicate (fn.ntmps-vs.toArray.size) undef)[t]?=vs[t]?:=by rw[BK (by simpa using(by omega:t<vs.length))];simp
    simp only[p,vx];rw[wU,W,l];exact h3
   ·have p:args[t]?=none:=qY (by omega);have W:(vs.toArray++Array.replicate (fn.ntmps-vs.toArray.size) undef).getD t undef=undef:=by rw[wU,Array.getElem?_append_right (by simpa using(by omega:vs.length<=t)),Qs];split<;>rfl
    simp only[p,Option.getD_none];rw[W];exact kA
  ·have U:vs.length=args.length:=T.1.symm;simp;omega
 have H:∀(e:Exit) (st:St),(e=.normal\/e=.ret)->qX C code ⟨kM args,Y,Z⟩=some (e,st)->(xt C.P fn st).map (fun x=>(x,st.Y,st.Z))=some (x,Y',Z') ->
   code.wpIn Fence.wide 0 C.P (bodyPostM Fence.wide 0 C.P fn fun e w'=>∃v S' G',e=.returned v/\kd dr C.P Y Z S G w Y' Z' S' G' w'/\qg w' S' G' Z' x v) {tmps:=vs.toArray++Array.replicate (fn.ntmps-vs.toArray.size) undef,defers:=[]} w:=by
  intro e st he m hr;obtain⟨r,d,s⟩:=zJ hr;injection s with e1 s
  injection s with e2 e3;subst e1;subst e2;subst e3;refine gX M N Q hit hm code R Fence.wide 0 (.inl rfl) (.inl rfl) w S (jv Y G) Z G w.heap.size _ st e _ w _ (zk _) m F fun E w1 X=>?_
  obtain⟨S',G',c⟩:=X;obtain⟨hd0,Ds,hd1,hd2,o⟩:=c.defers;have I:LeavesInM Fence.wide 0 C.P fn E.tmps (fun e w'=>∃v S' G',e=.returned v/\kd dr C.P Y Z S G w st.Y st.Z S' G' w'/\qg w' S' G' st.Z r v) E.defers .returning w1:=by
   rw[hd1];refine JH (dr:=dr) Ds w1 hd2 (fun D hD=>(o D hD).2.1) fun w' A=>?_
   have J:∀b,b∈Ds->KG S' G' st.Y b:=fun b k=>⟨(o b k).2.2.1,(o b k).2.2.2⟩
   have q:=c.inv.frame A J;have hsl:∀t,qg w' S' G' st.Z (st.σ t) (E.tmps.getD t undef):=fun t=>(c.vR t).mono (fun b k=>⟨k,A.block b (c.inv.st b k) fun hb'=>(J b hb').1 k⟩) (zk _) (fun _ _=>rfl)
   have hk:kd dr C.P Y Z S G w st.Y st.Z S' G' w':=⟨q,c.up,c.loc,c.s0,c.s1,c.own,c.fr.trans A fun b k p=>by have:=(o b p).1;omega⟩;have K:∃v,(results fn E.tmps).run C.P w'=.ok v w'/\qg w' S' G' st.Z r v:=by
    unfold xt at d;have go:∀xs,wK (fn.results.toList.map (Wu C.P st))=some xs->r=(match xs with|[x]=>x|xs=>.qZ xs)->∃v,(results fn E.tmps).run C.P w'=.ok v w'/\qg w' S' G' st.Z r v:=by
     intro xs hx i;obtain⟨us,p,l⟩:=YR q hsl hx;have L:(results fn E.tmps).run C.P w'=.ok (if h:us.toArray.size=1 then us.toArray[0]else .tuple us.toArray) w':=by unfold results;rw[Array.mapM_eq_mapM_toList];simp only[vr,Sem.run_map];erw [p];rfl
     refine⟨_,L,?_⟩
     match xs,l,i with
     |[],l,i=>rw[l.Jw];subst i;exact .qZ rfl (by simp)
     |[y],l,i=>obtain⟨u,rfl,hu⟩:=VJ l;subst i;simpa using hu
     |y::z::ys,l,i=>have hl:=l.1;subst i;rw[dif_neg (by simp at hl⊢;omega)];exact .qZ (by simpa using hl) (fun j pv u hj hu=>l.2 j pv u hj (by simpa using hu))
    split at d
    ·rename_i y hy;injection d with d
     exact go [y] hy d.symm
    ·rename_i xs B hx;injection d with d
     refine go xs hx ?_;rw[<-d]
     match xs,B with
     |[],_=>rfl
     |[y],B=>exact(B y rfl).elim
     |y::z::ys,_=>rfl
    ·cases d
   obtain⟨v,hv1,hv2⟩:=K;exact⟨v,hv1,v,S',G',rfl,hk,hv2⟩
  rcases he with rfl|rfl
  ·exact I
  ·exact I
 split at h
 ·rename_i st m;exact H _ st (.inl rfl) m h
 ·rename_i st m;exact H _ st (.inr rfl) m h
 ·cases h
end
variable{dr:Prop}
def O.isV:O->Bool
 | .v _=>true
 |_=>false
def O.flat:O->Bool
 | .v _=>true
 | .qZ cs=>cs.all O.isV
 |_=>false
def LN(s:Nat):O->O
 | .nil=>.sl s []
 |x=>x
def jn:List Nat->zb->zb
 |s::a,x::l=>LN s x::jn a l
 |_,l=>l
def CJ(x y:O):Prop:=x=y\/(x=.nil/\∃s,y=.sl s [])
def ei:O->O->Prop
 | .qZ xs,.qZ ys=>xs.length=ys.length/\∀(j:Nat) (x y:O),xs[j]?=some x->ys[j]?=some y->CJ x y
 |x,y=>CJ x y
def yS(a:Bool)(b:List Nat)(F:zb->Option O):AM.Spec:=fun args Y Z=>
 match zz Y args with
 |some (c,Y1)=>match F (jn b c)with
  |some r=>if r.flat=true\/args.all O.noOwn=true then some (r,Y,Z)else if a=true then some (r,Y1,Z)else none
  |none=>none
 |none=>none
def j5(a:List Nat)(F:zb->Option (Option Blk)):AM.Spec:=fun args Y Z=>
 match zz Y args with
 |some (c,Y1)=>match F (jn a c)with
  |some none=>some (.nil,Y1,Z)
  |some (some b)=>some (.own Z 0 b.es.length,zI Y1 Z (some b),Z+1)
  |none=>none
 |none=>none
theorem LO{α:Type}(f:Nat->α){i j:Nat}(h:i≠j)(x y:α):zI (zI f i x) j y=zI (zI f j y) i x:=by
 funext k;unfold zI;by_cases a:k=i
 ·subst a;simp[h]
 ·simp[a]
theorem KT{Y Y1:Hp}{x y:O}{Z:Nat}(f:Y Z=none)(b:Option Blk)(h:qn Y x=some (y,Y1)):qn (zI Y Z b) x=some (y,zI Y1 Z b)/\Y1 Z=none:=by
 unfold qn at h;split at h
 ·rename_i id off n;split at h
  ·rename_i j g;have a:id≠Z:=fun e=>by rw[e,f]at g;cases g
   split at h
   ·rename_i i;injection h with h
    injection h with c d;subst c;subst d;refine⟨?_,by rw[zc _ _ _ _ a.symm];exact f⟩;unfold qn;simp only[zc Y Z id b a,g,i,zgV,qh];rw[LO Y a.symm]
   ·cases h
  ·cases h
 all_goals first
  |(injection h with h;injection h with c d;subst c;subst d;exact⟨rfl,f⟩)
  |(split at h
    ·rename_i i;injection h with h;injection h with c d;subst c;subst d
     exact⟨by unfold qn;simp only[i,zgV,qh],f⟩
    ·cases h)
  |cases h
theorem Ku{Z:Nat}(b:Option Blk):∀{xs ys:zb} {Y Y1:Hp},Y Z=none->qm Y xs=some (ys,Y1)->qm (zI Y Z b) xs=some (ys,zI Y1 Z b)/\Y1 Z=none
 |[],ys,Y,Y1,a,h=>by
  simp only[qm]at h;injection h with h;injection h with c d;subst c;subst d
  exact⟨rfl,a⟩
 |x::l,ys,Y,Y1,a,h=>by
  simp only[qm]at h;split at h
  ·rename_i y Y2 e;split at h
   ·rename_i r hp3 f;injection h with h;injection h with c d;subst c;subst d
    obtain⟨g,i⟩:=KT a b e;obtain⟨j,k⟩:=Ku b i f;exact⟨by simp only[qm,g,j],k⟩
   ·cases h
  ·cases h
theorem nk{Y Y1:Hp}{x y:O}{Z:Nat}(a:Y Z=none)(b:Option Blk)(h:z7 Y x=some (y,Y1)):z7 (zI Y Z b) x=some (y,zI Y1 Z b)/\Y1 Z=none:=by
 cases x with
 |agg cs=>
  simp only[z7]at h⊢;split at h
  ·rename_i l i c;injection h with h;injection h with d e;subst d;subst e
   obtain⟨f,g⟩:=Ku b a c;exact⟨by simp only[f],g⟩
  ·cases h
 |_=>simp only[z7]at h⊢;exact KT a b h
theorem KU{Z:Nat}(b:Option Blk):∀{xs ys:zb} {Y Y1:Hp},Y Z=none->zz Y xs=some (ys,Y1)->zz (zI Y Z b) xs=some (ys,zI Y1 Z b)/\Y1 Z=none
 |[],ys,Y,Y1,a,h=>by
  simp only[zz]at h;injection h with h;injection h with c d;subst c;subst d
  exact⟨rfl,a⟩
 |x::l,ys,Y,Y1,a,h=>by
  simp only[zz]at h;split at h
  ·rename_i y Y2 e;split at h
   ·rename_i r hp3 f;injection h with h;injection h with c d;subst c;subst d
    obtain⟨g,i⟩:=nk a b e;obtain⟨j,k⟩:=KU b i f;exact⟨by simp only[zz,g,j],k⟩
   ·cases h
  ·cases h
theorem zq(a:List Nat)(F:zb->Option O):Qt (yS false a F):=by
 intro args Y Z r Y' Z' h;unfold yS at h;split at h
 ·rename_i c Y1 d;split at h
  ·rename_i r0 e;split at h
   ·rename_i f;injection h with h
    injection h with g h;injection h with i j;subst g;refine⟨⟨i.symm,j.symm⟩,fun b k=>?_⟩;unfold yS;simp only[(KU b k d).1,e];rw[zl f]
   ·simp at h
  ·cases h
 ·cases h
structure XP (C:Ctx) (pf:FuncId->Bool) (f:FuncId) (fn:Func) (code:Code):Prop where
 func:C.P.funcs[f]?=some fn
 name:(fn.name== "runtime.NumGoroutine")=false
 body:fn.body=some code
 ok:vj pf C.dyn C.I5 C.bk fn.ntmps code=true
structure kl (dr:Prop) (C:Ctx) (pf:FuncId->Bool):Prop where
 spec:∀g spec,C.Γ g=some spec->jl dr C.P g spec
 quiet:∀g spec,pf g=true->C.Γ g=some spec->Qt spec
 mixed:C.P.follows .mixedOrders=true
 box:∀g spec,C.bk g=true->C.Γ g=some spec->QP spec:=by intro _ _ h;cases h
 iter:∀g it,C.it g=some it->tW dr C.P g it:=by intro _ _ h;cases h
abbrev Good:=kl True
theorem Kv{Y Y1:Hp}{x y:O}(h:qn Y x=some (y,Y1))(a:x.jz=false):Y1=Y:=by
 unfold qn at h;split at h<;>first
  |(injection h with h;injection h with _ h;exact h.symm)
  |(simp[O.jz]at a;done)
  |(split at h<;>first|(injection h with h;injection h with _ h;exact h.symm)|cases h)
  |cases h
theorem Y6:∀{xs ys:zb} {Y Y1:Hp},qm Y xs=some (ys,Y1)->xs.any O.jz=false->Y1=Y
 |[],ys,Y,Y1,h,_=>by
  simp only[qm]at h;injection h with h
  injection h with _ h;exact h.symm
 |x::l,ys,Y,Y1,h,a=>by
  simp only[qm]at h;simp only[VA,Ju]at a;split at h
  ·rename_i y d b;split at h
   ·rename_i r e c;injection h with h
    injection h with _ h;subst h;rw[Y6 c a.2,Kv b a.1]
   ·cases h
  ·cases h
theorem gY{Y Y1:Hp}{x y:O}(h:z7 Y x=some (y,Y1))(a:x.noOwn=true):Y1=Y:=by
 unfold z7 at h;split at h
 ·split at h
  ·rename_i l c b;injection h with h
   injection h with _ h;subst h;exact Y6 b (by simpa[O.noOwn]using a)
  ·cases h
 ·refine Kv h ?_;cases x<;>simp_all[O.noOwn,O.jz]
theorem Kw:∀{xs ys:zb} {Y Y1:Hp},zz Y xs=some (ys,Y1)->xs.all O.noOwn=true->Y1=Y
 |[],ys,Y,Y1,h,_=>by
  simp only[zz]at h;injection h with h
  injection h with _ h;exact h.symm
 |x::l,ys,Y,Y1,h,a=>by
  simp only[zz]at h;simp only[yC,zn]at a;split at h
  ·rename_i y d b;split at h
   ·rename_i r e c;injection h with h
    injection h with _ h;subst h;rw[Kw c a.2,gY b a.1]
   ·cases h
  ·cases h
section
variable{C:Ctx}{pf:FuncId->Bool}{f:FuncId}{fn:Func}{code:Code}
theorem kd.outer{P:Program}{Y:Hp}{Z:Nat}{S:Nat->Prop}{G:Nat->GI}{w w':World}(h:Inv P w S G Y Z)(k:Fr dr w (fun _=>False) w') :
  kd dr P Y Z S G w Y Z (fun b=>S b\/(w.heap.size<=b/\b<w'.heap.size)) G w':=by
 have c:∀b,b<w.heap.size->w'.heap[b]?=w.heap[b]?:=fun b a=>k.block b a fun h=>h
 have d:∀b,S b->(S b\/(w.heap.size<=b/\b<w'.heap.size))/\w'.heap[b]?=w.heap[b]?:=fun b a=>⟨.inl a,c b (h.st b a)⟩
 refine⟨⟨fun b a=>?_,h.top,fun id b a=>(h.live id b a).mono d (zk _) (fun _ _=>rfl) (c _ (h.live id b a).lt),fun id b a hs=>?_,h.inj,h.aH.mono d⟩,zk _,fun _ _=>rfl,fun _ a=>.inl a,fun b a=>?_,fun id b a=>.inl ⟨id,b,a,rfl⟩,⟨k.os,k.tape,k.output,k.size,k.drawn,fun b a _=>c b a⟩⟩
 ·rcases a with a|a
  ·exact wV (h.st b a) k.size
  ·exact a.2
 ·rcases hs with hs|hs
  ·exact h.apart id b a hs
  ·have:=(h.live id b a).lt;omega
 ·rcases a with a|a
  ·exact .inl a
  ·exact .inr (.inr a.1)
theorem Y7{P:Program}{w:World}{S:Nat->Prop}(G:Nat->GI)(a:∀b,S b->b<w.heap.size)(c:F6 P w S):Inv P w S G (fun _=>none) 0:=
 ⟨a,fun _ _ h=>(by cases h),fun _ _ h=>(by cases h),fun _ _ h=>(by cases h),fun _ _ _ _ h=>(by cases h),c⟩
theorem vI{G:Nat->GI}{b:Nat}(h:jv (fun _=>none) G b):False:=by obtain⟨_,_,h,_⟩:=h;cases h
theorem Zip.closed{w:World}{S:Nat->Prop}{G:Nat->GI}{Z:Nat}{xs:zb}{us:List Value}(h:Zip (wG w S) xs us):Zip (qg w S G Z) xs us:=h.imp fun _ _ h=>.c h
theorem bd{w w':World}{S S':Nat->Prop}{r:O}{v:Value}(h:wG w S r v)(a:r.flat=true):wG w' S' r v:=by
 cases h with
 |v h=>exact .v h
 |qZ b e=>
  refine .qZ b fun j c u d f=>?_
  simp only[O.flat,zP]at a;have:=a c (zE d);have g:=e j c u d f;cases c<;>simp[O.isV]at this;obtain⟨rfl,b⟩:=g.wZ;exact .v b
 |_=>simp[O.flat]at a
theorem ZD(c:kl dr C pf)(i:XP C pf f fn code){args:zb}{x:O}{Y1:Hp}{a:Nat}(h:yR C fn args (fun _=>none) 0=some (x,Y1,a))(l:args.length<=fn.ntmps)
  {w:World} {S:Nat->Prop} {vs:List Value} (m:∀b,S b->b<w.heap.size) (j:F6 C.P w S) (n:Zip (wG w S) args vs) :
  Calls C.P f vs.toArray w fun e w'=>∃v S' G',e=.returned v/\Fr dr w (fun _=>False) w'/\Inv C.P w' S' G' Y1 a/\qg w' S' G' a x v/\(∀b,S b->S' b)/\(∀b,S' b->S b\/w.heap.size<=b)/\(∀id blk,Y1 id=some blk->w.heap.size<=(G' id).g):=by
 refine(XX c.spec c.quiet c.box c.iter c.mixed i.func i.body i.ok h (Y7 (fun _=>⟨0,0,0⟩) m j) n.closed l).mono fun e w' o=>?_
 obtain⟨v,S',G',p,k,q⟩:=o;refine⟨v,S',G',p,⟨k.fr.os,k.fr.tape,k.fr.output,k.fr.size,k.fr.drawn,fun b d _=>k.fr.block b d vI⟩,k.inv,q,k.kO,fun b d=>?_,fun id blk d=>?_⟩
 ·rcases k.from_ b d with h|h|h
  ·exact .inl h
  ·exact(vI h).elim
  ·exact .inr h
 ·rcases k.own id blk d with h|h
  ·exact(vI h).elim
  ·exact h
theorem oq{w:World}{S:Nat->Prop}{x:O}{u:Value}(h:wG w S x u)(s:Nat):wG w S (LN s x) u:=by
 unfold LN;split
 ·cases h;exact .sl (es:=[]) (fun _ _=>undef) (by simp) (by simp) (by simp[maxLen]) (by simp) (by simp) (by simp)
 ·exact h
theorem Z2{w:World}{S:Nat->Prop}:∀{a:List Nat} {xs:zb} {us:List Value},Zip (wG w S) xs us->Zip (wG w S) (jn a xs) us
 |[],xs,us,h=>by unfold jn;exact h
 |s::a,[],us,h=>by unfold jn;exact h
 |s::a,x::xs,us,h=>by obtain⟨u,b,rfl,c,d⟩:=h.jr;simp only[jn];exact .cons (oq c s) (Z2 d)
theorem rq{w:World}{S:Nat->Prop}{x y:O}{u:Value}(h:wG w S x u)(a:CJ x y):wG w S y u:=by
 rcases a with rfl|⟨rfl,s,rfl⟩
 ·exact h
 ·exact oq h s
theorem LP{w:World}{S:Nat->Prop}{x y:O}{u:Value}(h:wG w S x u)(a:ei x y):wG w S y u:=by
 unfold ei at a;split at a
 ·cases h with
  |qZ g d=>
   rename_i xs ys us;refine .qZ (by omega) fun j e v c f=>?_
   have b:j<xs.length:=by rw[a.1];exact(zd.1 c).1
   exact rq (d j xs[j] v (zm b) f) (a.2 j xs[j] e (zm b) c)
 ·exact rq h a
theorem tY(hg:kl dr C pf)(q:XP C pf f fn code)(j:Bool)(ns:List Nat)(F:zb->Option O)(hF:∀args r,F args=some r->args.length<=fn.ntmps/\∃r0,zH C fn args=some r0/\ei r0 r):jl dr C.P f (yS j ns F):=by
 refine⟨⟨fn,q.func,q.name,by rw[q.body];rfl⟩,?_⟩;intro args Y Z r Y' Z' h w S G vs R hz;unfold yS at h;split at h
 ·rename_i aZ Y1 t;split at h
  ·rename_i r0 u;obtain⟨hn,rr,a,y⟩:=hF _ r0 u;unfold zH at a;split at a
   ·rename_i x hpe nxe z;obtain⟨⟨r1,T⟩,A,k⟩:=zJ a;simp only at k;subst k;obtain⟨S1,s,B,D⟩:=yW (dr:=dr) R t hz;refine(ZD hg q z hn s.inv.st s.inv.aH (Z2 B)).mono fun e w' hh=>?_
    obtain⟨v,S',G',U,W,l,hx,hs0,E,_⟩:=hh;obtain⟨S2,X,H⟩:=vH (dr:=dr) l A hx;have I:=LP H y;have m:∀b,S2 b->S1 b\/(w.heap.size<=b/\b<w'.heap.size):=by
     intro b i;have n:=X.inv.st b i;rcases X.from_ b i with h1|⟨id,blk,h1,rfl⟩|h1
     ·rcases E b h1 with J|J
      ·exact .inl J
      ·exact .inr ⟨J,n⟩
     ·rcases Nat.lt_or_ge (G' id).g w.heap.size with h3|h3
      ·rename_i o;have:=o id blk h1;omega
      ·exact .inr ⟨h3,n⟩
     ·exact absurd h1 (by omega)
    split at h
    ·rename_i d;injection h with h
     injection h with K h;injection h with L M;subst K;subst L;subst M;refine⟨v,_,G,U,kd.outer R W,.c ?_⟩;rcases d with N|Q
     ·exact bd I N
     ·have p:=D Q;exact I.mono fun b i=>⟨by rw[<-p];exact m b i,rfl⟩
    ·split at h
     ·injection h with h;injection h with K h;injection h with L M;subst K;subst L;subst M;exact⟨v,_,G,U,s.trans (kd.outer s.inv W),.c (I.mono fun b i=>⟨m b i,rfl⟩)⟩
     ·cases h
   ·cases a
  ·cases h
 ·cases h
end
variable{dr:Prop}
section
variable{P:Program}{Y1 Y2 hpe:Hp}{Z nxe:Nat}{S1 S':Nat->Prop}{G G':Nat->GI}{w w':World}{D:Nat->Prop}
theorem VN(f:Inv P w S1 G Y1 Z)(a:∀id b,Y2 id=some b->Y1 id=some b/\¬D (G id).g)(m:∀b,D b->jv Y1 G b)(d:Fr dr w D w')(e:Inv P w' S' G' hpe nxe)(i:∀b,S1 b->S' b)(j:∀b,S' b->S1 b\/D b\/w.heap.size<=b) :
  kd dr P Y1 Z S1 G w Y2 Z S' G w':=by
 have n:∀b,S1 b->¬D b:=fun b c hd=>by obtain⟨id,blk,q,rfl⟩:=m b hd;exact f.apart id blk q c
 have r:∀b,S1 b->S' b/\w'.heap[b]?=w.heap[b]?:=fun b c=>⟨i b c,d.block b (f.st b c) (n b c)⟩
 refine⟨⟨e.st,fun id b c=>f.top id b (a id b c).1,fun id b c=>?_,fun id b c hs=>?_,fun id id' b p c o s=>f.inj id id' b p (a id b c).1 (a id' p o).1 s,e.aH⟩,zk _,fun _ _=>rfl,i,fun b c=>?_,fun id b c=>.inl ⟨id,b,(a id b c).1,rfl⟩,⟨d.os,d.tape,d.output,d.size,d.drawn,fun k t u=>d.block k t fun hd=>u (m k hd)⟩⟩
 ·have l:=f.live id b (a id b c).1;exact l.mono r (zk _) (fun _ _=>rfl) (d.block _ l.lt (a id b c).2)
 ·have l:=f.live id b (a id b c).1;rcases j _ hs with h|h|h
  ·exact f.apart id b (a id b c).1 h
  ·exact(a id b c).2 h
  ·have:=l.lt;omega
 ·rcases j b c with h|h|h
  ·exact .inl h
  ·exact .inr (.inl (m b h))
  ·exact .inr (.inr h)
theorem gZ(B:Inv P w S1 G Y1 Z)(f:∀id b,Y2 id=some b->Y1 id=some b/\¬D (G id).g)(L:∀b,D b->jv Y1 G b)(N:Fr dr w D w')(l:Inv P w' S' G' hpe nxe)(F:∀b,S1 b->S' b)(H:∀b,S' b->S1 b\/D b\/w.heap.size<=b)
  {id:Nat} {b:Blk} (C:hpe id=some b) (v:b.arr=true) (s:D (G' id).g\/w.heap.size<=(G' id).g) :
  kd dr P Y1 Z S1 G w (zI Y2 Z (some b)) (Z+1) S' (zI G Z (G' id)) w':=by
 have x:=VN B f L N l F H;have y:∀id' z,Y2 id'=some z->(G id').g≠(G' id).g:=fun id' z M q=>by
  rcases s with h|h
  ·exact(f id' z M).2 (q ▸ h)
  ·have:=(B.live id' z (f id' z M).1).lt;omega
 have r:∀k,k<Z->zI G Z (G' id) k=G k:=fun k a=>zc _ _ _ _ (by omega)
 have m:∀k,k≠Z->zI Y2 Z (some b) k=Y2 k:=fun k a=>zc _ _ _ _ a
 have I:∀b,S' b->S' b/\w'.heap[b]?=w'.heap[b]?:=fun b C=>⟨C,rfl⟩
 have e:∀k c,Y2 k=some c->k<Z:=fun k c a=>B.top k c (f k c a).1
 refine⟨⟨l.st,fun k c a=>?_,fun k c a=>?_,fun k c a=>?_,fun k n c A a o q=>?_,l.aH⟩,by omega,r,x.kO,x.from_,fun n c a=>?_,x.fr⟩
 ·by_cases d:k=Z
  ·omega
  ·rw[m k d]at a;have:=e k c a;omega
 ·by_cases d:k=Z
  ·subst d;simp only[qU]at a⊢;injection a with a
   subst a;have t:=l.live id _ C;refine⟨t.bs,fun E=>⟨t.size E,t.len E,t.fit E,?_⟩,t.I4⟩;obtain⟨cur,Q,R,S⟩:=t.row E;refine⟨cur,Q,R,fun i j c T J U=>?_⟩;obtain⟨u,W,K⟩:=S i j c T J U;exact⟨u,W,K.1,.c (K.1 v),K.2.2⟩
  ·rw[m k d]at a;rw[r k (e k c a)];exact(x.inv.live k c a).mono I (by omega) r rfl
 ·by_cases d:k=Z
  ·subst d;simp only[qU];exact l.apart id b C
  ·rw[m k d]at a;rw[r k (e k c a)];exact x.inv.apart k c a
 ·by_cases d:k=Z<;>by_cases p:n=Z
  ·omega
  ·subst d;rw[m n p]at o;rw[r n (e n A o)]at q;simp only[qU]at q;exact(y n A o q.symm).elim
  ·subst p;rw[m k d]at a;rw[r k (e k c a)]at q;simp only[qU]at q;exact(y k c a q).elim
  ·rw[m k d]at a;rw[m n p]at o;rw[r k (e k c a),r n (e n A o)]at q;exact B.inj k n c A (f k c a).1 (f n A o).1 q
 ·by_cases d:n=Z
  ·subst d;simp only[qU];rcases s with h|h
   ·exact .inl (L _ h)
   ·exact .inr h
  ·rw[m n d]at a;rw[r n (e n c a)];exact .inl ⟨n,c,(f n c a).1,rfl⟩
theorem hC{id n:Nat}{v:Value}(h:qg w' S' G' nxe (.own id 0 n) v):qg w' S' (zI G Z (G' id)) (Z+1) (.own Z 0 n) v:=by have a:=h.xl;obtain⟨cap,e,b,c,d,rfl⟩:=h.vO;have:=qg.own (w:=w') (S:=S') (G:=zI G Z (G' id)) (Z:=Z+1) (id:=Z) (off:=0) (n:=n) (cap:=cap) (by omega) b c (by simpa using d) (by simpa using a);simpa using this
end
section
variable{C:Ctx}{pf:FuncId->Bool}{f:FuncId}{fn:Func}{code:Code}
def hG(r:Option Blk)(x:O)(Y:Hp)(_:Nat):Prop:=match r with
 |none=>x=.nil
 |some b=>∃id,x=.own id 0 b.es.length/\Y id=some b/\b.arr=true
theorem JI(K:kl dr C pf)(n:XP C pf f fn code)(M:List Nat)(F:zb->Option (Option Blk))(L:∀args r,F args=some r->args.length<=fn.ntmps/\∃x Y Z,yR C fn args (fun _=>none) 0=some (x,Y,Z)/\hG r x Y Z) :
  jl dr C.P f (j5 M F):=by
 refine⟨⟨fn,n.func,n.name,by rw[n.body];rfl⟩,?_⟩;intro args Y Z r Y' Z' h w S G vs N Q;unfold j5 at h;split at h
 ·rename_i R Y1 s;obtain⟨S1,g,o,_⟩:=yW (dr:=dr) N s Q;have i:∀id b,Y1 id=some b->Y1 id=some b/\¬False:=fun id b h=>⟨h,fun h=>h⟩
  split at h
  ·rename_i j;obtain⟨t,x,hpe,nxe,k,d⟩:=L _ none j;injection h with h
   injection h with u h;injection h with y z;subst u;subst y;subst z;simp only[hG]at d;subst d;refine(ZD K n k t g.inv.st g.inv.aH (Z2 o)).mono fun e w' A=>?_
   obtain⟨v,S',G',B,E,a,H,l,m,_⟩:=A;have I:=VN (dr:=dr) (D:=fun _=>False) (Y2:=Y1) g.inv i (fun _ h=>h.elim) E a l (fun b J=>(m b J).imp (fun h=>h) .inr);have:=H.xV;subst this;exact⟨_,_,_,B,g.trans I,.c .nil⟩
  ·rename_i b j;obtain⟨t,x,hpe,nxe,k,d⟩:=L _ (some b) j;injection h with h
   injection h with u h;injection h with y z;subst u;subst y;subst z;obtain⟨id,rfl,hid,p⟩:=d;refine(ZD K n k t g.inv.st g.inv.aH (Z2 o)).mono fun e w' A=>?_
   obtain⟨v,S',G',B,E,a,H,l,m,q⟩:=A;have I:=gZ (dr:=dr) (D:=fun _=>False) (Y2:=Y1) g.inv i (fun _ h=>h.elim) E a l (fun b J=>(m b J).imp (fun h=>h) .inr) hid p (.inr (q id b hid));exact⟨_,_,_,B,g.trans I,hC H⟩
  ·cases h
 ·cases h
end
abbrev hP(F:zb->Option O):AM.Spec:=yS false [] F
end Go.AM
namespace Go.AM
open Go.RowKit Go.WideShapes Go.ChangeShapes
variable{dr:Prop}
def tZ(P:Program):Nat->List Field->Option Nat
 |o,[]=>some o
 |o,f::a=>if f.offset=o then tZ P (o+P.cellsOf f.type) a else none
def ru(P:Program)(T:List TypeId):Bool:=T.all fun t=>match P.underlying t with
 |some .bool|some (.int _)|some .string=>P.cellsOf t==1
 |some (.slice e)=>P.cellsOf t==1&&T.contains e&&decide (0<P.cellsOf e)
 |some (.struct a)=>tZ P 0 a.toList==some (P.cellsOf t)&&a.toList.all fun f=>T.contains f.type
 |_=>false
structure Bounds (H:Type) (Bl:Nat->Prop) (Bd:DataW H->Prop):Prop where
 slice:∀es sp,Bd (.slice es sp)->Bl es.length/\∀d∈es,Bd d
 nil:Bl 0
 agg:∀l,Bd (.agg l)->∀d∈l,Bd d
 str:∀b,Bd (.lit (.string b))->Bl b.length
section
variable{H:Type}{V:TypeId×Value->H}{P:Program}{w:World}{sp:Nat->Bool}{held:Bool}{Bl:Nat->Prop}{Bd:DataW H->Prop}
theorem nn{α:Type}{l:List α}{o n j:Nat}(a:j<n):((l.drop o).take n)[j]?=l[o+j]?:=by rw[yu,zl a,yd]
theorem ot{R:O->Value->Prop}{Q:Field->zb->Prop}:∀(e:List Field) (o n:Nat) (cs:List Value),tZ P o e=some n->cs.length=n ->
  (∀f∈e,∃a,Zip R a ((cs.drop f.offset).take (P.cellsOf f.type))/\Q f a) ->
  ∃a:zb,a.length+o=n/\(∀(j:Nat) (g:O) (u:Value),a[j]?=some g->cs[o+j]?=some u->R g u)/\∀f∈e,o<=f.offset/\Q f ((a.drop (f.offset-o)).take (P.cellsOf f.type))
 |[],o,n,cs,c,p,_=>by
  simp only[tZ]at c;injection c with c
  subst c;exact⟨[],by simp,by simp,by simp⟩
 |f::e,o,n,cs,c,p,h=>by
  simp only[tZ]at c;split at c
  ·rename_i s;obtain⟨d,q,t⟩:=h f (by simp);obtain⟨i,y,v,w⟩:=ot e (o+P.cellsOf f.type) n cs c p (fun f' b=>h f' (by simp[b]));have l:d.length=P.cellsOf f.type:=by have:=q.1;simp only[fE,List.length_drop]at this;omega
   refine⟨d++i,by simp;omega,fun j g u k r=>?_,fun f' b=>?_⟩
   ·by_cases m:j<d.length
    ·rw[je m]at k;refine q.2 j g u k ?_;rw[nn (by omega),s];exact r
    ·rw[qo (by omega)]at k;refine v (j-d.length) g u k ?_;rw[show o+P.cellsOf f.type+(j-d.length)=o+j from by omega];exact r
   ·rcases zx.1 b with rfl|b
    ·refine⟨by omega,?_⟩;have:((d++i).drop (f'.offset-o)).take (P.cellsOf f'.type)=d:=by rw[show f'.offset-o=0 from by omega,w8,<-l,List.take_left]
     rw[this];exact t
    ·obtain⟨z,x⟩:=w f' b;refine⟨by omega,?_⟩;have:(d++i).drop (f'.offset-o)=i.drop (f'.offset-(o+P.cellsOf f.type)):=by rw[List.drop_append,List.drop_eq_nil_of_le (by omega),ye];congr 1;omega
     rw[this];exact x
  ·cases c
end
section
variable{C:Ctx}{pf:FuncId->Bool}{f:FuncId}{fn:Func}{code:Code}
theorem GJ(o:kl dr C pf)(g:XP C pf f fn code){args:zb}(h:zH C fn args=some (.v (.bool true)))(p:args.length<=fn.ntmps){w:World}{vs:List Value}(i:w.ShapedOpen C.P)(a:∀t∈WQ,tB w (fun b=>b<w.heap.size) t)(q:Zip (wG w (fun b=>b<w.heap.size)) args vs) :
  Calls C.P f vs.toArray w fun e m=>e=.returned (.bool true)/\Below w.heap.size w m:=by
 unfold zH at h;split at h
 ·rename_i x hpe nxe j;obtain⟨⟨r,Y2⟩,l,n⟩:=zJ h;simp only at n;subst n;refine(ZD o g j p (fun _ s=>s) (F6.PS i a) q).mono fun e m u=>?_
  obtain⟨v,S',G',y,c,d,z,_⟩:=u;obtain⟨B,_,A⟩:=vH (dr:=dr) d l z;obtain⟨rfl,_⟩:=A.wZ;exact⟨y,c.os,c.tape,c.output,c.size,fun k g=>c.block k g fun h=>h⟩
 ·cases h
end
end Go.AM
namespace Go.AM
variable{dr:Prop}
attribute [congr] tO tP
attribute [simp] KS LF RH GF fJ LG oo RI LJ LI CD CE tQ rl GD CF jW CG cP
 nj CH tT tU LK
@[simp]theorem WU(K:Exit->St->Prop)(st:St):vy K st=K .normal st:=rfl
@[simp]theorem RM(id i:Nat)(K:Exit->St->Prop)(st:St)(h:¬i=id):Q9 id K (.exit i) st=K (.exit i) st:=by simp[Q9,h]
@[simp]theorem zT{α:Type}(f:Nat->α)(k i:Nat)(x:α)(h:¬i=k):zI f k x i=f i:=by simp[zI,h]
@[simp]theorem zeO(σ:Nat->O)(d:Nat)(x:O):put σ (some d) x=zI σ d x:=rfl
@[simp]theorem zeP(σ:Nat->O)(x:O):put σ none x=σ:=rfl
@[simp]theorem zdM(args:zb)(t:Nat):kM args t=(args[t]?).getD (.qZ []):=rfl
@[simp]theorem zhc(σ:Nat->O)(t:Nat):get σ (.tmp t)=some (σ t):=rfl
@[simp]theorem LQ(σ:Nat->O)(f:Nat):get σ (.func f)=some (.fn (.func f) [] []):=rfl
@[simp]theorem zhd(σ:Nat->O)(k:IntKind)(n:Int):get σ (.const (.int k n))=some (.v (.int k n)):=rfl
@[simp]theorem zeQ(σ:Nat->O)(b:Bool):get σ (.const (.bool b))=some (.v (.bool b)):=rfl
@[simp]theorem zhe(σ:Nat->O)(s:ByteArray):get σ (.const (.string s))=some (.v (.string s)):=rfl
@[simp]theorem zhf(σ:Nat->O):get σ (.const (.slice none 0 0))=some .nil:=rfl
@[simp]theorem zaJ(σ:Nat->O):get σ (.const .nilFunc)=some (.v .nilFunc):=rfl
@[simp]theorem zhg(σ:Nat->O)(cs:Array Value):get σ (.const (.agg cs))=(kG cs.toList).map .agg:=rfl
@[simp]theorem zbH(C:Ctx)(a:Array Oper)(d:Option Tmp)(op:Op)(t:TypeId)(p:String)(b:Array Edge)(st:St):yQ C a ⟨d,op,t,p,b,none⟩ st =
  (zS C (get st.σ) st.Y st.Z op).map fun r=>⟨put st.σ d r.1,r.2.1,r.2.2⟩:=LL C a d op t p b st
def xZ(C:Ctx)(d:Option Tmp)(op:Op)(st:St)(y:Option Bool)(b:Bool):Option St:=
 if y=some b then(zS C (get st.σ) st.Y st.Z op).map fun r=>⟨put st.σ d r.1,r.2.1,r.2.2⟩else some ⟨put st.σ d (.qZ []),st.Y,st.Z⟩
theorem rv{C:Ctx}{d:Option Tmp}{op:Op}{st:St}{y a:Option Bool}{b:Bool}(h:y=a):xZ C d op st y b=xZ C d op st a b:=by rw[h]
@[simp]theorem zbI(C:Ctx)(a:Array Oper)(d:Option Tmp)(op:Op)(t:TypeId)(p:String)(c:Array Edge)(j:Nat)(b:Bool)(st:St):yQ C a ⟨d,op,t,p,c,some (j,b)⟩ st =
  xZ C d op st (xr a st.σ j) b:=by
 unfold yQ xZ Region.wanted;simp only[w7];split
 ·cases zS C (get st.σ) st.Y st.Z op<;>rfl
 ·rfl
@[simp]theorem zdN(C:Ctx)(d:Option Tmp)(op:Op)(st:St)(b:Bool):xZ C d op st (some b) b=(zS C (get st.σ) st.Y st.Z op).map fun r=>⟨put st.σ d r.1,r.2.1,r.2.2⟩:=by simp[xZ]
@[simp]theorem zeR(C:Ctx)(d:Option Tmp)(op:Op)(st:St):xZ C d op st (some true) false=some ⟨put st.σ d (.qZ []),st.Y,st.Z⟩:=by simp[xZ]
@[simp]theorem zeS(C:Ctx)(d:Option Tmp)(op:Op)(st:St):xZ C d op st (some false) true=some ⟨put st.σ d (.qZ []),st.Y,st.Z⟩:=by simp[xZ]
@[simp]theorem zbJ(C:Ctx)(d:Option Tmp)(op:Op)(st:St)(b:Bool):xZ C d op st none b=some ⟨put st.σ d (.qZ []),st.Y,st.Z⟩:=by simp[xZ]
attribute [congr] rv
def KV:O->Option Bool
 | .v (.bool b)=>some b
 |_=>none
@[simp]theorem zaK(b:Bool):KV (.v (.bool b))=some b:=rfl
@[simp]theorem zbK(l:zb):KV (.qZ l)=none:=rfl
def CK(σ:Nat->O):Option Nat->Option Bool
 |some d=>KV (σ d)
 |none=>none
@[simp]theorem zaL(σ:Nat->O)(d:Nat):CK σ (some d)=KV (σ d):=rfl
@[simp]theorem zdO(a:Array Oper)(σ:Nat->O)(j:Nat):xr a σ j=CK σ ((a[j]?).bind (·.dst)):=by
 unfold xr CK KV;cases (a[j]?).bind (·.dst)with
 |none=>rfl
 |some d=>rfl
section
variable(C:Ctx)(ρ:Operand->Option O)(Y:Hp)(Z:Nat)
@[simp]theorem RN(x:Operand):zS C ρ Y Z (.move x)=(ρ x).map fun y=>(y,Y,Z):=rfl
@[simp]theorem GK(x:Operand):zS C ρ Y Z (.assign x)=(ρ x).map fun y=>(y,Y,Z):=rfl
def WV(c a b:Option O):Option O:=match c with
 |some (.v (.bool true))=>a
 |some (.v (.bool false))=>b
 |_=>none
@[simp]theorem zbL(a b:Option O):WV (some (.v (.bool true))) a b=a:=rfl
@[simp]theorem zaM(a b:Option O):WV (some (.v (.bool false))) a b=b:=rfl
@[simp]theorem RO(c a b:Operand):zS C ρ Y Z (.pick c a b)=(WV (ρ c) (ρ a) (ρ b)).map fun y=>(y,Y,Z):=by
 unfold WV;simp only[zS];generalize ρ c=o;cases o with
 |none=>rfl
 |some p=>cases p<;>(try rfl);rename_i x;cases x<;>(try rfl);rename_i t;cases t<;>rfl
@[simp]theorem zbM(op:BinOp)(t a:TypeId)(x y:Operand):zS C ρ Y Z (.binOp op t x y a)=(do let p <-ρ x;let q <-ρ y;let r <-KI (isK y) C.P op t p q;some (r,Y,Z)):=by simp only[zS];cases ρ x<;>cases ρ y<;>(try rfl);simp;cases KI (isK y) C.P op t _ _<;>rfl
@[simp]theorem zeT(op:UnOp)(t:TypeId)(x:Operand):zS C ρ Y Z (.unOp op t x)=(do let p <-ρ x;let r <-Ri op p;some (r,Y,Z)):=by simp only[zS];cases ρ x<;>(try rfl);simp;cases Ri op _<;>rfl
@[simp]theorem RQ(s d:TypeId)(x:Operand):zS C ρ Y Z (.convert s d x)=(do let p <-ρ x;let r <-Xq C.P s d p;some (r,Y,Z)):=by simp only[zS];cases ρ x<;>(try rfl);simp;cases Xq C.P s d _<;>rfl
@[simp]theorem RR(t:TypeId)(x:Operand):zS C ρ Y Z (.load t x)=(do let p <-ρ x;let r <-xc C.P Y t p;some (r,Y,Z)):=by simp only[zS];cases ρ x<;>(try rfl);simp;cases xc C.P Y t _<;>rfl
@[simp]theorem zeU(t:TypeId)(a x:Operand):zS C ρ Y Z (.store t a x)=(do let p <-ρ a;let q <-ρ x;let h <-xp C.P Y t p q;some (.qZ [],h,Z)):=by simp only[zS];cases ρ a<;>cases ρ x<;>(try rfl);simp;cases xp C.P Y t _ _<;>rfl
@[simp]theorem ry(t:TypeId)(x:Operand)(f:Nat):zS C ρ Y Z (.fieldAddr t x f)=(do let p <-ρ x;let r <-y9 C.P t f p;some (r,Y,Z)):=by simp only[zS];cases ρ x<;>(try rfl);simp;cases y9 C.P t f _<;>rfl
@[simp]theorem LR(t:TypeId)(x:Operand)(f:Nat):zS C ρ Y Z (.field t x f)=(do let p <-ρ x;let r <-vS C.P t f p;some (r,Y,Z)):=by simp only[zS];cases ρ x<;>(try rfl);simp;cases vS C.P t f _<;>rfl
@[simp]theorem rz(t:TypeId)(x i:Operand):zS C ρ Y Z (.indexAddr t x i)=(do let p <-ρ x;let q <-ρ i;let r <-qL C.P Y t p q;some (r,Y,Z)):=by simp only[zS];cases ρ x<;>cases ρ i<;>(try rfl);simp;cases qL C.P Y t _ _<;>rfl
@[simp]theorem LS(t:TypeId)(x i:Operand):zS C ρ Y Z (.index t x i)=(do let p <-ρ x;let q <-ρ i;let r <-QB C.P t p q;some (r,Y,Z)):=by simp only[zS];cases ρ x<;>cases ρ i<;>(try rfl);simp;cases QB C.P t _ _<;>rfl
@[simp]theorem LU(t:TypeId)(x:Operand)(lo a:Option Operand):zS C ρ Y Z (.slice t x lo a none)=(do let p <-ρ x;let r <-y8 C.P Y t p (lo.map ρ) (a.map ρ);some (r,Y,Z)):=by simp only[zS];cases ρ x<;>(try rfl);simp;cases y8 C.P Y t _ _ _<;>rfl
@[simp]theorem RS(t:TypeId)(l c:Operand):zS C ρ Y Z (.makeSlice t l c)=(do let p <-ρ l;let q <-ρ c;WR C.P Y Z t p q):=by simp only[zS];cases ρ l<;>cases ρ c<;>rfl
def Y8(i:Nat):O->Option O
 | .qZ vs=>vs[i]?
 |_=>none
@[simp]theorem RT(i:Nat)(vs:zb):Y8 i (.qZ vs)=vs[i]?:=rfl
@[simp]theorem CL(x:Operand)(i:Nat):zS C ρ Y Z (.extract x i)=(do let p <-ρ x;let r <-Y8 i p;some (r,Y,Z)):=by
 simp only[zS];cases ρ x with
 |none=>rfl
 |some p=>cases p<;>(try rfl);simp[Y8];rename_i vs;cases vs[i]?<;>rfl
@[simp]theorem zeV(t:TypeId):zS C ρ Y Z (.alloc t)=(do let n <-qN C.P t;let z <-jk C.P t;if 0<n/\z.length=n then some (.ref Z 0 0,zI Y Z (some ⟨t,n,false,[z]⟩),Z+1)else none):=by simp only[zS];cases qN C.P t<;>cases jk C.P t<;>rfl
@[simp]theorem zhX(t:TypeId)(x:Operand):zS C ρ Y Z (.box t x)=(do let n <-qN C.P t;let y <-ρ x;if 0<n/\y.cells.length=n/\y.cells.all O.wY=true then some (.ref Z 0 0,zI Y Z (some ⟨t,n,false,[y.cells]⟩),Z+1)else none):=by simp only[zS];cases qN C.P t<;>cases ρ x<;>rfl
@[simp]theorem zeW(t:TypeId)(a:Array (Nat×Operand)):zS C ρ Y Z (.build t a)=(do let q <-kY ρ a.toList;let r <-qi C.P t q;some (r,Y,Z)):=by simp only[zS];cases kY ρ a.toList<;>(try rfl);simp;cases qi C.P t _<;>rfl
@[simp]theorem Rj(t:TypeId)(n:Nat)(a:Array (Nat×Operand)):zS C ρ Y Z (.buildSlice t n a)=(do let q <-kY ρ a.toList;zy C.P Y Z t n q):=by simp only[zS];cases kY ρ a.toList<;>rfl
@[simp]theorem zaN(f:Fn)(a b:Array Operand):zS C ρ Y Z (.makeFunc f a b)=(do let p <-wK (a.toList.map ρ);let q <-wK (b.toList.map ρ);some (.fn f p q,Y,Z)):=by simp only[zS];cases wK (a.toList.map ρ)<;>cases wK (b.toList.map ρ)<;>rfl
@[simp]theorem RU(f:Operand)(args:Array Operand)(ts:Array TypeId):zS C ρ Y Z (.call {callee:=.value f,args:=args,argTypes:=ts})=(do let xs <-wK (args.toList.map ρ);jH C Y Z (ρ f) xs):=by simp only[zS,xq];cases wK (args.toList.map ρ)<;>rfl
@[simp]theorem CM(b:Builtin)(args:Array Operand)(ts:Array TypeId):zS C ρ Y Z (.call {callee:=.builtin b,args:=args,argTypes:=ts})=(do let xs <-wK (args.toList.map ρ);yr C.P Y Z ts b xs):=by simp only[zS,xq];cases wK (args.toList.map ρ)<;>rfl
end
@[simp]theorem zaO{α:Type}:wK ([]:List (Option α))=some []:=rfl
@[simp]theorem RV{α:Type}(x:α)(l:List (Option α)):wK (some x::l)=(wK l).map (x::·):=rfl
@[simp]theorem zdP(ρ:Operand->Option O):kY ρ []=some []:=rfl
@[simp]theorem zbN(ρ:Operand->Option O)(i:Nat)(x:Operand)(l:List (Nat×Operand)):kY ρ ((i,x)::l)=(do let p <-ρ x;let r <-kY ρ l;some ((i,p)::r)):=by simp only[kY];cases ρ x<;>cases kY ρ l<;>rfl
theorem CN(C:Ctx)(Y:Hp)(Z g:Nat)(first a xs:zb)(b:AM.Spec)(h:C.Γ g=some b):jH C Y Z (some (.fn (.func g) first a)) xs=b (first++xs++a) Y Z:=by simp[jH,h]
section
variable(P:Program)(Y:Hp)(Z:Nat)(t:TypeId)
@[simp]theorem zhh(op:BinOp)(k:IntKind)(a b:Int):Qq P op t (.v (.int k a)) (.v (.int k b))=eV op k a b:=by simp[Qq]
@[simp]theorem zhi(op:BinOp)(a b:ByteArray):Qq P op t (.v (.string a)) (.v (.string b))=Le op a b:=rfl
@[simp]theorem zhY(b:Bool):Ri .not (.v (.bool b))=some (.v (.bool !b)):=rfl
@[simp]theorem zhZ(k:IntKind)(n:Int):Ri .neg (.v (.int k n))=some (.v (.int k (k.wrap (0-n)))):=rfl
@[simp]theorem zeX(cs:zb):xc P Y t (.ptr cs)=qG P t cs:=rfl
@[simp]theorem zeY(id i j:Nat):xc P Y t (.ref id i j)=(do let b <-Y id;let c <-b.es[i]?;qG P t (c.drop j)):=by
 simp only[xc];cases Y id with
 |none=>rfl
 |some b=>simp;cases b.es[i]?<;>rfl
@[simp]theorem Rk(f:Nat)(cs:zb):y9 P t f (.ptr cs)=(do let q <-qF P t f;if q.2.1=0 then none else some (.ptr (cs.drop q.1))):=by simp only[y9];cases qF P t f<;>rfl
@[simp]theorem Rl(f id i j:Nat):y9 P t f (.ref id i j)=(do let q <-qF P t f;if q.2.1=0 then none else some (.ref id i (j+q.1))):=by simp only[y9];cases qF P t f<;>rfl
@[simp]theorem zhj(s:ByteArray):KJ P t (.v (.string s))=match P.underlying t with|some .string=>some (.v (.int .i64 s.size))|_=>none:=rfl
@[simp]theorem zh0(s:Nat)(es:List zb):KJ P t (.sl s es)=(yq P t).map fun _=>.v (.int .i64 es.length):=rfl
@[simp]theorem zhk:KJ P t .nil=(yq P t).map fun _=>.v (.int .i64 0):=rfl
@[simp]theorem zhl(id off n:Nat):KJ P t (.own id off n)=(yq P t).map fun _=>.v (.int .i64 n):=rfl
theorem ou(i:Int)(x:O)(d:∀cs,x≠.ptr cs)(e:∀a b c,x≠.ref a b c):xJ P t i x=none:=by
 unfold xJ;split
 ·split
  ·split
   ·split
    ·exact absurd rfl (d _)
    ·exact absurd rfl (e _ _ _)
    ·rfl
   ·rfl
  ·rfl
 ·rfl
@[simp]theorem zeZ(s:Nat)(es:List zb)(k:IntKind)(i:Int):qL P Y t (.sl s es) (.v (.int k i))=(do let e <-yq P t;let n <-qN P e;if s=n/\0<n/\0<=i then(es[i.toNat]?).map .ptr else none):=by
 simp only[qL];cases yq P t with
 |none=>exact(ou P t i _ (fun _=>by simp) (fun _ _ _=>by simp)).trans rfl
 |some e=>simp;cases qN P e<;>rfl
@[simp]theorem zdQ(id off n:Nat)(k:IntKind)(i:Int):qL P Y t (.own id off n) (.v (.int k i))=(do let e <-yq P t;let m <-qN P e;let b <-Y id;if b.e=e/\0<m/\0<=i/\i.toNat<n then some (.ref id (off+i.toNat) 0)else none):=by
 simp only[qL];cases yq P t with
 |none=>exact(ou P t i _ (fun _=>by simp) (fun _ _ _=>by simp)).trans rfl
 |some e=>simp;cases qN P e<;>(try rfl);simp;cases Y id<;>rfl
end
@[simp]theorem RW(P:Program)(Y:Hp)(Z:Nat)(ts:Array TypeId)(x:O):yr P Y Z ts .len [x]=(do let t <-ts[0]?;let y <-KJ P t x;some (y,Y,Z)):=by
 simp only[yr];cases ts[0]? with
 |none=>rfl
 |some t=>simp;cases KJ P t x<;>rfl
@[simp]theorem RX(P:Program)(Y:Hp)(Z:Nat)(ts:Array TypeId)(xs:zb):yr P Y Z ts .min xs=(Lf xs).map fun y=>(y,Y,Z):=rfl
@[simp]theorem RY(P:Program)(Y:Hp)(Z:Nat)(ts:Array TypeId)(xs:zb):yr P Y Z ts .max xs=(Lg xs).map fun y=>(y,Y,Z):=rfl
@[simp]theorem zbO(P:Program)(Y:Hp)(Z:Nat)(ts:Array TypeId)(s x:O):yr P Y Z ts .append [s,x]=(do let t <-ts[0]?;let u <-ts[1]?;jG P Y Z t u s x):=by simp only[yr];cases ts[0]?<;>cases ts[1]?<;>rfl
@[simp]theorem zdR(P:Program)(Y:Hp)(n:Nat)(e t u:TypeId)(i o k:Nat):gw P Y n e t u (.own i o k)=if u=t then view Y n (.own i o k)else none:=rfl
@[simp]theorem ze0(P:Program)(Y:Hp)(n:Nat)(e t u:TypeId)(k:Nat)(es:List zb):gw P Y n e t u (.sl k es)=if u=t then view Y n (.sl k es)else none:=rfl
@[simp]theorem zdS(P:Program)(Y:Hp)(n:Nat)(e t u:TypeId):gw P Y n e t u .nil=if u=t then view Y n .nil else none:=rfl
@[simp]theorem ze1(P:Program)(Y:Hp)(n:Nat)(e t u:TypeId):gw P Y n e t u .em=if u=t then view Y n .em else none:=rfl
@[simp]theorem zdT(P:Program)(Y:Hp)(n:Nat)(e t u:TypeId)(b:ByteArray):gw P Y n e t u (.v (.string b))=if Lh P u=true/\tC P e=true then some (b.data.toList.map fun c=>[.v (.int .u8 c.toNat)])else none:=rfl
@[simp]theorem zdU(P:Program)(Y:Hp)(Z:Nat)(ts:Array TypeId)(x:O):yr P Y Z ts .clear [x]=(do let t <-ts[0]?;KK P Y Z t x):=by simp only[yr];cases ts[0]?<;>rfl
@[simp]theorem zfa(P:Program)(Y:Hp)(Z:Nat)(ts:Array TypeId)(s x:O):yr P Y Z ts .copy [s,x]=(do let t <-ts[0]?;EL P Y Z t s x):=by simp only[yr];cases ts[0]?<;>rfl
attribute [simp] Lf VG Lg VH eV Le yP xt Wu
@[simp]theorem zdV(cs:zb):O.cells (.agg cs)=cs:=rfl
@[simp]theorem zdW(cs:zb):O.cells (.qZ cs)=[.qZ cs]:=rfl
@[simp]theorem zhm(x:Value):O.cells (.v x)=[.v x]:=rfl
@[simp]theorem zdX:O.cells .nil=[.nil]:=rfl
@[simp]theorem zfb:O.cells .em=[.em]:=rfl
@[simp]theorem zfc(s:Nat)(es:List zb):O.cells (.sl s es)=[.sl s es]:=rfl
@[simp]theorem zdY(cs:zb):O.cells (.ptr cs)=[.ptr cs]:=rfl
@[simp]theorem zdZ(i o n:Nat):O.cells (.own i o n)=[.own i o n]:=rfl
@[simp]theorem zd0(i o n:Nat):O.cells (.ref i o n)=[.ref i o n]:=rfl
@[simp]theorem zfd(f:Fn)(a b:zb):O.cells (.fn f a b)=[.fn f a b]:=rfl
@[simp]theorem zfe(x:Value):O.wY (.v x)=true:=rfl
@[simp]theorem zbP:O.wY .nil=true:=rfl
@[simp]theorem zd1:O.wY .em=true:=rfl
@[simp]theorem zd2(s:Nat)(es:List zb):O.wY (.sl s es)=true:=rfl
@[simp]theorem zbQ(cs:zb):O.wY (.ptr cs)=true:=rfl
@[simp]theorem zbR(i o n:Nat):O.wY (.own i o n)=true:=rfl
@[simp]theorem zbS(i o n:Nat):O.wY (.ref i o n)=true:=rfl
@[simp]theorem zd3(f:Fn)(a b:zb):O.wY (.fn f a b)=true:=rfl
@[simp]theorem zbT(cs:zb):O.wY (.agg cs)=false:=rfl
@[simp]theorem zbU(cs:zb):O.wY (.qZ cs)=false:=rfl
attribute [simp] qn z7 zz qm AM.freeze O.flat O.isV O.noOwn
@[simp]theorem RZ(i o n:Nat):O.jz (.own i o n)=true:=rfl
@[simp]theorem zbV(x:Value):O.jz (.v x)=false:=rfl
@[simp]theorem R0:O.jz .nil=false:=rfl
@[simp]theorem zaP:O.jz .em=false:=rfl
@[simp]theorem zaQ(s:Nat)(es:List zb):O.jz (.sl s es)=false:=rfl
@[simp]theorem R1(cs:zb):O.jz (.ptr cs)=false:=rfl
@[simp]theorem R2(i o n:Nat):O.jz (.ref i o n)=false:=rfl
@[simp]theorem zaR(f:Fn)(a b:zb):O.jz (.fn f a b)=false:=rfl
@[simp]theorem yx{α:Type}(f:Nat->α)(k:Nat)(x y:α):zI (zI f k x) k y=zI f k y:=by funext i;simp only[zI];split<;>rfl
@[simp]theorem zd4(P:Program)(Y:Hp)(t:TypeId)(id i j:Nat)(x:O):xp P Y t (.ref id i j) x=(do
  let a <-Y id;let q <-(if a.arr=true then z7 Y x else some (x,Y));let b <-q.2 id;let n <-qN P t;let c <-b.es[i]?
  if q.1.cells.length=n/\j+n<=c.length/\q.1.cells.all O.wY=true then some (zI q.2 id (some ⟨b.e,b.s,b.arr,b.es.set i (yP c j q.1.cells)⟩))else none):=by
 simp only[xp];cases Y id with
 |none=>rfl
 |some a=>
  simp only[Option.bind_eq_bind,zW];generalize (if a.arr=true then z7 Y x else some (x,Y))=o;cases o with
  |none=>rfl
  |some q=>
   obtain⟨y,d⟩:=q;simp only[zW];cases d id with
   |none=>rfl
   |some b=>
    simp only[zW];cases qN P t with
    |none=>rfl
    |some n=>simp only[zW];cases b.es[i]?<;>rfl
@[simp]theorem zhn(x y:Value)(Y:Hp)(Z:Nat):jB (.v y) (.v x) Y Z=(x=y):=by simp[jB]
def ua:O->Int
 | .v (.int _ n)=>n
 |_=>0
@[simp]theorem zd5(k:IntKind)(n:Int):ua (.v (.int k n))=n:=rfl
theorem wM{n:Int}(a:-9223372036854775808<=n)(b:n<=9223372036854775807):IntKind.i64.wrap n=n:=by rw[IntKind.wrap_i64];omega
variable{dr:Prop}
open Classical in
noncomputable def qt {α b:Type} (V:α->zb) (pre:α->Prop) (out:α->b):zb->Option b:=fun args=>
 if h:∃a,args=V a/\pre a then some (out (Classical.choose h))else none
theorem qj{α e:Type}{V:α->zb}{pre:α->Prop}{out:α->e}(d:∀a b,V a=V b->a=b){a:α}(h:pre a):qt V pre out (V a)=some (out a):=by have c:∃b,V a=V b/\pre b:=⟨a,rfl,h⟩;unfold qt;rw[dif_pos c];have:=yz c;rw[<-d _ _ this.1]
theorem qc{α c:Type}{V:α->zb}{pre:α->Prop}{out:α->c}{args:zb}{r:c}(h:qt V pre out args=some r):∃a,args=V a/\pre a/\r=out a:=by
 unfold qt at h;split at h
 ·rename_i b;injection h with h
  have:=yz b;exact⟨_,this.1,this.2,h.symm⟩
 ·cases h
abbrev Yu:=List (Nat×AM.Spec)
def lookup:Yu->Nat->Option AM.Spec
 |[],_=>none
 |(k,s)::l,g=>if g=k then some s else lookup l g
@[simp]theorem ej(k:Nat)(s:AM.Spec)(l:Yu)(g:Nat):lookup ((k,s)::l) g=if g=k then some s else lookup l g:=rfl
def qf(P:Program)(l:Yu):Ctx:=⟨P,lookup l,fun _=>[],fun _=>[],fun _=>false,fun _=>[],fun _=>none⟩
@[simp]theorem zd6(P:Program)(l:Yu)(i:Nat):(qf P l).dyn i=[]:=rfl
@[simp]theorem Rm(P:Program)(l:Yu)(i:Nat)(a:Array Oper)(d:Bool)(st:St)(K:Exit->St->Prop):Zs (qf P l) (.region i a d) st K=gV (qf P l) a a.toList st (vy K):=QD _ i a d st K rfl rfl
def xv(P:Program)(l:Yu)(a:Nat->List (Tmp×Tmp)):Ctx:=⟨P,lookup l,a,fun _=>[],fun _=>false,fun _=>[],fun _=>none⟩
@[simp]theorem zff(P:Program)(l:Yu)(a:Nat->List (Tmp×Tmp)):(xv P l a).P=P:=rfl
@[simp]theorem zho(P:Program)(l:Yu):(qf P l).P=P:=rfl
@[simp]theorem zhp(P:Program)(l:Yu)(Y:Hp)(Z g:Nat)(a b xs:zb):jH (qf P l) Y Z (some (.fn (.func g) a b)) xs=(lookup l g).bind fun s=>s (a++xs++b) Y Z:=by unfold jH qf;simp only;cases lookup l g<;>rfl
@[simp]theorem zfg(P:Program)(l:Yu)(c:Nat->List (Tmp×Tmp))(Y:Hp)(Z g:Nat)(a b xs:zb):jH (xv P l c) Y Z (some (.fn (.func g) a b)) xs=(lookup l g).bind fun s=>s (a++xs++b) Y Z:=by unfold jH xv;simp only;cases lookup l g<;>rfl
def ub(dr:Prop)(P:Program)(q:List Nat):Yu->Prop
 |[]=>True
 |(g,s)::l=>jl dr P g s/\(q.contains g=true->Qt s)/\ub dr P q l
theorem qI{P:Program}{l:Yu}{q:List Nat}(c:P.follows .mixedOrders=true)(h:ub dr P q l):kl dr (qf P l) (fun g=>q.contains g):=by
 have a:∀(l:Yu),ub dr P q l->∀g s,lookup l g=some s->jl dr P g s/\(q.contains g=true->Qt s):=by
  intro l
  induction l with
  |nil=>intro _ g s h;cases h
  |cons x l d=>
   obtain⟨k,sp⟩:=x;rintro⟨e,f,i⟩ g s hs;simp only[ej]at hs;split at hs
   ·rename_i b;injection hs with hs
    subst hs;subst b;exact⟨e,f⟩
   ·exact d i g s hs
 exact⟨fun g s hs=>(a l h g s hs).1,fun g s j hs=>(a l h g s hs).2 j,c,(fun _ _ h=>by cases h),(fun _ _ h=>by cases h)⟩
def AllE(dr:Prop)(P:Program):Yu->Prop
 |[]=>True
 |(g,s)::l=>jl dr P g s/\AllE dr P l
abbrev g0F:Nat->Bool:=fun g=>([]:List Nat).contains g
abbrev Gd(C:Ctx):Prop:=AM.Good C g0F
theorem allE{P:Program}:∀{l:Yu},AllE dr P l->ub dr P [] l
 |[],_=>trivial
 |(_,_)::_,h=>⟨h.1,by simp,allE h.2⟩
theorem qD{P:Program}{l:Yu}(a:P.follows .mixedOrders=true)(h:AllE dr P l):kl dr (qf P l) g0F:=qI (q:=[]) a (allE h)
theorem q8(k:Nat)(h:k<9223372036854775807:=by omega):IntKind.i64.wrap ((k:Int)+1)=(k:Int)+1:=wM (by omega) (by omega)
theorem wN(n:Int)(h:-9223372036854775808<=n/\n<=9223372036854775807:=by omega):IntKind.i64.wrap n=n:=wM h.1 h.2
theorem KW{P:Program}{l:Yu}{q:List Nat}(a:Nat->List (Tmp×Tmp))(b:P.follows .mixedOrders=true)(h:ub dr P q l):kl dr (xv P l a) (fun g=>q.contains g):=
 let g:=qI b h
 ⟨g.spec,g.quiet,g.mixed,(fun _ _ h=>by cases h),(fun _ _ h=>by cases h)⟩
def zfh(r:O)(x:O)(Y:Hp)(_:Nat):Prop:=∃r0,(AM.freeze Y x).map (·.1)=some r0/\ei r0 r
theorem qP(x:O):ei x x:=by
 unfold ei;split
 ·exact⟨rfl,fun j x y b a=>by rw[b]at a;injection a with a;exact .inl a⟩
 ·exact .inl rfl
theorem bf{C:Ctx}{fn:Func}{code:Code}{args:zb}{Y:Hp}{Z:Nat}{r:Option Blk}(a:fn.body=some code)
  (h:Zs C code ⟨kM args,Y,Z⟩ (Xb C.P fn (hG r))):∃x Y' Z',yR C fn args Y Z=some (x,Y',Z')/\hG r x Y' Z':=wB a h
def qR(Y:Hp)(Z:Nat)(e s:Nat)(v:O)(xs:List zb):Prop:=(v=.nil/\xs=[])\/∃id,id<Z/\v=.own id 0 xs.length/\Y id=some ⟨e,s,true,xs⟩
def vB(v:O)(Y:Hp):Hp:=match v with
 | .own id _ _=>zI Y id none
 |_=>Y
theorem qR.nil(Y:Hp)(Z e s:Nat):qR Y Z e s .nil []:=.inl ⟨rfl,rfl⟩
theorem qR.len{P:Program}{Y:Hp}{Z e s:Nat}{v:O}{xs:List zb}{t:TypeId}(h:qR Y Z e s v xs)(a:yq P t=some e):KJ P t v=some (.v (.int .i64 xs.length)):=by rcases h with⟨rfl,rfl⟩|⟨id,_,rfl,_⟩<;>simp[a]
theorem qR.view{Y:Hp}{Z e s:Nat}{v:O}{xs:List zb}(h:qR Y Z e s v xs):view Y s v=some xs:=by rcases h with⟨rfl,rfl⟩|⟨id,_,rfl,h⟩<;>simp[AM.view, *]
theorem qR.jc{P:Program}{Y:Hp}{Z e s a:Nat}{v:O}{xs:List zb}{c z:zb}{t:TypeId}(h:qR Y Z e s v xs)(i:yq P t=some e)(hs:qN P e=some s)(j:vi P e=some a)(k:jk P e=some z)
  (b:z.length=s) (l:0<s) (d:xs.length+1<=maxLen) (f:(xs.length+1)*a<=140737488355328) :
  jG P (zI Y Z (some ⟨e,s,true,[c]⟩)) (Z+1) t t v (.own Z 0 1) =
   some (.own (Z+1) 0 (xs.length+1),zI (vB v (zI Y Z (some ⟨e,s,true,[c]⟩))) (Z+1) (some ⟨e,s,true,xs++[c]⟩),Z+2):=by
 rcases h with⟨rfl,rfl⟩|⟨id,hid,rfl,m⟩
 ·simp at d f;simp[jG,i,hs,j,k,b,l,d,f,AM.view,vB]
 ·have g:¬id=Z:=by omega
  simp[jG,i,hs,j,k,b,l,d,f,AM.view,vB,g,m]
theorem qR.after{Y:Hp}{Z e s:Nat}{v:O}{xs:List zb}{c:zb}{tmp:Option Blk}:qR (zI (vB v (zI Y Z tmp)) (Z+1) (some ⟨e,s,true,xs++[c]⟩)) (Z+2) e s (.own (Z+1) 0 (xs.length+1)) (xs++[c]):=
 .inr ⟨Z+1,by omega,by simp,by simp⟩
theorem qK{Y:Hp}{Z e s:Nat}{v:O}{xs:List zb}(h:qR Y Z e s v xs)(Y':Hp)(id:Nat)(a:∀n,v≠.own id 0 n):vB v Y' id=Y' id:=by
 rcases h with⟨rfl,rfl⟩|⟨k,b,rfl,c⟩
 ·rfl
 ·have:¬id=k:=fun e=>a _ (by rw[e])
  simp[vB,this]
theorem jJ{α c:Type}{f:α->c}(h:∀a b,f a=f b->a=b):∀{xs ys:List α},xs.map f=ys.map f->xs=ys
 |[],[],_=>rfl
 |[],y::ys,e=>by simp at e
 |x::xs,[],e=>by simp at e
 |x::xs,y::ys,e=>by simp at e;rw[h x y e.1,jJ h e.2]
def R3(I:Nat->(Nat->O)->Hp->Nat->Prop)(n k:Nat)(K:Exit->St->Prop)(e:Exit)(st:St):Prop:=match e with
 | .normal=>k+1<=n/\I (k+1) st.σ st.Y st.Z
 |e=>K e st
@[simp]theorem zaS(I:Nat->(Nat->O)->Hp->Nat->Prop)(n k:Nat)(K:Exit->St->Prop)(st:St):R3 I n k K .normal st=(k+1<=n/\I (k+1) st.σ st.Y st.Z):=rfl
@[simp]theorem zfi(I:Nat->(Nat->O)->Hp->Nat->Prop)(n k:Nat)(K:Exit->St->Prop)(st:St):R3 I n k K .ret st=K .ret st:=rfl
@[simp]theorem zd7(I:Nat->(Nat->O)->Hp->Nat->Prop)(n k i:Nat)(K:Exit->St->Prop)(st:St):R3 I n k K (.exit i) st=K (.exit i) st:=rfl
theorem qu{C:Ctx}{b:Code}{st:St}{K:Exit->St->Prop}(I:Nat->(Nat->O)->Hp->Nat->Prop)(n:Nat)(j:I 0 st.σ st.Y st.Z)
  (a:∀k σ Y Z,k<=n->I k σ Y Z->Zs C b ⟨σ,Y,Z⟩ (R3 I n k K)):Zs C (.loop b) st K:=by
 have f:∀d k st,n-k=d->k<=n->I k st.σ st.Y st.Z->Zs C (.loop b) st K:=by
  intro d
  induction d with
  |zero=>
   intro k st hd g i;rw[qx];refine(a k st.σ st.Y st.Z g i).mono fun e c h=>?_
   cases e
   case normal=>have:=h.1;omega
   all_goals exact h
  |succ d l=>
   intro k st hd g i;rw[qx];refine(a k st.σ st.Y st.Z g i).mono fun e c h=>?_
   cases e
   case normal=>exact l (k+1) c (by omega) h.1 h.2
   all_goals exact h
 exact f _ 0 st rfl (jS _) j
end Go.AM
namespace Go.AM
open Go.RowKit Go.Sort Go.Proofs
variable{dr:Prop}
def Wa(xs:List zb)(i:Nat):zb:=xs.getD (if i<xs.length then i else 0) []
theorem kB{xs:List zb}(h:xs≠[])(i:Nat):Wa xs i∈xs:=by
 have b:0<xs.length:=KF.2 h;have a:(if i<xs.length then i else 0)<xs.length:=by split<;>assumption
 unfold Wa;rw[Jv,zm a];exact zo _
theorem LV{xs:List zb}{i:Nat}(h:i<xs.length):Wa xs i=xs[i]:=by unfold Wa;rw[zl h,Jv,zm h];rfl
def hK(cf:zb->zb->Int)(xs:List zb)(i j:Nat):Int:=cf (Wa xs i) (Wa xs j)
def Zt(cf:zb->zb->Int)(xs:List zb):Array Nat:=pdq (ltOf (hK cf xs)) (Array.range xs.length) 0 xs.length (Lib.bitLen xs.length) true true
def Zf(cf:zb->zb->Int)(xs:List zb):List zb:=if xs.length=0 then[]else(Zt cf xs).toList.map (Wa xs)
structure Yl (cf:List O->List O->Int) (xs:List (List O)):Prop where
 irrefl:∀x∈xs,0<=cf x x
 trans:∀x∈xs,∀y∈xs,∀z∈xs,cf x y<0->cf y z<0->cf x z<0
 ntrans:∀x∈xs,∀y∈xs,∀z∈xs,0<=cf x y->0<=cf y z->0<=cf x z
section
variable{cf:zb->zb->Int}{xs:List zb}
theorem ES{i j:Nat}(h:ltOf (hK cf xs) i j=true):cf (Wa xs i) (Wa xs j)<0:=jb h
theorem hU{i j:Nat}(h:ltOf (hK cf xs) i j=false):0<=cf (Wa xs i) (Wa xs j):=Int.not_lt.1 (of_decide_eq_false h)
theorem LW{i j:Nat}(h:cf (Wa xs i) (Wa xs j)<0):ltOf (hK cf xs) i j=true:=cB h
theorem ET{i j:Nat}(h:0<=cf (Wa xs i) (Wa xs j)):ltOf (hK cf xs) i j=false:=zbv (Int.not_lt.2 h)
theorem Yl.swo(h:Yl cf xs)(a:xs≠[]):SWO (ltOf (hK cf xs)) where
 irrefl i:=ET (h.irrefl _ (kB a i))
 trans i j k b c:=LW (h.trans _ (kB a i) _ (kB a j) _ (kB a k) (ES b) (ES c))
 ntrans i j k b c:=ET (h.ntrans _ (kB a i) _ (kB a j) _ (kB a k) (hU b) (hU c))
theorem JJ(h:Yl cf xs)(a:xs≠[]):PermIn 0 xs.length (Array.range xs.length) (Zt cf xs)/\SortedIn (ltOf (hK cf xs)) 0 xs.length (Zt cf xs):=
 pdq_sorts (ltOf (hK cf xs)) (h.swo a) (Array.range xs.length) 0 xs.length (Lib.bitLen xs.length) true true (jS _) (by simp) (Or.inl rfl)
theorem JK(h:Yl cf xs)(a:xs≠[]):(Zt cf xs).size=xs.length:=by have:=(JJ h a).1.1;simpa using this
theorem WW(h:Yl cf xs):(Zf cf xs).Perm xs:=by
 unfold Zf;split
 ·rename_i a;have:xs=[]:=qQ.1 a;subst this;exact .refl _
 ·rename_i a;have c:xs≠[]:=by rintro rfl;simp at a
  obtain⟨k,_,d⟩:=(JJ h c).1;have hs:=JK h c;have f:(Zt cf xs).extract 0 xs.length=Zt cf xs:=by rw[<-hs];simp
  have g:(Array.range xs.length).extract 0 xs.length=Array.range xs.length:=by
   conv=>lhs;rw[show xs.length=(Array.range xs.length).size by simp]
   simp
  rw[f,g]at d;have e:=d.map (Wa xs);have j:(Array.range xs.length).toList.map (Wa xs)=xs:=by
   apply List.ext_getElem
   ·simp
   ·intro i l b;simp[LV b]
  rw[j]at e;exact e
theorem JL(h:Yl cf xs):(Zf cf xs).Pairwise (fun x y=>0<=cf y x):=by
 unfold Zf;split
 ·exact List.Pairwise.nil
 ·rename_i f;have c:xs≠[]:=by rintro rfl;simp at f
  have hs:=JK h c;have g:=(JJ h c).2;rw[F5,List.pairwise_iff_getElem];intro i j d a b;have e:=g i j (jS _) b (by simp at a;omega);simp at d a;rw[zaq _ i d,zaq _ j a]at e;simpa using hU e
theorem JM(h:Yl cf xs):(Zf cf xs).length=xs.length:=(WW h).length_eq
end
def rA(P:Program)(f k:Nat):Prop:=
 (∀(α:Type) [Inhabited α] (V:α->List Value) (_:∀x,(V x).length=k) (_:∀x,∀v∈V x,v.oneCell'=true) (cf:α->α->Int) (_:SWO (ltOf cf)) (g:Nat) (blk off cap:Nat) (d:Array α) (w:World)
  (_:∀args w,(callFunc g args).run P w=.ok (.enter g args) w) (_:CmpLays P g #[] V k cf blk off d.size w) (_:HoldsK V k w blk off d) (_:blk<w.heap.size) (_:d.size<4611686018427387904),
  Calls P f #[.slice (some ⟨blk,off,none⟩) d.size cap,.func (.func g) #[] #[]] w fun e a=>
   e=.returned (.tuple #[])/\∃n b,a=sortWorldK V k w blk off n (pdq (ltOf cf) d 0 d.size (Lib.bitLen d.size) true true) b) /\
 ∀(p:Option Addr) (cap:Nat) (c:Value) (w:World),Calls P f #[.slice p 0 cap,c] w fun e a=>e=.returned (.tuple #[])/\a=w
def EU(P:Program)(g k:Nat)(cf:zb->zb->Int)(dom:zb->Prop):Prop:=
 (∀args w,(callFunc g args).run P w=.ok (.enter g args) w)/\∃a,zh P g a/\∀x y,x.length=k->y.length=k->dom x->dom y->a [.agg x,.agg y] (fun _=>none) 0=some (.v (.int .i64 (cf x y)),fun _=>none,0)
open Classical in
noncomputable def Y9 (k:Nat) (g:Nat) (cf:zb->zb->Int) (dom:zb->Prop):AM.Spec:=fun args Y Z=>
 match args with
 |[.nil,.fn _ _ _]=>some (.qZ [],Y,Z)
 |[.own id off n,.fn (.func a) [] []]=>if n=0 then some (.qZ [],Y,Z)else match Y id with
  |some b=>if a=g/\b.arr=true/\b.s=k/\off+n<=b.es.length/\n<4611686018427387904/\Yl cf ((b.es.drop off).take n)/\∀x∈(b.es.drop off).take n,dom x then
    some (.qZ [],zI Y id (some ⟨b.e,b.s,b.arr,b.es.take off++Zf cf ((b.es.drop off).take n)++b.es.drop (off+n)⟩),Z)else none
  |none=>none
 |_=>none
theorem CO{W a:World}(h:Fr True W (fun _=>False) a):∃q d,a=grow (W.drewN q) d:=by
 refine⟨a.drawn-W.drawn,a.heap.extract W.heap.size a.heap.size,?_⟩;obtain⟨b,f,e,p,c⟩:=a;obtain⟨g,j,k,o,l,m⟩:=h;simp only at g j k o l m;unfold grow World.drewN;simp only[World.mk.injEq];refine⟨?_,j,by have:=l trivial;omega,g,k⟩;apply Array.ext_getElem?;intro i;by_cases n:i<W.heap.size
 ·rw[m i n (fun h=>h),BK n]
 ·rw[Array.getElem?_append_right (by omega),Array.getElem?_extract];by_cases r:i<b.size
  ·rw[zl (by omega)];congr 1;omega
  ·rw[zj (by omega),Array.getElem?_eq_none (by omega)]
theorem kd.grown{P:Program}{Y:Hp}{Z:Nat}{S:Nat->Prop}{G:Nat->GI}{w d:World}(h:Inv P w S G Y Z)(c:Fr dr w (fun _=>False) d):kd dr P Y Z S G w Y Z S G d:=by
 have e:∀b,b<w.heap.size->d.heap[b]?=w.heap[b]?:=fun b a=>c.block b a (fun h=>h)
 refine⟨⟨fun b a=>wV (h.st b a) c.size,h.top,fun id b a=>?_,h.apart,h.inj,h.aH.mono fun b a=>⟨a,e b (h.st b a)⟩⟩,zk _,fun _ _=>rfl,fun _ a=>a,fun _ a=>.inl a,fun id b a=>.inl ⟨id,b,a,rfl⟩,⟨c.os,c.tape,c.output,c.size,c.drawn,fun k g _=>c.block k g (fun h=>h)⟩⟩;have f:=h.live id b a;exact f.mono (fun b a=>⟨a,e b (h.st b a)⟩) (zk _) (fun _ _=>rfl) (e _ f.lt)
theorem JN{α:Type}[Inhabited α](V:α->List Value)(k:Nat)(w:World)(blk off m:Nat)(d:Array α)(a:Array Obj):Fr dr (putRowK V k w blk off d) (fun _=>False) (sortWorldK V k w blk off m d a):=by
 refine⟨rfl,rfl,rfl,?_,fun _=>?_,fun b c _=>?_⟩
 ·show _<=(_++a).size;rw[Array.size_append];exact Nat.le_add_right _ _
 ·exact Nat.le_add_right _ _
 ·exact BK c
theorem QQ{α:Type}[Inhabited α](V:α->List Value)(k:Nat)(w:World)(blk off:Nat)(d:Array α){cur:Array Value}{e:TypeId}(h:w.heap[blk]?=some (.cells cur e (0,0))) :
  putRowK V k w blk off d=w.setRow blk (putCells (fun v:Value=>v) off (flatK V k d) cur):=by
 unfold putRowK putRow mapBlock World.setRow;congr 1;apply Array.ext_getElem?;intro i;simp only[Zz];by_cases a:blk=i
 ·subst a;simp only[qh,h,zY,onCells];rfl
 ·simp[a]
section
variable{P:Program}{f k g:Nat}{cf:zb->zb->Int}{dom:zb->Prop}
theorem KX(h0:0<k)(hfn:∃fn,P.funcs[f]?=some fn/\(fn.name== "runtime.NumGoroutine")=false/\fn.body.isNone=false)(hso:rA P f k)(hco:EU P g k cf dom):jl dr P f (Y9 k g cf dom):=by
 refine⟨hfn,?_⟩;intro args Y Z r Y' Z' h w S G vs R hz;unfold Y9 at h;split at h
 ·injection h with h;injection h with e1 h;injection h with e2 e3;subst e1;subst e2;subst e3;obtain⟨u,us,rfl,hu,z⟩:=hz.jr;obtain⟨v,us,rfl,hv,z⟩:=z.jr;obtain rfl:=z.Jw;obtain rfl:=hu.xV;refine(hso.2 none 0 v w).mono fun e w' hh=>?_
  obtain⟨rfl,rfl⟩:=hh;exact⟨_,_,_,rfl,.refl R,kA⟩
 ·rename_i id off n g';obtain⟨u,us,rfl,hu,z⟩:=hz.jr;obtain⟨v,us,rfl,hv,z⟩:=z.jr;obtain rfl:=z.Jw;have o:=hu.xl;obtain⟨cap,g1,g2,g3,g4,rfl⟩:=hu.vO;split at h
  ·rename_i hn0;subst hn0;injection h with h
   injection h with e1 h;injection h with e2 e3;subst e1;subst e2;subst e3;refine(hso.2 _ cap v w).mono fun e w' hh=>?_
   obtain⟨rfl,rfl⟩:=hh;exact⟨_,_,_,rfl,.refl R,kA⟩
  rename_i hn0;split at h
  case h_2=>cases h
  rename_i b hb;split at h
  case isFalse=>cases h
  rename_i hc;obtain⟨rfl,harr,hbk,W,hn,hW,M⟩:=hc;injection h with h
  injection h with e1 h;injection h with e2 e3;subst e1;subst e2;subst e3;have d:=R.live id b hb;obtain⟨us,ts,rfl,hus,hts,_,_⟩:=hv.td;obtain rfl:us=#[]:=Array.eq_empty_of_size_eq_zero (by simpa using hus.symm);obtain rfl:ts=#[]:=Array.eq_empty_of_size_eq_zero (by simpa using hts.symm);have A:(G id).s=k:=by rw[<-d.bs];exact hbk
  obtain⟨cur,c1,c2,c3⟩:=d.row o;rw[A]at c3 g4;obtain⟨xs,N⟩:=yb ((b.es.drop off).take n);rw[N]at hW M;have H:xs.length=n:=by rw[<-N];simp;omega
  have I:xs≠[]:=by rintro rfl;simp at H;omega
  have B:∀x∈xs,x.length=k:=fun x I=>by rw[<-A];rw[<-N]at I;exact d.len o x (List.mem_of_mem_drop (zgX I))
  have hxg:∀i,i<n->xs[i]?=b.es[off+i]?:=fun i R=>by rw[<-N,yu,zl R,yd]
  let ix:Nat->Nat:=fun i=>if i<n then i else 0
  have hix:∀i,ix i<n:=fun i=>by show(if i<n then i else 0)<n;split<;>omega
  have hel:∀i,xs[ix i]?=some (Wa xs i):=fun i=>by
   unfold Wa;rw[Jv];show xs[if i<n then i else 0]?=_;have:(if i<n then i else 0)<xs.length:=by rw[H];exact hix i
   rw[H,zm this];rfl
  let V:Nat->List Value:=fun i=>(List.range k).map fun j=>(cur[(off+ix i)*k+j]?).getD undef
  have hek:∀x,(V x).length=k:=fun x=>by simp[V]
  have l:∀i j C,(Wa xs i)[j]?=some C->∃u,cur[(off+ix i)*k+j]?=some u/\(V i)[j]?=some u/\wG w S C u/\u.oneCell'=true:=fun i j C X=>by
   have J:j<k:=by have:=(zd.1 X).1;rw[B _ (kB I i)]at this;exact this
   obtain⟨u,T,L⟩:=c3 (off+ix i) j (Wa xs i) C (by rw[<-hxg _ (hix i)];exact hel i) X;rw[harr]at L;refine⟨u,T,?_,L.1 rfl,L.2.2⟩;simp[V,J,T]
  have E:∀i j,j<k->∃C,(Wa xs i)[j]?=some C:=fun i j X=>by
   have:j<(Wa xs i).length:=by rw[B _ (kB I i)];exact X
   exact⟨_,zm this⟩
  have h1c:∀x,∀v∈V x,v.oneCell'=true:=fun x v hv=>by obtain⟨j,X,rfl⟩:=zZ.1 hv;obtain⟨C,hpv⟩:=E x j (yK.1 X);obtain⟨u,T,_,_,q4⟩:=l x j C hpv;rw[T];exact q4
  have hblk:(G id).g<w.heap.size:=d.lt;have F:∀m D (p:Array Nat) K,S K->(sortWorldK V k w (G id).g (off*k) m p D).heap[K]?=w.heap[K]?:=fun m D p K a=>by
   have Q:K<(putRowK V k w (G id).g (off*k) p).heap.size:=by rw[QQ V k w _ _ p c1,size_setRow];exact R.st K a
   rw[(JN (dr:=True) V k w (G id).g (off*k) m p D).block K Q (fun h=>h),QQ V k w _ _ p c1];exact setRow_other _ _ _ _ fun e=>R.apart id b hb (e ▸ a)
  have zg0:∀m D (p:Array Nat),w.heap.size<=(sortWorldK V k w (G id).g (off*k) m p D).heap.size:=fun m D p=>by have:=(JN (dr:=True) V k w (G id).g (off*k) m p D).size;rw[QQ V k w _ _ p c1,size_setRow]at this;exact this
  obtain⟨eg,spec,hsp,PW⟩:=hco;have hcmp:CmpLays P g' #[] V k (hK cf xs) (G id).g (off*k) n w:=by
   intro m D p hdk x y;have hagg:∀x,wG (sortWorldK V k w (G id).g (off*k) m p D) S (.agg (Wa xs x)) (.agg (V x).toArray):=fun x=>by
    refine .agg (by simp[hek,B _ (kB I x)]) fun j C u X hu=>?_
    obtain⟨u',_,L,q3,_⟩:=l x j C X;have:u=u':=by simpa[L]using hu.symm
    subst this;exact q3.mono fun K a=>⟨a,F m D p K a⟩
   have:=hsp.2 _ _ _ _ _ _ (PW _ _ (B _ (kB I x)) (B _ (kB I y)) (M _ (kB I x)) (M _ (kB I y))) (sortWorldK V k w (G id).g (off*k) m p D) S G [.agg (V x).toArray,.agg (V y).toArray]
    ⟨fun K a=>wV (R.st K a) (zg0 m D p),fun _ _ h=>(nomatch h),fun _ _ h=>(nomatch h),fun _ _ h=>(nomatch h),fun _ _ _ _ h=>(nomatch h),R.aH.mono fun K a=>⟨a,F m D p K a⟩⟩ (.cons (.c (hagg x)) (.cons (.c (hagg y)) .nil))
   refine this.mono fun e w' hh=>?_
   obtain⟨v,S',G',rfl,st,hv⟩:=hh;obtain⟨rfl,_⟩:=hv.wZ;refine⟨rfl,CO ⟨st.fr.os,st.fr.tape,st.fr.output,st.fr.size,st.fr.drawn,fun k hk _=>st.fr.block k hk ?_⟩⟩;rintro⟨_,_,h,_⟩;cases h
  have hH:HoldsK V k w (G id).g (off*k) (Array.range n):=by
   intro t ht;have ht':t<n*k:=by simpa using ht
   have hd:=Nat.div_add_mod t k;have hm:=Nat.mod_lt t h0;have hdl:t/k<n:=(Nat.div_lt_iff_lt_mul h0).2 ht';rw[get_flatK _ _ _ _ (by simpa using ht')];have hr:(Array.range n)[t/k]! = t/k:=by rw[zaq _ _ (by simpa using hdl)];simp
   obtain⟨C,hpv⟩:=E (t/k) (t % k) hm;obtain⟨u,T,L,_,_⟩:=l (t/k) (t % k) C hpv;have hixe:ix (t/k)=t/k:=zl hdl;constructor
   ·rw[cell_of_row w _ _ cur _ _ c1,hr,List.getElem!_eq_getElem?_getD,L];rw[hixe]at T;have:off*k+t=(off+t/k)*k+t % k:=by rw[yV,cA (t/k) k];omega
    rw[this,T];rfl
   ·simp[World.frozen?,c1]
  have hsw:=hW.swo I;have key:=hso.1 Nat V hek h1c (hK cf xs) hsw g' (G id).g (off*k) cap (Array.range n) w eg (by simpa using hcmp) hH hblk (by simpa using hn);have es1:(Array.range n).size=n:=by simp
  rw[es1]at key;rw[A];refine key.mono fun e w' hh=>?_
  obtain⟨rfl,m,D,rfl⟩:=hh;have hidx:pdq (ltOf (hK cf xs)) (Array.range n) 0 n (Lib.bitLen n) true true=Zt cf xs:=by unfold Zt;rw[H]
  rw[hidx];have hds:(Zt cf xs).size=n:=by rw[JK hW I,H]
  have hsl:(Zf cf xs).length=n:=by rw[JM hW,H]
  have hpl:off+(Zf cf xs).length<=b.es.length:=by rw[hsl];exact W
  have hsg:∀i,i<n->(Zf cf xs)[i]?=some (Wa xs (Zt cf xs)[i]!):=fun i hin=>by unfold Zf;rw[zj (by omega),qq,Array.getElem?_toList,zaq _ i (by omega),jf (by omega)];rfl
  refine⟨_,S,G,rfl,?_,kA⟩;rw[N];have I6:=kd.set (dr:=dr) R hb o (putCells (fun v:Value=>v) (off*k) (flatK V k (Zt cf xs)) cur) (b.es.take off++Zf cf xs++b.es.drop (off+n)) (by simp[putCells,c2])
   (fun c hc=>by
    rw[z8]at hc;rcases wy.1 hc with hc|hc
    ·exact d.len o c (zgX hc)
    rcases wy.1 hc with hc|hc
    ·rw[A];exact B c ((WW hW).mem_iff.1 hc)
    ·exact d.len o c (List.mem_of_mem_drop hc))
   (by have:=QO b.es (Zf cf xs) off hpl;rw[hsl]at this;rw[this];exact d.fit o)
   (fun i j c C q U=>by
    have hspl:=QC b.es (Zf cf xs) off i hpl;rw[hsl]at hspl;rw[hspl]at q;rw[A];split at q
    ·rename_i hin;rw[hsg _ (by omega)]at q;injection q with q
     subst q;have J:j<k:=by have:=(zd.1 U).1;rw[B _ (kB I _)]at this;exact this
     obtain⟨u,T,L,q3,q4⟩:=l _ j C U;refine⟨u,?_,fun _=>q3,.c q3,q4⟩;obtain⟨i',rfl⟩:∃i',i=off+i':=⟨i-off,by omega⟩;have e1:off+i'-off=i':=by omega
     rw[e1]at L;have e2:(off+i')*k+j=off*k+(i'*k+j):=by rw[yV];omega
     have Q:i'*k+j<n*k:=ZZ (by omega) J;have hcl:off*k+(i'*k+j)<cur.size:=by rw[c2];have:=d.fit o;rw[A]at this;have h5:(off+n)*k<=b.es.length*k:=qA k W;rw[yV]at h5;omega
     rw[e2];unfold putCells;rw[Array.getElem?_mapIdx,jf hcl];simp only[zY,size_flatK,hds];rw[zl ⟨by omega,by omega⟩,show off*k+(i'*k+j)-off*k=i'*k+j by omega,get_flatK _ _ _ _ (by rw[hds];exact Q)];have e3:(i'*k+j)/k=i':=by rw[cA,Nat.mul_add_div h0,Nat.div_eq_of_lt J];rfl
     have e4:(i'*k+j) % k=j:=by rw[cA,Nat.mul_add_mod,fF J]
     rw[e3,e4,List.getElem!_eq_getElem?_getD,L];rfl
    ·rename_i hin;obtain⟨u,T,L⟩:=c3 i j c C q U;refine⟨u,?_,L⟩;have J:j<k:=by have:=(zd.1 U).1;rw[d.len o c (zE q),A]at this;exact this
     unfold putCells;rw[Array.getElem?_mapIdx,T];simp only[zY,size_flatK,hds];rw[zj];rintro⟨a1,a2⟩;apply hin;constructor
     ·apply Nat.not_lt.1;intro Q;have:(i+1)*k<=off*k:=qA k Q;rw[yV]at this;omega
     ·apply Nat.not_le.1;intro hle;have:(off+n)*k<=i*k:=qA k hle;rw[yV]at this;omega)
  rw[<-QQ V k w _ _ _ c1]at I6;exact I6.trans (kd.grown I6.inv (JN V k w (G id).g (off*k) m (Zt cf xs) D))
 ·cases h
end
end Go.AM
namespace Go.AM
variable{dr:Prop}
variable{dr:Prop}
section
variable{C:Ctx}{pf:FuncId->Bool}{N:Nat}
def Wp(dr:Prop)(C:Ctx)(N:Nat)(c:Code)(st:St)(K:Exit->St->Prop):Prop:=
 ∀(d:World) (f L:Nat->Prop) (g:Nat) (h:Nat->GI) (n0:Nat) (a:Act) (w:World) (Q:Exit->Act->World->Prop),n0<=d.heap.size->fG dr C.P d f L N g h n0 st a w ->
  (∀e b i j,K e b->fG dr C.P d f L N g h n0 b i j->Q e i j)->c.wpIn Fence.wide 0 C.P Q a w
theorem Wp.of(b:kl dr C pf){c:Code}{st:St}{K:Exit->St->Prop}(h:Zs C c st K)(f:vj pf C.dyn C.I5 C.bk N c=true:=by kernel_rfl):Wp dr C N c st K:=by obtain⟨e,d,i,j⟩:=h;intro k l L m n n0 a w Q o hs p;exact gX b.spec b.quiet b.box b.iter b.mixed c f Fence.wide 0 (.inl rfl) (.inl rfl) k l L m n n0 st d e a w Q o i hs fun q r g=>p e d q r j g
theorem Wp.mono{c:Code}{st:St}{K f:Exit->St->Prop}(h:Wp dr C N c st K)(g:∀e b,K e b->f e b):Wp dr C N c st f:=
 fun i j L k l n0 a w Q m hs n=>h i j L k l n0 a w Q m hs fun e b o p d=>n e b o p (g e b d)
def EV(dr:Prop)(C:Ctx)(N:Nat)(y:Code)(K:Exit->St->Prop)(e:Exit)(st:St):Prop:=match e with
 | .normal=>Wp dr C N y st K
 |e=>K e st
theorem Wp.seq{x y:Code}{st:St}{K:Exit->St->Prop}(h:Wp dr C N x st (EV dr C N y K)):Wp dr C N (.seq x y) st K:=by
 intro c d L f g n0 a w Q i hs j;refine wpIn_seq (h c d L f g n0 a w _ i hs fun e l m n k b=>?_);cases e<;>first
  |exact k c d L f g n0 m n Q i b j
  |exact j _ _ _ _ k b
theorem Wp.block{id:Nat}{b:Code}{st:St}{K:Exit->St->Prop}(h:Wp dr C N b st (Q9 id K)):Wp dr C N (.block id b) st K:=by
 intro j k L l m n0 a w Q n hs f;refine wpIn_block (h j k L l m n0 a w _ n hs fun e o p q d c=>?_);cases e with
 |exit i=>
  unfold Q9 at d;unfold Exit.inBlock;simp only at d⊢;split at d
  ·rename_i g;rw[zl g];exact f _ _ _ _ d c
  ·rename_i g;rw[zj g];exact f _ _ _ _ d c
 |_=>exact f _ _ _ _ d c
theorem Wp.cond{c:Operand}{x y:Code}{st:St}{K:Exit->St->Prop}{b:Bool}(e:get st.σ c=some (.v (.bool b)))(h:Wp dr C N (if b=true then x else y) st K):Wp dr C N (.cond c x y) st K:=by intro f g L i j n0 a w Q k hs l;obtain⟨S,G,d⟩:=hs;obtain⟨m,_⟩:=(Yp d.vR e).wZ;exact wpIn_cond m (h f g L i j n0 a w Q k ⟨S,G,d⟩ l)
def rB(I:Nat->St->Prop)(n:Nat)(K:Exit->St->Prop)(e:Exit)(st:St):Prop:=match e with
 | .normal=>∃m,m<n/\I m st
 |e=>K e st
theorem Wp.loop{b:Code}{st:St}{K:Exit->St->Prop}(I:Nat->St->Prop)(n:Nat)(p:I n st)(h:∀n st,I n st->Wp dr C N b st (rB I n K)):Wp dr C N (.loop b) st K:=by
 intro i j L l o n0 a w Q q hs r;refine wpIn_loop_rounds (n+1) ?_;have f:∀(k n:Nat) (st:St) (a:Act) (w:World),n<k->I n st->fG dr C.P i j L N l o n0 st a w->Code.roundsIn Fence.wide 0 C.P b Q k a w:=by
  intro k
  induction k with
  |zero=>intro n st a w s;omega
  |succ k t=>
   intro n st a w s u hs;rw[roundsIn_succ];refine h n st u i j L l o n0 a w _ q hs fun e g v x c d=>?_
   cases e with
   |normal=>obtain⟨m,z,y⟩:=c;exact t m g v x (by omega) y d
   |_=>exact r _ _ _ _ c d
 exact f _ n st a w (by omega) p hs
def kJ(dr:Prop)(C:Ctx)(N:Nat)(c:Array Oper)(l:List Nat)(st:St)(K:St->Prop):Prop:=
 ∀(d:World) (e L:Nat->Prop) (f:Nat) (g:Nat->GI) (n0:Nat) (a:Act) (w:World) (Q:Exit->Act->World->Prop),fG dr C.P d e L N f g n0 st a w ->
  (∀b h i,K b->fG dr C.P d e L N f g n0 b h i->Q .normal h i)->wpOpsIn Fence.wide 0 C.P c Q l a w
theorem Wp.region{id:Nat}{b:Array Oper}{st:St}{K:Exit->St->Prop}(h:kJ dr C N b (List.range b.size) st (vy K)):Wp dr C N (.region id b false) st K:=
 fun e f L g i n0 a w Q _ hs j=>wpIn_region (h e f L g i n0 a w Q hs fun c k l m d=>j .normal c k l m d)
theorem kJ.nil{b:Array Oper}{st:St}{K:St->Prop}(h:K st):kJ dr C N b [] st K:=fun d e L f g n0 a w Q hs c=>c st a w h hs
theorem kJ.cons(J:kl dr C pf){k:Array Oper}{i:Nat}{o:Oper}{l:List Nat}{st q:St}{K:St->Prop}(M:k[i]?=some o)(hd:∀d,o.dst=some d->d<N)(j:yQ C k o st=some q)(h:kJ dr C N k l q K):kJ dr C N k (i::l) st K:=by
 intro r s L t u n0 a w Q hs z;simp only[wpOpsIn,M];obtain⟨S,G,m⟩:=hs;unfold yQ at j;rw[bb m.vR];split at j
 ·rename_i A;rw[zl A];split at j
  ·rename_i x Y Z n;injection j with j
   subst j;have B:∀c,o.op≠.defer c:=by intro c D;rw[D]at n;simp[zS]at n
   refine⟨fun f _=>trivial,?_⟩;rw[Oper.semAt_eq _ _ _ B];have E:=aW J.spec m.inv (a:=a.eval) (fun y T P=>Yp m.vR P) (o:=o) n;rcases E with⟨v,F,S',G',p,H,I⟩|⟨g,vs,p,D⟩
   ·have b:=h r s L t u n0 _ F Q ⟨S',G',m.step H I hd⟩ z;rcases p with p|⟨p,rfl⟩
    ·rw[p];exact b
    ·rw[p];exact b
   ·rw[p];refine⟨fun h=>by simp[Fence.wide]at h,Xl.2 (D.mono fun e F R=>?_)⟩;obtain⟨v,S',G',rfl,H,I⟩:=R;exact h r s L t u n0 _ F Q ⟨S',G',m.step H I hd⟩ z
  ·cases j
 ·rename_i A;rw[zj A];injection j with j
  subst j;exact⟨fun f _=>trivial,h r s L t u n0 _ w Q ⟨S,G,m.step (.refl m.inv) kA hd⟩ z⟩
end
section
variable{P:Program}{w:World}{S:Nat->Prop}{G:Nat->GI}{Y:Hp}{Z:Nat}
end
section
variable{C:Ctx}{pf:Nat->Bool}{f:FuncId}{fn:Func}{code:Code}
theorem uc{st:St}{a:Act}{w:World}{S:Nat->Prop}{G:Nat->GI}(l:Inv C.P w S G st.Y st.Z)(f:∀t,qg w S G st.Z (st.σ t) (a.tmps.getD t undef)){r:O}(h:xt C.P fn st=some r):∃v,(results fn a.tmps).run C.P w=.ok v w/\qg w S G st.Z r v:=by
 unfold xt at h;have go:∀xs,wK (fn.results.toList.map (Wu C.P st))=some xs->r=(match xs with|[x]=>x|xs=>.qZ xs)->∃v,(results fn a.tmps).run C.P w=.ok v w/\qg w S G st.Z r v:=by
  intro xs g b;obtain⟨us,m,c⟩:=YR l f g;have e:(results fn a.tmps).run C.P w=.ok (if h:us.toArray.size=1 then us.toArray[0]else .tuple us.toArray) w:=by unfold results;rw[Array.mapM_eq_mapM_toList];simp only[vr,Sem.run_map];erw [m];rfl
  refine⟨_,e,?_⟩
  match xs,c,b with
  |[],c,b=>rw[c.Jw];subst b;exact .qZ rfl (by simp)
  |[y],c,b=>obtain⟨u,rfl,i⟩:=VJ c;subst b;simpa using i
  |y::z::ys,c,b=>have k:=c.1;subst b;rw[dif_neg (by simp at k⊢;omega)];exact .qZ (by simpa using k) (fun j n u o i=>c.2 j n u o (by simpa using i))
 split at h
 ·rename_i y p;injection h with h
  exact go [y] p h.symm
 ·rename_i xs d g;injection h with h
  refine go xs g ?_;rw[<-h]
  match xs,d with
  |[],_=>rfl
  |[y],d=>exact(d y rfl).elim
  |y::z::ys,_=>rfl
 ·cases h
theorem Yv(q:C.P.funcs[f]?=some fn)(s:fn.body=some code){args:zb}{Y:Hp}{Z:Nat}{R:O->Hp->Nat->Prop}(U:Wp dr C fn.ntmps code ⟨kM args,Y,Z⟩ (Xb C.P fn R))
  {w:World} {S:Nat->Prop} {G:Nat->GI} {vs:List Value} (W:Inv C.P w S G Y Z) (u:Zip (qg w S G Z) args vs) (hn:args.length<=fn.ntmps) :
  Calls C.P f vs.toArray w fun e i=>∃x Y' Z' v S' G',R x Y' Z'/\e=.returned v/\kd dr C.P Y Z S G w Y' Z' S' G' i/\qg i S' G' Z' x v:=by
 refine Xl.1 (callsIn_of_wp_marks (n:=0) q s trivial ?_);have m:fG dr C.P w S (jv Y G) fn.ntmps Z G w.heap.size ⟨kM args,Y,Z⟩ {tmps:=vs.toArray++Array.replicate (fn.ntmps-vs.toArray.size) undef,defers:=[]} w:=by
  refine⟨S,G,W,fun t=>?_,?_,.nil (zk _),fun _ h=>h,fun _ h=>.inl h,fun id b d=>.inl ⟨id,b,d,rfl⟩,Fr.refl _ _,zk _,fun _ _=>rfl⟩
  ·have y:vs.length=args.length:=u.1.symm;unfold kM;by_cases X:t<args.length
   ·have l:args[t]?=some args[t]:=zm X;have N:vs[t]?=some (vs[t]'(by omega)):=zm (by omega);have h3:=u.2 t _ _ l N;have z:(vs.toArray++Array.replicate (fn.ntmps-vs.toArray.size) undef)[t]?=vs[t]?:=by rw[BK (by simpa using(by omega:t<vs.length))];simp
    simp only[l,vx];rw[wU,z,N];exact h3
   ·have l:args[t]?=none:=qY (by omega);have z:(vs.toArray++Array.replicate (fn.ntmps-vs.toArray.size) undef).getD t undef=undef:=by rw[wU,Array.getElem?_append_right (by simpa using(by omega:vs.length<=t)),Qs];split<;>rfl
    simp only[l,Option.getD_none];rw[z];exact kA
  ·have y:vs.length=args.length:=u.1.symm;simp;omega
 refine U w S (jv Y G) Z G w.heap.size _ w _ (zk _) m fun e st A Q c B=>?_
 obtain⟨S',G',a⟩:=B;obtain⟨hd0,T,E,F,g⟩:=a.defers;have H:(e=.normal\/e=.ret)/\∃r,xt C.P fn st=some r/\R r st.Y st.Z:=by
  cases e<;>first
   |exact⟨.inl rfl,c⟩
   |exact⟨.inr rfl,c⟩
   |exact c.elim
 obtain⟨H,r,I,hR⟩:=H;have o:LeavesInM Fence.wide 0 C.P fn A.tmps (fun e i=>∃x Y' Z' v S' G',R x Y' Z'/\e=.returned v/\kd dr C.P Y Z S G w Y' Z' S' G' i/\qg i S' G' Z' x v) A.defers .returning Q:=by
  rw[E];refine JH (dr:=dr) T Q F (fun D hD=>(g D hD).2.1) fun i k=>?_
  have p:∀b,b∈T->KG S' G' st.Y b:=fun b d=>⟨(g b d).2.2.1,(g b d).2.2.2⟩
  have j:=a.inv.frame k p;have J:∀t,qg i S' G' st.Z (st.σ t) (A.tmps.getD t undef):=fun t=>(a.vR t).mono (fun b d=>⟨d,k.block b (a.inv.st b d) fun K=>(p b K).1 d⟩) (zk _) (fun _ _=>rfl)
  have hk:kd dr C.P Y Z S G w st.Y st.Z S' G' i:=⟨j,a.up,a.loc,a.s0,a.s1,a.own,a.fr.trans k fun b d l=>by have:=(g b l).1;omega⟩;obtain⟨v,L,M⟩:=uc j J I;exact⟨v,L,r,_,_,v,S',G',hR,rfl,hk,M⟩
 rcases H with rfl|rfl
 ·exact o
 ·exact o
theorem rC(i:C.P.funcs[f]?=some fn)(t:(fn.name== "runtime.NumGoroutine")=false)(j:fn.body=some code)(l:Bool)(W:List Nat)(F:zb->Option O)(X:∀args r,F args=some r->args.length<=fn.ntmps/\Wp dr C fn.ntmps code ⟨kM args,fun _=>none,0⟩ (Xb C.P fn (zfh r))):jl dr C.P f (yS l W F):=by
 refine⟨⟨fn,i,t,by rw[j];rfl⟩,?_⟩;intro args Y Z r Y' Z' h w S G vs N hz;unfold yS at h;split at h
 ·rename_i avs Y1 u;split at h
  ·rename_i r0 y;obtain⟨hn,hW⟩:=X _ r0 y;obtain⟨S1,s,z,A⟩:=yW (dr:=dr) N u hz;refine(Yv i j hW (Y7 (fun _=>⟨0,0,0⟩) s.inv.st s.inv.aH) (Z2 z).closed hn).mono fun e Q hh=>?_
   obtain⟨x,hpe,nxe,v,S',G',⟨r1,m,B⟩,R,k,hx⟩:=hh;have T:Fr dr w (fun _=>False) Q:=⟨k.fr.os,k.fr.tape,k.fr.output,k.fr.size,k.fr.drawn,fun b d _=>k.fr.block b d vI⟩;obtain⟨⟨r2,hpf⟩,D,n⟩:=zJ m;simp only at n;subst n;obtain⟨S2,U,E⟩:=vH (dr:=dr) k.inv D hx;have H:=LP E B;have o:∀b,S2 b->S1 b\/(w.heap.size<=b/\b<Q.heap.size):=by
    intro b d;have p:=U.inv.st b d;rcases U.from_ b d with h1|⟨id,blk,h1,rfl⟩|h1
    ·rcases k.from_ b h1 with a|a|a
     ·exact .inl a
     ·exact(vI a).elim
     ·exact .inr ⟨a,p⟩
    ·rcases k.own id blk h1 with a|a
     ·exact(vI a).elim
     ·exact .inr ⟨a,p⟩
    ·exact absurd h1 (by omega)
   split at h
   ·rename_i g;injection h with h
    injection h with I h;injection h with J K;subst I;subst J;subst K;refine⟨v,_,G,R,kd.outer N T,.c ?_⟩;rcases g with L|M
    ·exact bd H L
    ·have q:=A M;exact H.mono fun b d=>⟨by rw[<-q];exact o b d,rfl⟩
   ·split at h
    ·injection h with h;injection h with I h;injection h with J K;subst I;subst J;subst K;exact⟨v,_,G,R,s.trans (kd.outer s.inv T),.c (H.mono fun b d=>⟨o b d,rfl⟩)⟩
    ·cases h
  ·cases h
 ·cases h
end
variable{dr:Prop}
abbrev str(l:za):O:=.v (.string ⟨l.toArray⟩)
@[simp]theorem zfj(l:za):(ByteArray.mk l.toArray).size=l.length:=by simp[ByteArray.size]
@[simp]theorem bget(l:za)(i:Nat):(ByteArray.mk l.toArray)[i]?=l[i]?:=by
 by_cases h:i<l.length
 ·rw[getElem?_pos (ByteArray.mk l.toArray) i (by simpa using h),zm h];rfl
 ·rw[getElem?_neg (ByteArray.mk l.toArray) i (by simpa using h),qY (by omega)]
@[simp]theorem LX(l:za)(a b:Nat):(ByteArray.mk l.toArray).extract a b=⟨((l.drop a).take (b-a)).toArray⟩:=by have h:=Lib.extract_data (ByteArray.mk l.toArray) a b;rw[ByteArray.ext_iff];apply PQ.1;rw[h]
@[simp]theorem zhq(a b:za):ByteArray.mk a.toArray++ByteArray.mk b.toArray=⟨(a++b).toArray⟩:=by rw[ByteArray.ext_iff];apply PQ.1;simp[ByteArray.data_append]
theorem wT{a b:za}(h:str a=str b):a=b:=by injection h with h;injection h with h;injection h with h;simpa using jy Array.toList h
@[simp]theorem zd8(P:Program)(t:TypeId)(l:za)(k:IntKind)(i:Int)(h:P.underlying t=some .string):QB P t (.v (.string ⟨l.toArray⟩)) (.v (.int k i)) =
  if 0<=i then(l[i.toNat]?).map fun b=>.v (.int .u8 b.toNat)else none:=by
 simp only[QB,h,bget];split
 ·cases l[i.toNat]?<;>rfl
 ·rfl
@[simp]theorem zd9(P:Program)(Y:Hp)(t:TypeId)(l:za)(lo c:Option (Option O))(h:P.underlying t=some .string):y8 P Y t (.v (.string ⟨l.toArray⟩)) lo c =
  (jZ 0 lo).bind fun a=>(jZ l.length c).bind fun b=>if a<=b/\b<=l.length then some (str ((l.drop a).take (b-a)))else none:=by
 simp only[y8,h,zfj,LX];cases jZ 0 lo<;>(try rfl);cases jZ l.length c<;>rfl
attribute [simp] jZ
@[simp]theorem R4(P:Program)(t:TypeId)(a b:Bool)(h:P.underlying t=some .bool):Qq P .eql t (.v (.bool a)) (.v (.bool b))=some (.v (.bool (a==b))):=by simp[Qq,h]
@[simp]theorem zfk(P:Program)(s d:TypeId)(k:IntKind)(n:Int):Xq P s d (.v (.int k n))=(P.underlying s).bind fun _=>(P.underlying d).bind fun u=>match u with|.int a=>some (.v (.int a (a.wrap n)))|_=>none:=by simp only[Xq];cases P.underlying s<;>(try rfl);cases P.underlying d<;>(try rfl);rename_i u;cases u<;>rfl
theorem zaT(a b:UInt8):((a.toNat:Int)==(b.toNat:Int))=decide (a=b):=by rw[wO];simp[<-yg];omega
theorem wL{F:zb->Option O}{b:List Nat}{a:Bool}{args c:zb}{Y Y1:Hp}{Z:Nat}{r:O}(d:zz Y args=some (c,Y1))(e:F (jn b c)=some r)(f:r.flat=true\/args.all O.noOwn=true) :
  yS a b F args Y Z=some (r,Y,Z):=by
 unfold yS;simp only[d,e,f,qh]
theorem qE{k:IntKind}{a b:Int}(h:O.v (.int k a)=.v (.int k b)):a=b:=by injection h with h;injection h
theorem WJ{a b:Bool}(h:O.v (.bool a)=.v (.bool b)):a=b:=by injection h with h;injection h
def zaU{α a:Type}(f:α->a)(K:a->Prop)(x:α):Prop:=K (f x)
def zfl{α a:Type}(f:α->Option a)(K:a->Prop)(x:α):Prop:=Yt (f x) K
@[simp]theorem zea{α a:Type}(f:α->a)(K:a->Prop)(x:α):zaU f K x=K (f x):=rfl
@[simp]theorem zeb{α a:Type}(f:α->Option a)(K:a->Prop)(x:α):zfl f K x=Yt (f x) K:=rfl
@[simp]theorem zec{α a:Type}(f:α->a)(o:Option α)(K:a->Prop):Yt (o.map f) K=Yt o (zaU f K):=by cases o<;>simp[Yt]
def XY(C:Ctx)(pf:FuncId->Bool)(f:FuncId)(fn:Func):Prop:=∃code,XP C pf f fn code
theorem kq{C:Ctx}{pf:FuncId->Bool}{f:FuncId}{fn:Func}(d:kl dr C pf)(b:XY C pf f fn)(a:Bool)(c:List Nat)(F:zb->Option O)(e:∀args r,F args=some r->args.length<=fn.ntmps/\∃r0,zH C fn args=some r0/\ei r0 r):jl dr C.P f (yS a c F):=
 let⟨_,b⟩:=b
 tY d b a c F e
def kOk(pf:FuncId->Bool)(C:Ctx)(fn:Func):Bool:=!(fn.name== "runtime.NumGoroutine")&&match fn.body with
 |some c=>vj pf C.dyn C.I5 C.bk fn.ntmps c
 |none=>false
theorem yt{C:Ctx}{pf:FuncId->Bool}{f:FuncId}{fn:Func}(h:C.P.funcs[f]?=some fn)(a:kOk pf C fn=true:=by kernel_rfl):XY C pf f fn:=by
 unfold kOk at a;split at a
 ·rename_i c b;simp only[zn,Ql]at a;exact⟨c,h,a.1,b,a.2⟩
 ·simp at a
theorem Z3{C:Ctx}{pf:FuncId->Bool}{f:FuncId}{fn:Func}{α:Type}{V:α->zb}{pre:α->Prop}{out:α->O}(d:kl dr C pf)(h:C.P.funcs[f]?=some fn)(b:Bool)(c:List Nat)(e:∀a,pre a->(V a).length<=fn.ntmps/\∃r0,zH C fn (V a)=some r0/\ei r0 (out a))(g:kOk pf C fn=true:=by kernel_rfl):jl dr C.P f (yS b c (qt V pre out)):=
 kq d (yt h g) b c _ fun args r h=>by obtain⟨a,rfl,Y,rfl⟩:=qc h;exact e a Y
theorem aK{α:Type}{V:α->zb}{pre:α->Prop}{out:α->O}(a:α)(Y:Hp)(Z:Nat)(b:zz Y (V a)=some (V a,Y))(c:∀x y,V x=V y->x=y)(h:pre a)(d:(out a).flat=true\/(V a).all O.noOwn=true):yS false [] (qt V pre out) (V a) Y Z=some (out a,Y,Z):=
 wL b (by
  have e:∀l:zb,jn [] l=l:=fun l=>by cases l<;>rfl
  rw[e];exact qj c h) d
noncomputable def yc (C:Ctx) (fn:Func):AM.Spec:=fun args Y Z=>if args.length<=fn.ntmps then yR C fn args Y Z else none
theorem CP{C:Ctx}{pf:FuncId->Bool}{f:FuncId}{fn:Func}{code:Code}(b:kl dr C pf)(a:XP C pf f fn code):jl dr C.P f (yc C fn):=by
 refine⟨⟨fn,a.func,a.name,by rw[a.body];rfl⟩,?_⟩;intro args Y Z r Y' Z' h w S G vs c d;unfold yc at h;split at h
 ·rename_i e;exact XX b.spec b.quiet b.box b.iter b.mixed a.func a.body a.ok h c d e
 ·cases h
theorem Zg{C:Ctx}{pf:FuncId->Bool}{f:FuncId}{fn:Func}(a:kl dr C pf)(h:C.P.funcs[f]?=some fn)(b:kOk pf C fn=true:=by kernel_rfl):jl dr C.P f (yc C fn):=let⟨_,k⟩:=yt h b;CP a k
end Go.AM
namespace Go.AM
open Go.RowKit Go.WideShapes Go.ChangeShapes
variable{dr:Prop}
section
variable{H:Type}{V:TypeId×Value->H}{P:Program}
theorem Xw(g:laidOutB P=true){W i:World}(j:Below W.heap.size W i){k:Nat->Bool}:∀{ts:List TypeId} {vs:List Value} {ds:List (DataW H)} {b:List MemPlace},(∀t∈ts,P.readableRec t=true/\t<P.types.size) ->
  DataW.TrodAll V P W 0 (fun _=>true) true ts vs ds b->(∀p∈b,p.block<W.heap.size)->(∀p∈b,k p.block=true)->DataW.TrodAll V P i 0 k true ts vs ds b
 |[],vs,ds,b,_,h,_,_=>by obtain⟨rfl,rfl,rfl⟩:=trodAll_nil h;exact trodAll_mk0
 |t::ts,vs,ds,b,f,h,c,e=>by
  obtain⟨v,l,d,m,p,q,rfl,rfl,rfl,n,o⟩:=trodAll_cons h;exact trodAll_cons_mk (WideElems.Trod_stays g (f t (by simp)).1 (f t (by simp)).2 n (fun x a=>j.same (c x (by simp[a]))) (fun x a=>e x (by simp[a])))
   (Xw g j (fun u r=>f u (by simp[r])) o (fun x a=>c x (by simp[a])) (fun x a=>e x (by simp[a])))
theorem LY{f:Func}{s:ChangeSpec}{a i c j:Bool}{W m:World}{args:Array Value}{ds D:List (DataW H)}{before:List MemPlace}(E:laidOutB P=true)(F:∀t∈f.params.toList,P.readableRec t=true/\t<P.types.size)
  (A:s.vars=[]) (v:DataW.Whole V P f.params.toList s.vars a W args.toList ds D before) (k:s.fn H ds={results:=[.lit (.bool true)],args:=ds}) {tb:TypeId} (B:f.resultTypes=#[tb]) (n:P.underlying tb=some .bool) (w:Below W.heap.size W m) :
  s.post V P f a i c j W args (.bool true) m:=by
 have l:∀p∈before,p.block<W.heap.size:=fun p Y=>v.lt p Y
 have x:=v;obtain⟨p,q,G,C,o,I,J⟩:=v;rw[A]at C;obtain⟨rfl,rfl⟩:=trodVars_none C;simp only[wg]at o;subst o;have y:DataW.TrodAll V P W 0 (fun _=>true) true f.params.toList args.toList ds before:=G;have d:∀g:Nat->Bool,(∀p∈before,g p.block=true)->DataW.TrodAll V P m 0 g true f.params.toList args.toList ds before:=fun g z=>Xw E w F y l z
 have r:∀p∈before,(fun b=>decide (b<W.heap.size)) p.block=true:=fun p Y=>by simpa using l p Y
 have h:∀(b:Nat) (g:Nat->Bool) (hd:Bool),DataW.TrodAll V P m b g hd f.resultTypes.toList ((Value.bool true).resultList f.resultTypes.size) [.lit (.bool true)] []:=fun b g hd=>by rw[B];exact trodAll_cons_mk (shut_bool n _) trodAll_mk0
 have e:∀g,DataW.TrodVars V P m g s.vars [] []:=fun g=>by rw[A];rfl
 refine⟨ds,[],before,[],before,[],by simpa using x,?_,?_,?_,World.keptBut_mono (fun p Y=>⟨Y,.inr (.inl Y)⟩) (w.frame (·∈before)),fun _=>?_⟩
 ·rw[wg,k];exact h _ _ _
 ·rw[wg,k];exact d _ r
 ·rw[wg,k];exact e _
 ·refine⟨ok_one B rfl (okWide_bool_mk n _),_,_,([]++before)++[],⟨[]++before,[],trodAll_append (d _ (fun _ _=>rfl)) (h _ _ _),e _,rfl,?_,?_⟩,?_⟩
  ·intro b off Y;have u:MemPlace.cell b off∈before:=by simpa using Y
   rw[w.frozen (l _ u)];exact I b off (by simpa using u)
  ·intro K;have:=J K;simpa using this
  ·intro p Y _;simpa using Y
end
end Go.AM
namespace Go.AM
variable{dr:Prop}
def cQ:Op->Bool
 | .move _|.assign _|.pick _ _ _|.load _ _|.binOp _ _ _ _ _|.unOp _ _ _|.convert _ _ _|.fieldAddr _ _ _|.field _ _ _|.indexAddr _ _ _|.index _ _ _|.extract _ _=>true
 | .slice _ _ _ _ none=>true
 | .call c=>match c.callee with
  | .builtin .len=>true
  | .builtin .min=>true
  | .builtin .max=>true
  |_=>false
 |_=>false
def rD(C:Ctx)(st:St)(op:Op):Option O:=(zS C (get st.σ) st.Y st.Z op).map (·.1)
theorem KY{o:Option O}{Y:Hp}{Z:Nat}:(o.map fun y=>(y,Y,Z))=((o.map fun y=>(y,Y,Z)).map (·.1)).map fun x=>(x,Y,Z):=by cases o<;>rfl
theorem vk{o:Option O}{Y:Hp}{Z:Nat}:(o.bind fun y=>some (y,Y,Z))=((o.bind fun y=>some (y,Y,Z)).map (·.1)).map fun x=>(x,Y,Z):=by cases o<;>rfl
theorem GL{C:Ctx}{st:St}{op:Op}(h:cQ op=true):zS C (get st.σ) st.Y st.Z op=(rD C st op).map fun x=>(x,st.Y,st.Z):=by
 unfold rD;generalize get st.σ=ρ;cases op with
 |move x=>simp only[RN];exact KY
 |assign x=>simp only[GK];exact KY
 |pick c a b=>simp only[RO];exact KY
 |load t a=>simp only[RR];cases ρ a<;>(try rfl);exact vk
 |binOp op t x y j=>simp only[zbM];cases ρ x<;>cases ρ y<;>(try rfl);exact vk
 |unOp op t x=>simp only[zeT];cases ρ x<;>(try rfl);exact vk
 |convert s d x=>simp only[RQ];cases ρ x<;>(try rfl);exact vk
 |fieldAddr t x f=>simp only[ry];cases ρ x<;>(try rfl);exact vk
 |field t x f=>simp only[LR];cases ρ x<;>(try rfl);exact vk
 |indexAddr t x i=>simp only[rz];cases ρ x<;>cases ρ i<;>(try rfl);exact vk
 |index t x i=>simp only[LS];cases ρ x<;>cases ρ i<;>(try rfl);exact vk
 |extract x i=>simp only[CL];cases ρ x<;>(try rfl);exact vk
 |slice t x lo k g=>
  cases g with
  |none=>simp only[LU];cases ρ x<;>(try rfl);exact vk
  |some m=>simp[cQ]at h
 |call c=>
  obtain⟨e,args,ts⟩:=c;cases e with
  |builtin b=>
   simp only[CM];cases wK (args.toList.map ρ)with
   |none=>rfl
   |some xs=>
    simp only[Option.bind_eq_bind,zW];cases b<;>(try (simp[cQ]at h;done))
    case len=>
     cases xs with
     |nil=>rfl
     |cons x l=>
      cases l with
      |nil=>simp only[RW];cases ts[0]?<;>(try rfl);exact vk
      |cons _ _=>rfl
    case min=>simp only[RX];exact KY
    case max=>simp only[RY];exact KY
  |_=>simp[cQ]at h
 |_=>simp[cQ]at h
def yH(C:Ctx)(g:FuncId):Prop:=∀a,C.Γ g=some a->Qt a
def kZ(C:Ctx)(op:Op):Prop:=∀st:St,zS C (get st.σ) st.Y st.Z op=(rD C st op).map fun x=>(x,st.Y,st.Z)
theorem jA{C:Ctx}{op:Op}(h:cQ op=true):kZ C op:=fun _=>GL h
@[simp]theorem zhr(C:Ctx)(g:FuncId)(a:Array Operand)(ts:Array TypeId)(h:yH C g):kZ C (.call ⟨.value (.func g),a,ts⟩):=by
 intro st;unfold rD;simp only[RU,LQ];cases wK (a.toList.map (get st.σ))with
 |none=>rfl
 |some xs=>
  simp only[Option.bind_eq_bind,zW];cases hs:C.Γ g with
  |none=>simp[jH,hs]
  |some b=>
   rw[CN C st.Y st.Z g [] [] xs b hs];cases c:b ([]++xs++[]) st.Y st.Z with
   |none=>rfl
   |some r=>obtain⟨x,Y',Z'⟩:=r;obtain⟨⟨rfl,rfl⟩,_⟩:=h b hs _ _ _ _ _ _ c;rfl
theorem wD{P:Program}{l:Yu}{g:Nat}{a:AM.Spec}(h:lookup l g=some a)(b:Qt a):yH (qf P l) g:=fun s hs=>by
 have:lookup l g=some s:=hs;rw[h]at this;injection this with this
 exact this ▸ b
@[simp]theorem zhs(C:Ctx)(x:Operand):kZ C (.move x):=jA rfl
@[simp]theorem zed(C:Ctx)(x:Operand):kZ C (.assign x):=jA rfl
@[simp]theorem zht(C:Ctx)(c a b:Operand):kZ C (.pick c a b):=jA rfl
@[simp]theorem zhu(C:Ctx)(t:TypeId)(x:Operand):kZ C (.load t x):=jA rfl
@[simp]theorem zh1(C:Ctx)(o:BinOp)(t a:TypeId)(x y:Operand):kZ C (.binOp o t x y a):=jA rfl
@[simp]theorem ziu(C:Ctx)(o:UnOp)(t:TypeId)(x:Operand):kZ C (.unOp o t x):=jA rfl
@[simp]theorem zhv(C:Ctx)(t u:TypeId)(x:Operand):kZ C (.convert t u x):=jA rfl
@[simp]theorem ziv(C:Ctx)(t:TypeId)(x:Operand)(f:Nat):kZ C (.fieldAddr t x f):=jA rfl
@[simp]theorem ziw(C:Ctx)(t:TypeId)(x:Operand)(f:Nat):kZ C (.field t x f):=jA rfl
@[simp]theorem zix(C:Ctx)(t:TypeId)(x i:Operand):kZ C (.indexAddr t x i):=jA rfl
@[simp]theorem ziy(C:Ctx)(t:TypeId)(x i:Operand):kZ C (.index t x i):=jA rfl
@[simp]theorem ziz(C:Ctx)(x:Operand)(i:Nat):kZ C (.extract x i):=jA rfl
@[simp]theorem ziA(C:Ctx)(t:TypeId)(x:Operand)(lo a:Option Operand):kZ C (.slice t x lo a none):=jA rfl
@[simp]theorem zh2(C:Ctx)(a:Array Operand)(ts:Array TypeId):kZ C (.call ⟨.builtin .len,a,ts⟩):=jA rfl
@[simp]theorem zh3(C:Ctx)(a:Array Operand)(ts:Array TypeId):kZ C (.call ⟨.builtin .min,a,ts⟩):=jA rfl
@[simp]theorem zh4(C:Ctx)(a:Array Operand)(ts:Array TypeId):kZ C (.call ⟨.builtin .max,a,ts⟩):=jA rfl
def bc{α:Type}(y:Bool)(a b:α):α:=match y with
 |true=>a
 |false=>b
@[simp]theorem zhw{α:Type}(a b:α):bc true a b=a:=rfl
@[simp]theorem zfm{α:Type}(a b:α):bc false a b=b:=rfl
@[simp]theorem zh5{α:Type}(y:Bool)(a b:α):bc (!y) a b=bc y b a:=by cases y<;>rfl
@[simp]theorem zhx{α:Type}(y:Bool)(a:α):bc y a a=a:=by cases y<;>rfl
def bx(y:Bool):Bool:=y
@[simp]theorem zhy:bx true=true:=rfl
@[simp]theorem zfn:bx false=false:=rfl
@[simp]theorem zh6{α:Type}(y:Bool)(a b c:α):bc y (bc y a b) c=bc y a c:=by cases y<;>rfl
@[simp]theorem zh7{α:Type}(y:Bool)(a b c:α):bc y a (bc y b c)=bc y a c:=by cases y<;>rfl
def np(C:Ctx)(st:St)(op:Op)(y:Option Bool)(b:Bool):Option O:=if y=some b then rD C st op else some (.qZ [])
section
variable(C:Ctx)(d:Option Tmp)(op:Op)(st:St)
theorem hZ(y:Option Bool)(b:Bool)(h:kZ C op):xZ C d op st y b=(np C st op y b).map fun x=>⟨put st.σ d x,st.Y,st.Z⟩:=by
 unfold xZ np;rw[h st];split
 ·cases rD C st op<;>rfl
 ·rfl
@[simp low] theorem zbW(y b:Bool)(h:kZ C op):xZ C d op st (some y) b=(np C st op (some y) b).map fun x=>⟨put st.σ d x,st.Y,st.Z⟩:=hZ C d op st _ b h
@[simp]theorem zfo(y:Bool)(p q:Option Bool)(b:Bool)(h:kZ C op):xZ C d op st (bc y p q) b=(np C st op (bc y p q) b).map fun x=>⟨put st.σ d x,st.Y,st.Z⟩:=hZ C d op st _ b h
@[simp]theorem zhz(y:Bool)(p q:Option Bool)(b:Bool):np C st op (bc y p q) b=bc y (np C st op p b) (np C st op q b):=by cases y<;>rfl
@[simp]theorem zee(b:Bool):np C st op none b=some (.qZ []):=rfl
@[simp]theorem zh8(y:Bool):np C st op (some y) true=bc (bx y) (rD C st op) (some (.qZ [])):=by cases y<;>rfl
@[simp]theorem zh9(y:Bool):np C st op (some y) false=bc (bx y) (some (.qZ [])) (rD C st op):=by cases y<;>rfl
end
@[simp]theorem zef(y:Bool)(a b:O):KV (bc y a b)=bc y (KV a) (KV b):=by cases y<;>rfl
@[simp]theorem zhA{α:Type}(y:Bool)(a b:α):bc y (some a) (some b)=some (bc y a b):=by cases y<;>rfl
@[simp]theorem zfp(y z:Bool)(w:O):WV (some (.v (.bool y))) (some (bc (bx y) (.v (.bool z)) w)) (some (.v (.bool false)))=some (.v (.bool (y&&z))):=by cases y<;>rfl
@[simp]theorem zhB(y z:Bool)(w:O):WV (some (.v (.bool y))) (some (.v (.bool true))) (some (bc (bx y) w (.v (.bool z))))=some (.v (.bool (y||z))):=by cases y<;>rfl
@[simp]theorem zfq{α:Type}(y c:Bool)(a b d0 d:α):bc y (bc c (bc y a b) d) d0=bc y (bc c a d) d0:=by cases y<;>rfl
@[simp]theorem zfr{α:Type}(y c:Bool)(a b d0 d:α):bc y (bc c d (bc y a b)) d0=bc y (bc c d a) d0:=by cases y<;>rfl
@[simp]theorem zfs{α:Type}(y c:Bool)(a b d e:α):bc y d (bc c (bc y a b) e)=bc y d (bc c b e):=by cases y<;>rfl
@[simp]theorem zft{α:Type}(y c:Bool)(a b d e:α):bc y d (bc c e (bc y a b))=bc y d (bc c e b):=by cases y<;>rfl
@[simp]theorem zfu{α:Type}(y c d:Bool)(a b d0 e f:α):bc y (bc c (bc d (bc y a b) f) e) d0=bc y (bc c (bc d a f) e) d0:=by cases y<;>rfl
@[simp]theorem zfv{α:Type}(y c d:Bool)(a b d0 e f:α):bc y (bc c (bc d f (bc y a b)) e) d0=bc y (bc c (bc d f a) e) d0:=by cases y<;>rfl
@[simp]theorem zfw{α:Type}(y c d:Bool)(a b d0 e f:α):bc y (bc c e (bc d (bc y a b) f)) d0=bc y (bc c e (bc d a f)) d0:=by cases y<;>rfl
@[simp]theorem zfx{α:Type}(y c d:Bool)(a b d0 e f:α):bc y (bc c e (bc d f (bc y a b))) d0=bc y (bc c e (bc d f a)) d0:=by cases y<;>rfl
@[simp]theorem zfy{α:Type}(y c d:Bool)(a b e f g:α):bc y e (bc c (bc d (bc y a b) g) f)=bc y e (bc c (bc d b g) f):=by cases y<;>rfl
@[simp]theorem zeg{α:Type}(y c d:Bool)(a b e f g:α):bc y e (bc c (bc d g (bc y a b)) f)=bc y e (bc c (bc d g b) f):=by cases y<;>rfl
@[simp]theorem zeh{α:Type}(y c d:Bool)(a b e f g:α):bc y e (bc c f (bc d (bc y a b) g))=bc y e (bc c f (bc d b g)):=by cases y<;>rfl
@[simp]theorem zei{α:Type}(y c d:Bool)(a b e f g:α):bc y e (bc c f (bc d g (bc y a b)))=bc y e (bc c f (bc d g b)):=by cases y<;>rfl
section
variable(P:Program)(C:Ctx)(Y:Hp)(Z:Nat)(t u:TypeId)(y:Bool)(a b:O)
@[simp]theorem zhC:xc P Y t (bc y a b)=bc y (xc P Y t a) (xc P Y t b):=by cases y<;>rfl
@[simp]theorem zhD(o:BinOp)(x:O):Qq P o t (bc y a b) x=bc y (Qq P o t a x) (Qq P o t b x):=by cases y<;>rfl
@[simp]theorem zhE(o:BinOp)(x:O):Qq P o t x (bc y a b)=bc y (Qq P o t x a) (Qq P o t x b):=by cases y<;>rfl
@[simp]theorem zfz(c:Bool)(o:BinOp)(x:O):KI c P o t (bc y a b) x=bc y (KI c P o t a x) (KI c P o t b x):=by cases y<;>rfl
@[simp]theorem zfA(c:Bool)(o:BinOp)(x:O):KI c P o t x (bc y a b)=bc y (KI c P o t x a) (KI c P o t x b):=by cases y<;>rfl
@[simp]theorem ziB(o:UnOp):Ri o (bc y a b)=bc y (Ri o a) (Ri o b):=by cases y<;>rfl
@[simp]theorem zhF:Xq P t u (bc y a b)=bc y (Xq P t u a) (Xq P t u b):=by cases y<;>rfl
@[simp]theorem R5(f:Nat):y9 P t f (bc y a b)=bc y (y9 P t f a) (y9 P t f b):=by cases y<;>rfl
@[simp]theorem zaV(f:Nat):vS P t f (bc y a b)=bc y (vS P t f a) (vS P t f b):=by cases y<;>rfl
@[simp]theorem Rn(x:O):qL P Y t (bc y a b) x=bc y (qL P Y t a x) (qL P Y t b x):=by cases y<;>rfl
@[simp]theorem Ro(x:O):qL P Y t x (bc y a b)=bc y (qL P Y t x a) (qL P Y t x b):=by cases y<;>rfl
@[simp]theorem zej(x:O):QB P t (bc y a b) x=bc y (QB P t a x) (QB P t b x):=by cases y<;>rfl
@[simp]theorem zek(x:O):QB P t x (bc y a b)=bc y (QB P t x a) (QB P t x b):=by cases y<;>rfl
@[simp]theorem zia:KJ P t (bc y a b)=bc y (KJ P t a) (KJ P t b):=by cases y<;>rfl
@[simp]theorem zel(lo c:Option (Option O)):y8 P Y t (bc y a b) lo c=bc y (y8 P Y t a lo c) (y8 P Y t b lo c):=by cases y<;>rfl
@[simp]theorem zem(x:O)(c:Option (Option O)):y8 P Y t x (some (some (bc y a b))) c=bc y (y8 P Y t x (some (some a)) c) (y8 P Y t x (some (some b)) c):=by cases y<;>rfl
@[simp]theorem zen(x:O)(lo:Option (Option O)):y8 P Y t x lo (some (some (bc y a b)))=bc y (y8 P Y t x lo (some (some a))) (y8 P Y t x lo (some (some b))):=by cases y<;>rfl
@[simp]theorem zbX(i:Nat):Y8 i (bc y a b)=bc y (Y8 i a) (Y8 i b):=by cases y<;>rfl
@[simp]theorem zfB(p q:Option O):WV (some (bc y a b)) p q=bc y (WV (some a) p q) (WV (some b) p q):=by cases y<;>rfl
@[simp low] theorem zfC(p q:Option O):WV p (some (bc y a b)) q=bc y (WV p (some a) q) (WV p (some b) q):=by cases y<;>rfl
@[simp low] theorem zfD(p q:Option O):WV p q (some (bc y a b))=bc y (WV p q (some a)) (WV p q (some b)):=by cases y<;>rfl
@[simp]theorem zfE(c:Bool)(d:List Nat)(F:zb->Option O)(l:zb):yS c d F (bc y a b::l) Y Z=bc y (yS c d F (a::l) Y Z) (yS c d F (b::l) Y Z):=by cases y<;>rfl
@[simp]theorem zfF(c:Bool)(d:List Nat)(F:zb->Option O)(x:O)(l:zb):yS c d F (x::bc y a b::l) Y Z=bc y (yS c d F (x::a::l) Y Z) (yS c d F (x::b::l) Y Z):=by cases y<;>rfl
@[simp]theorem zfG(c:Bool)(d:List Nat)(F:zb->Option O)(x z:O)(l:zb):yS c d F (x::z::bc y a b::l) Y Z=bc y (yS c d F (x::z::a::l) Y Z) (yS c d F (x::z::b::l) Y Z):=by cases y<;>rfl
end
@[simp]theorem zib{α c:Type}(y:Bool)(f:α->c)(a b:Option α):(bc y a b).map f=bc y (a.map f) (b.map f):=by cases y<;>rfl
@[simp]theorem zhG{α c:Type}(y:Bool)(f:α->Option c)(a b:Option α):(bc y a b).bind f=bc y (a.bind f) (b.bind f):=by cases y<;>rfl
attribute [simp] rD
variable{dr:Prop}
def ia(k:Nat)(D:List (Tmp×Tmp))(i:Nat):List (Tmp×Tmp):=if i=k then D else[]
@[simp]theorem zbY(P:Program)(l:Yu)(k:Nat)(D:List (Tmp×Tmp))(i:Nat):(xv P l (ia k D)).dyn i=if i=k then D else[]:=rfl
@[simp]theorem LZ(P:Program)(l:Yu)(k:Nat)(D:List (Tmp×Tmp))(i:Nat)(a:Array Oper)(d:Bool)(st:St)(K:Exit->St->Prop)(h:¬i=k):Zs (xv P l (ia k D)) (.region i a d) st K=gV (xv P l (ia k D)) a a.toList st (vy K):=QD _ i a d st K (by simp[h]) rfl
theorem ib{a b:Tmp}{st:St}{id i j id' i' j':Nat}{blk:Blk}(d:st.σ a=.ref id i j)(e:st.σ b=.ref id' i' j')(f:id≠id')(g:st.Y id'=some blk)(h:blk.arr=false):ZW [(a,b)] st:=by
 intro p Y;obtain rfl:=yf.1 Y;intro k l m c;rw[d]at c;injection c with c _ _
 subst c;exact⟨id',i',j',blk,e,f,g,h⟩
theorem ic{w:World}{S:Nat->Prop}{G:Nat->GI}{Z:Nat}:∀{us vs:List Value},(∀u∈us,lit u=true)->Zip (qg w S G Z) (us.map O.v) vs->vs=us
 |[],vs,_,h=>by have:=h.1;simp at this;exact qQ.1 this.symm
 |u::us,vs,a,h=>by
  obtain⟨v,b,rfl,d,e⟩:=h.jr;rw[ic (fun x f=>a x (by simp[f])) e];congr 1;cases d with
  |c g=>exact g.wZ.1
theorem rE{P:Program}{g:FuncId}{F:zb->Option O}(j:∃fn,P.funcs[g]?=some fn/\(fn.name== "runtime.NumGoroutine")=false/\fn.body.isNone=false)
  (h:∀args r,F args=some r->∃us:List Value,args=us.map O.v/\(∀u∈us,lit u=true)/\∃v,r=.v v/\lit v=true/\∀w,Calls P g us.toArray w fun e p=>e=.returned v/\p=w):jl dr P g (yS false [] F):=by
 refine⟨j,?_⟩;intro args Y Z r Y' Z' hs w S G vs q s;unfold yS at hs;split at hs
 ·rename_i k Y1 m;split at hs
  ·rename_i r0 t;obtain⟨us,e,z,v,rfl,A,B⟩:=h _ _ t;have C:jn [] k=k:=by cases k<;>rfl
   rw[C]at e;subst e;have d:args=us.map O.v:=by
    have n:∀(args:zb) (us:List Value) (Y1:Hp),zz Y args=some (us.map O.v,Y1)->args=us.map O.v:=by
     intro args
     induction args with
     |nil=>intro us Y1 b;simp only[zz]at b;injection b with b;injection b with b _
     |cons x l D=>
      intro us Y1 b;simp only[zz]at b;split at b
      ·rename_i y Y2 a;split at b
       ·rename_i I hp3 o;injection b with b
        injection b with b _;cases us with
        |nil=>simp at b
        |cons u us=>
         simp only[zG,zi]at b;obtain⟨rfl,rfl⟩:=b;have E:x=.v u/\Y2=Y:=by
          unfold z7 at a;split at a
          ·split at a
           ·injection a with a;injection a with a _;cases a
           ·cases a
          ·unfold qn at a;split at a<;>first
            |(split at a<;>first|(split at a<;>first|(injection a with a;injection a with a _;cases a;done)|cases a)|cases a)
            |(injection a with a;injection a with i f;first|(exact⟨by rw[<-i],f.symm⟩)|cases i)
            |cases a
         obtain⟨rfl,rfl⟩:=E;rw[D us hp3 o];rfl
       ·cases b
      ·cases b
    exact n args us Y1 m
   subst d;simp only[O.flat,true_or,qh]at hs;injection hs with hs
   injection hs with i f;injection f with f H;subst i;subst f;subst H;rw[ic z s];refine(B w).mono fun e p b=>?_
   obtain⟨rfl,rfl⟩:=b;exact⟨v,S,G,rfl,kd.refl q,.c (.v A)⟩
  ·cases hs
 ·cases hs
theorem KZ:∀(l cs:zb) (off:Nat),off+l.length<=cs.length->yP cs off l=cs.take off++l++cs.drop (off+l.length)
 |[],cs,off,_=>by simp
 |x::l,cs,off,h=>by
  simp only[ze]at h;rw[yP,KZ l (cs.set off x) (off+1) (by simp;omega)];have b:(cs.set off x).take (off+1)=cs.take off++[x]:=by
   rw[qb (by simp;omega)];have c:(cs.set off x).take off=cs.take off:=by
    apply List.ext_getElem?;intro j;simp only[yu,List.getElem?_set];by_cases a:j<off
    ·simp[a,show¬off=j by omega]
    ·simp[a]
   rw[c];simp
  have d:(cs.set off x).drop (off+1+l.length)=cs.drop (off+(x::l).length):=by rw[List.drop_set_of_lt (by omega)];simp only[ze];congr 1;omega
  rw[b,d];simp
@[simp]theorem L0(z cs:zb)(h:cs.length=z.length):yP z 0 cs=cs:=by rw[KZ cs z 0 (by omega)];simp[h]
@[simp]theorem Rp(x:O)(z cs:zb)(h:cs.length=z.length):yP (x::z) 1 cs=x::cs:=by rw[KZ cs (x::z) 1 (by simp;omega)];simp[show 1+cs.length=z.length+1 by omega]
@[simp]theorem PX(σ:Nat->O):AM.get σ (.const .nilIface)=some (.v .nilIface):=rfl
section
variable(C:Ctx)(ρ:Operand->Option O)(Y:Hp)(Z:Nat)
def CQ:O->Option O
 | .ref id i j=>some (.ref id i j)
 | .ptr cs=>some (.ptr cs)
 |_=>none
@[simp]theorem zbZ(id i j:Nat):CQ (.ref id i j)=some (.ref id i j):=rfl
@[simp]theorem zb0(cs:zb):CQ (.ptr cs)=some (.ptr cs):=rfl
@[simp]theorem zaW(x:Operand):zS C ρ Y Z (.nilCheck x)=(do let p <-ρ x;let r <-CQ p;some (r,Y,Z)):=by
 simp only[zS];cases ρ x with
 |none=>rfl
 |some p=>cases p<;>rfl
end
theorem L1{α:Type}(f:Nat->α)(k:Nat)(x:α)(h:f k=x):zI f k x=f:=by
 funext i;by_cases e:i=k
 ·subst e;simp[h]
 ·simp[e]
@[simp]theorem zfH(i:Nat):O.cells (.mp i)=[.mp i]:=rfl
@[simp]theorem zeo(i:Nat):O.wY (.mp i)=true:=rfl
variable{dr:Prop}
section
variable{C:Ctx}{pf:FuncId->Bool}{f:FuncId}{fn:Func}{code:Code}
theorem rF(hg:kl dr C pf)(s:XP C pf f fn code)(k:Bool)(ns:List Nat)(F:zb->Option O)
  (hF:∀args r,F args=some r->∀(w:World) (S:Nat->Prop) (vs:List Value),Zip (wG w S) args vs->∃a r0,Zip (wG w S) a vs/\a.length<=fn.ntmps/\zH C fn a=some r0/\∀(w:World) (S:Nat->Prop) (u:Value),wG w S r0 u->wG w S r u):jl dr C.P f (yS k ns F):=by
 refine⟨⟨fn,s.func,s.name,by rw[s.body];rfl⟩,?_⟩;intro args Y Z r Y' Z' h w S G vs W hz;unfold yS at h;split at h
 ·rename_i aZ Y1 y;split at h
  ·rename_i r0 z;obtain⟨X,t,A,B⟩:=yW (dr:=dr) W y hz;obtain⟨a,rr,D,hn,d,E⟩:=hF _ r0 z w X vs (Z2 A);unfold zH at d;split at d
   ·rename_i x hpe nxe H;obtain⟨⟨r1,hpf1⟩,I,l⟩:=zJ d;simp only at l;subst l;refine(ZD hg s H hn t.inv.st t.inv.aH D).mono fun e w' hh=>?_
    obtain⟨v,S',G',he,fr,m,hx,hs0,J,_⟩:=hh;obtain⟨S2,k2,K⟩:=vH (dr:=dr) m I hx;have L:=E _ _ _ K;have n:∀b,S2 b->X b\/(w.heap.size<=b/\b<w'.heap.size):=by
     intro b j;have o:=k2.inv.st b j;rcases k2.from_ b j with h1|⟨id,blk,h1,rfl⟩|h1
     ·rcases J b h1 with M|M
      ·exact .inl M
      ·exact .inr ⟨M,o⟩
     ·rcases Nat.lt_or_ge (G' id).g w.heap.size with h3|h3
      ·rename_i p;have:=p id blk h1;omega
      ·exact .inr ⟨h3,o⟩
     ·exact absurd h1 (by omega)
    split at h
    ·rename_i i;injection h with h
     injection h with N h;injection h with Q R;subst N;subst Q;subst R;refine⟨v,_,G,he,kd.outer W fr,.c ?_⟩;rcases i with T|U
     ·exact bd L T
     ·have q:=B U;exact L.mono fun b j=>⟨by rw[<-q];exact n b j,rfl⟩
    ·split at h
     ·injection h with h;injection h with N h;injection h with Q R;subst N;subst Q;subst R;exact⟨v,_,G,he,t.trans (kd.outer t.inv fr),.c (L.mono fun b j=>⟨n b j,rfl⟩)⟩
     ·cases h
   ·cases d
  ·cases h
 ·cases h
inductive ED (s:Nat):List (List O)->O->Prop
 |nil:ED s [] .nil
 |em:ED s [] .em
 |sl {c:List O} {es:List (List O)}:ED s (c::es) (.sl s (c::es))
theorem L2{w:World}{S:Nat->Prop}{s:Nat}{es:List zb}{u:Value}(h:wG w S (.sl s es) u):∃y,ED s es y/\wG w S y u:=by
 cases es with
 |cons c es=>exact⟨_,.sl,h⟩
 |nil=>
  cases h with
  |sl us a d b e f g=>
   rename_i A cap;cases A with
   |none=>have:=a rfl;subst this;exact⟨.nil,.nil,.nil⟩
   |some i=>exact⟨.em,.em,.em b⟩
theorem bg{w:World}{S:Nat->Prop}{s:Nat}{es:List zb}{y:O}{u:Value}(h:ED s es y)(a:wG w S y u):wG w S (.sl s es) u:=by
 cases h with
 |nil=>cases a;exact .sl (es:=[]) (fun _ _=>undef) (by simp) (by simp) (by simp[maxLen]) (by simp) (by simp) (by simp)
 |em=>
  cases a with
  |em b=>exact .sl (es:=[]) (fun _ _=>undef) (by simp) (by simp) b (by simp) (by simp) (by simp)
 |sl=>exact a
theorem ud{w:World}{S:Nat->Prop}{cs:zb}{u:Value}(h:wG w S (.agg cs) u){j s:Nat}{es:List zb}(c:cs[j]?=some (.sl s es)):∃y,ED s es y/\wG w S (.agg (cs.set j y)) u:=by
 cases h with
 |agg f d=>
  rename_i us;have g:j<cs.length:=(zd.1 c).1;obtain⟨y,i,l⟩:=L2 (d j _ us[j] c (by simp));refine⟨y,i,.agg (by simpa using f) fun k m u a b=>?_⟩;rw[List.getElem?_set]at a;split at a
  ·rename_i e;subst e;injection a with a
   subst a;rw[jf (by omega)]at b;injection b with b
   subst b;exact l
  ·exact d k m u a b
section
variable{P:Program}{Y:Hp}{Z:Nat}{t:TypeId}{s e:Nat}{es:List zb}{y:O}
end
theorem qR.more{Y:Hp}{Z e s:Nat}{v:O}{xs:List zb}(h:qR Y Z e s v xs)(b:Option Blk):qR (zI Y Z b) (Z+1) e s v xs:=by
 rcases h with⟨rfl,rfl⟩|⟨id,c,rfl,a⟩
 ·exact .inl ⟨rfl,rfl⟩
 ·exact .inr ⟨id,by omega,rfl,by rw[zT _ _ _ _ (by omega)];exact a⟩
theorem ie(e:kl dr C pf)(c:XY C pf f fn)(b:Bool)(d:List Nat)(F:zb->Option O)
  (g:∀args r,F args=some r->∀(w:World) (S:Nat->Prop) (vs:List Value),Zip (wG w S) args vs->∃a r0,Zip (wG w S) a vs/\a.length<=fn.ntmps/\zH C fn a=some r0/\∀(w:World) (S:Nat->Prop) (u:Value),wG w S r0 u->wG w S r u):jl dr C.P f (yS b d F):=
 let⟨_,c⟩:=c
 rF e c b d F g
end
variable{dr:Prop}
def WX(P:Program)(l:Yu)(k:Nat)(L:List Tmp)(b:List Nat):Ctx:=⟨P,lookup l,fun _=>[],fun i=>if i=k then L else[],fun g=>b.contains g,fun _=>[],fun _=>none⟩
@[simp]theorem zfI(P:Program)(l:Yu)(k:Nat)(L:List Tmp)(b:List Nat):(WX P l k L b).P=P:=rfl
@[simp]theorem zfJ(P:Program)(l:Yu)(k:Nat)(L:List Tmp)(b:List Nat)(Y:Hp)(Z g:Nat)(x y xs:zb):jH (WX P l k L b) Y Z (some (.fn (.func g) x y)) xs=(lookup l g).bind fun s=>s (x++xs++y) Y Z:=by unfold jH WX;simp only;cases lookup l g<;>rfl
@[simp]theorem L3(P:Program)(l:Yu)(k:Nat)(L:List Tmp)(b:List Nat)(i:Nat)(a:Array Oper)(d:Bool)(st:St)(K:Exit->St->Prop)(h:¬i=k):Zs (WX P l k L b) (.region i a d) st K=gV (WX P l k L b) a a.toList st (vy K):=
 QD _ i a d st K rfl (by simp[WX,h])
theorem eX{P:Program}{l:Yu}{k:Nat}{L:List Tmp}{b:List Nat}{a:Array Oper}{d:Bool}{st:St}{K:Exit->St->Prop}(h:ZX L st):Zs (WX P l k L b) (.region k a d) st K=gV (WX P l k L b) a a.toList st (vy K):=
 vA _ k a d st K (fun _ h=>by cases h) (by simpa[WX]using h)
def CR(P:Program)(l:Yu)(k:Nat)(t:Tmp):Ctx:=⟨P,lookup l,fun _=>[],fun _=>[],fun _=>false,fun i=>if i=k then[t]else[],fun _=>none⟩
@[simp]theorem zfK(P:Program)(l:Yu)(k:Nat)(t:Tmp):(CR P l k t).P=P:=rfl
@[simp]theorem zfL(P:Program)(l:Yu)(k:Nat)(t:Tmp)(Y:Hp)(Z g:Nat)(x y xs:zb):jH (CR P l k t) Y Z (some (.fn (.func g) x y)) xs=(lookup l g).bind fun s=>s (x++xs++y) Y Z:=by unfold jH CR;simp only;cases lookup l g<;>rfl
def rG(b:List Nat):Yu->Prop
 |[]=>True
 |(g,s)::l=>(b.contains g=true->QP s)/\rG b l
theorem ue{P:Program}{l:Yu}{q:List Nat}{k:Nat}{L:List Tmp}{b:List Nat}(d:P.follows .mixedOrders=true)(h:ub dr P q l)(f:rG b l):kl dr (WX P l k L b) (fun g=>q.contains g):=by
 let g:=qI d h;refine⟨g.spec,g.quiet,g.mixed,?_,fun _ _ h=>by cases h⟩;have c:∀l:Yu,rG b l->∀g s,b.contains g=true->lookup l g=some s->QP s:=by
  intro l
  induction l with
  |nil=>intro _ g s _ h;cases h
  |cons x l i=>
   obtain⟨k,n⟩:=x;rintro⟨j,m⟩ g s a hs;simp only[ej]at hs;split at hs
   ·rename_i e;injection hs with hs
    subst hs;subst e;exact j a
   ·exact i m g s a hs
 exact fun g s a hs=>c l f g s a hs
theorem K0:∀{xs ys:zb} {Y Y1:Hp},zz Y xs=some (ys,Y1)->∀{id:Nat} {b:Blk},Y id=some b->b.arr=false->Y1 id=some b
 |[],ys,Y,Y1,h,id,b,a,c=>by simp only[zz]at h;injection h with h;injection h with _ h;subst h;exact a
 |x::l,ys,Y,Y1,h,id,b,a,c=>by
  simp only[zz]at h;split at h
  ·rename_i y Y2 d;split at h
   ·rename_i r hp3 e;injection h with h;injection h with _ h;subst h
    exact K0 e (YP d a c) c
   ·cases h
  ·cases h
def yY(r0 r:O):Prop:=∀(w:World) (S:Nat->Prop) (u:Value),wG w S r0 u->wG w S r u
def zaX(r:O)(x:O)(Y:Hp)(_:Nat):Prop:=∃r0,(AM.freeze Y x).map (·.1)=some r0/\yY r0 r
theorem yY.refl(x:O):yY x x:=fun _ _ _ h=>h
inductive xW:List O->List O->Prop
 |nil:xW [] []
 |cons {x y:O} {xs ys:List O}:yY x y->xW xs ys->xW (x::xs) (y::ys)
theorem xW.length{xs ys:zb}(h:xW xs ys):xs.length=ys.length:=by
 induction h with
 |nil=>rfl
 |cons _ _ a=>simp[a]
theorem xW.get{xs ys:zb}(h:xW xs ys):∀{j:Nat} {x y:O},xs[j]?=some x->ys[j]?=some y->yY x y:=by
 induction h with
 |nil=>intro j x y h;cases h
 |cons c _ d=>
  intro j x y a b;cases j with
  |zero=>simp at a b;subst a;subst b;exact c
  |succ j=>exact d (by simpa using a) (by simpa using b)
theorem xW.agg{xs ys:zb}(h:xW xs ys):yY (.agg xs) (.agg ys):=by
 intro w S u c;cases c with
 |agg d e=>
  refine .agg (by rw[<-h.length];exact d) fun j g u b f=>?_
  have a:j<xs.length:=by rw[h.length];exact(zd.1 b).1
  exact h.get (zm a) b _ _ _ (e j _ u (zm a) f)
theorem xW.qZ{xs ys:zb}(h:xW xs ys):yY (.qZ xs) (.qZ ys):=by
 intro w S u c;cases c with
 |qZ d e=>
  refine .qZ (by rw[<-h.length];exact d) fun j g u b f=>?_
  have a:j<xs.length:=by rw[h.length];exact(zd.1 b).1
  exact h.get (zm a) b _ _ _ (e j _ u (zm a) f)
theorem qR.at_{Y:Hp}{Z e s:Nat}{v:O}{xs:List zb}(h:qR Y Z e s v xs)(a:0<xs.length):∃id,id<Z/\v=.own id 0 xs.length/\Y id=some ⟨e,s,true,xs⟩:=by
 rcases h with⟨rfl,rfl⟩|h
 ·simp at a
 ·exact h
theorem qR.same{Y Y':Hp}{Z Z' e s:Nat}{v:O}{xs:List zb}(h:qR Y Z e s v xs)(c:Z<=Z')(a:∀id n,v=.own id 0 n->Y' id=Y id):qR Y' Z' e s v xs:=by
 rcases h with⟨rfl,rfl⟩|⟨id,d,rfl,b⟩
 ·exact .inl ⟨rfl,rfl⟩
 ·exact .inr ⟨id,by omega,rfl,by rw[a id _ rfl];exact b⟩
def GM(Q:St->Prop)(K:Exit->St->Prop)(e:Exit)(st:St):Prop:=match e with
 | .normal=>Q st
 |e=>K e st
@[simp]theorem zic(Q:St->Prop)(K:Exit->St->Prop)(st:St):GM Q K .normal st=Q st:=rfl
@[simp]theorem zid(Q:St->Prop)(K:Exit->St->Prop)(st:St):GM Q K .ret st=K .ret st:=rfl
@[simp]theorem zie(Q:St->Prop)(K:Exit->St->Prop)(i:Nat)(st:St):GM Q K (.exit i) st=K (.exit i) st:=rfl
theorem Yw{C:Ctx}{a b:Code}{st:St}{K:Exit->St->Prop}(Q:St->Prop)(d:Zs C a st (GM Q K))(f:∀st,Q st->Zs C b st K):Zs C (.seq a b) st K:=by
 rw[fJ];refine d.mono fun e st c=>?_
 cases e
 case normal=>exact f _ c
 all_goals exact c
theorem q9{C:Ctx}{a b:Code}{st:St}{K:Exit->St->Prop}(Q:(Nat->O)->Hp->Nat->Prop)(c:Zs C a st (GM (fun st=>Q st.σ st.Y st.Z) K))(d:∀σ Y Z,Q σ Y Z->Zs C b ⟨σ,Y,Z⟩ K):Zs C (.seq a b) st K:=
 Yw _ c fun st h=>d st.σ st.Y st.Z h
variable{dr:Prop}
section
variable{C:Ctx}{pf:FuncId->Bool}{N:Nat}
@[simp]theorem w5(y:Code)(K:Exit->St->Prop)(st:St):EV dr C N y K .normal st=Wp dr C N y st K:=rfl
@[simp]theorem zhH(y:Code)(K:Exit->St->Prop)(st:St):EV dr C N y K .ret st=K .ret st:=rfl
@[simp]theorem zhI(y:Code)(K:Exit->St->Prop)(i:Nat)(st:St):EV dr C N y K (.exit i) st=K (.exit i) st:=rfl
@[simp]theorem zfM(I:Nat->St->Prop)(n:Nat)(K:Exit->St->Prop)(st:St):rB I n K .normal st=∃m,m<n/\I m st:=rfl
@[simp]theorem zfN(I:Nat->St->Prop)(n:Nat)(K:Exit->St->Prop)(st:St):rB I n K .ret st=K .ret st:=rfl
@[simp]theorem zfO(I:Nat->St->Prop)(n i:Nat)(K:Exit->St->Prop)(st:St):rB I n K (.exit i) st=K (.exit i) st:=rfl
theorem Wp.cut(f:kl dr C pf){a b:Code}{st:St}{K:Exit->St->Prop}(Q:(Nat->O)->Hp->Nat->Prop)(g:Zs C a st (GM (fun st=>Q st.σ st.Y st.Z) K))(h:∀σ Y Z,Q σ Y Z->Wp dr C N b ⟨σ,Y,Z⟩ K)(c:vj pf C.dyn C.I5 C.bk N a=true:=by kernel_rfl):Wp dr C N (.seq a b) st K:=
 Wp.seq ((Wp.of f g c).mono fun e i d=>by
  cases e<;>first
   |exact h _ _ _ d
   |exact d)
theorem ov{a:Array Oper}{K:St->Prop}(g:kl dr C pf):∀{l:List Nat} {c:List Oper} {l2:List Nat} {st b:St},l.map (fun i=>a[i]?)=c.map some->(∀o∈c,∀d,o.dst=some d->d<N)->vP C a c st=some b->kJ dr C N a l2 b K->kJ dr C N a (l++l2) st K
 |[],[],l2,st,b,_,_,h,e=>by simp only[vP]at h;injection h with h;subst h;exact e
 |[],_::_,_,_,_,h,_,_,_=>by simp at h
 |_::_,[],_,_,_,h,_,_,_=>by simp at h
 |i::l,o::c,l2,st,b,f,hd,h,e=>by
  simp only[zG,zi]at f;simp only[vP]at h;split at h
  ·rename_i s hs;exact kJ.cons g f.1 (hd o (by simp)) hs (ov g f.2 (fun o j=>hd o (by simp[j])) h e)
  ·cases h
theorem kJ.pre(f:kl dr C pf){a:Array Oper}{l l2:List Nat}{c:List Oper}{st:St}{K:St->Prop}(g:l.map (fun i=>a[i]?)=c.map some)(hd:c.all (fun o=>match o.dst with|some d=>decide (d<N)|none=>true)=true)(h:gV C a c st fun b=>kJ dr C N a l2 b K):kJ dr C N a (l++l2) st K:=by
 obtain⟨b,j,k⟩:=h;exact ov f g (fun o m d e=>by have:=zP.1 hd o m;rw[e]at this;simpa using this) j k
theorem kJ.Xn(j:kl dr C pf){c:Array Oper}{l2:List Nat}{st:St}{K:St->Prop}(a b:Nat)(l:a+b<=c.size)(hd:c.toList.all (fun o=>match o.dst with|some d=>decide (d<N)|none=>true)=true)(h:gV C c ((c.toList.drop a).take b) st fun f=>kJ dr C N c l2 f K):kJ dr C N c (List.range' a b++l2) st K:=by
 refine kJ.pre j ?_ ?_ h
 ·apply List.ext_getElem?;intro i;rw[qq,qq,yu];by_cases g:i<b
  ·have e:(List.range' a b)[i]?=some (a+i):=by rw[List.getElem?_range' g];simp
   rw[e,zl g,yd];have:a+i<c.size:=by omega
   simp[this]
  ·rw[zj g,qY (by simp;omega)];rfl
 ·exact zP.2 fun o k=>zP.1 hd o (fD _ _ (Kj _ _ k))
@[simp]theorem zif(P:Program)(t:TypeId)(a:Addr):KJ P t (.v (.slice (some a) 0 0))=(yq P t).map fun _=>.v (.int .i64 0):=rfl
end
variable{dr:Prop}
structure Hid (n1 i m:Nat) (g:List (List O)×Option (List O)) (w:World) (S:Nat->Prop) (G:Nat->GI) (Y:Hp) (Z:Nat):Prop where
 li:i<Z
 lm:m<Z
 s1:(G i).s=1
 new:n1<=(G i).g
 ai:KG S G Y (G i).g
 am:KG S G Y (G m).g
 obj:∃(en:Array MapEntry) (clock:Nat) (seen:Array Nat),w.heap[(G m).g]?=some (.map en clock)/\Stamped en clock/\w.heap[(G i).g]?=some (.mapIter (some (G m).g) clock seen clock) /\
  g.1.length=(leftOf en seen).toList.length/\(∀(j:Nat) (c:List O) (e:MapEntry),g.1[j]?=some c->(leftOf en seen).toList[j]?=some e->cF w S c e) /\
  ∀c,g.2=some c->∃e zg1,e∈en.toList/\seen=Array.push zg1 e.born/\cF w S c e
abbrev GS:=List zb×Option zb
section
variable{C:Ctx}{pf:FuncId->Bool}{N i m:Nat}
def WpG(dr:Prop)(C:Ctx)(N i m:Nat)(c:Code)(st:St)(g:GS)(K:Exit->St->GS->Prop):Prop:=
 ∀(d:World) (h L:Nat->Prop) (j:Nat) (k:Nat->GI) (n0:Nat) (a:Act) (w:World) (Q:Exit->Act->World->Prop) (S:Nat->Prop) (G:Nat->GI),n0<=d.heap.size->Qm dr C.P d h L N j k n0 st S G a w->Hid d.heap.size i m g w S G st.Y st.Z ->
  (∀e b l n f S' G',K e b l->Qm dr C.P d h L N j k n0 b S' G' n f->Hid d.heap.size i m l f S' G' b.Y b.Z->Q e n f)->c.wpIn Fence.wide 0 C.P Q a w
def L4(dr:Prop)(C:Ctx)(N i m:Nat)(y:Code)(K:Exit->St->GS->Prop)(e:Exit)(st:St)(g:GS):Prop:=match e with
 | .normal=>WpG dr C N i m y st g K
 |e=>K e st g
@[simp]theorem zhJ(y:Code)(K:Exit->St->GS->Prop)(st:St)(g:GS):L4 dr C N i m y K .normal st g=WpG dr C N i m y st g K:=rfl
@[simp]theorem zhK(y:Code)(K:Exit->St->GS->Prop)(st:St)(g:GS):L4 dr C N i m y K .ret st g=K .ret st g:=rfl
@[simp]theorem zhL(y:Code)(K:Exit->St->GS->Prop)(j:Nat)(st:St)(g:GS):L4 dr C N i m y K (.exit j) st g=K (.exit j) st g:=rfl
def CS(id:Nat)(K:Exit->St->GS->Prop)(e:Exit)(st:St)(g:GS):Prop:=match e with
 | .exit j=>if j=id then K .normal st g else K (.exit j) st g
 |e=>K e st g
@[simp]theorem zfP(id:Nat)(K:Exit->St->GS->Prop)(st:St)(g:GS):CS id K .normal st g=K .normal st g:=rfl
@[simp]theorem zfQ(id:Nat)(K:Exit->St->GS->Prop)(st:St)(g:GS):CS id K .ret st g=K .ret st g:=rfl
@[simp]theorem zfR(id j:Nat)(K:Exit->St->GS->Prop)(st:St)(g:GS):CS id K (.exit j) st g=if j=id then K .normal st g else K (.exit j) st g:=rfl
def CT(I:Nat->St->GS->Prop)(n:Nat)(K:Exit->St->GS->Prop)(e:Exit)(st:St)(g:GS):Prop:=match e with
 | .normal=>∃k,k<n/\I k st g
 |e=>K e st g
@[simp]theorem zfS(I:Nat->St->GS->Prop)(n:Nat)(K:Exit->St->GS->Prop)(st:St)(g:GS):CT I n K .normal st g=∃k,k<n/\I k st g:=rfl
@[simp]theorem zfT(I:Nat->St->GS->Prop)(n:Nat)(K:Exit->St->GS->Prop)(st:St)(g:GS):CT I n K .ret st g=K .ret st g:=rfl
@[simp]theorem zfU(I:Nat->St->GS->Prop)(n j:Nat)(K:Exit->St->GS->Prop)(st:St)(g:GS):CT I n K (.exit j) st g=K (.exit j) st g:=rfl
def Z4(a:Array Oper):Nat->Array Bool->List (List Nat)
 | 0,_=>[[]]
 |f+1,b=>if(Region.ready .any a b).isEmpty=true then[[]]else(Region.ready .any a b).flatMap fun i=>(Z4 a f (b.setIfInBounds i true)).map (i::·)
theorem ow(ops:Array Oper):∀(f t:Nat) (ls:Array Bool),Region.linearise.go .any ops f t ls []∈Z4 ops f ls
 | 0,t,ls=>by simp[Region.linearise.go,Z4]
 |f+1,t,ls=>by
  simp only[Region.linearise.go];change (match(Region.ready .any ops ls)[t % (Region.ready .any ops ls).length]? with
   |some i=>Region.linearise.go .any ops f (t/(Region.ready .any ops ls).length) (ls.setIfInBounds i true) [i]
   |none=>[].reverse)∈Z4 ops (f+1) ls
  unfold Z4;cases hi:(Region.ready .any ops ls)[t % (Region.ready .any ops ls).length]? with
  |none=>
   have hnil:Region.ready .any ops ls=[]:=by
    cases hr:Region.ready .any ops ls with
    |nil=>rfl
    |cons x xs=>rw[hr]at hi;have hlt:t % (x::xs).length<(x::xs).length:=Nat.mod_lt _ (by simp);simp at hi;simp at hlt;omega
   rw[hnil];simp
  |some i=>
   have hm:=zE hi;rw[zj (by intro he;rw[List.isEmpty_iff]at he;rw[he]at hm;cases hm)]
   simp only[];rw[linearise_go_acc,List.reverse_singleton,kh];exact List.mem_flatMap.2 ⟨i,hm,zZ.2 ⟨_,ow ops f _ _,rfl⟩⟩
theorem Wp.dS(hm:C.P.follows .mixedOrders=true){id:Nat}{ops:Array Oper}{st:St}{K:Exit->St->Prop}(h:∀l∈Z4 ops ops.size (Array.replicate ops.size false),kJ dr C N ops l st (vy K)):Wp dr C N (.region id ops true) st K:=
 fun w0 S0 L Z0 G0 n0 a w Q _ hs hQ=>wpIn_region_draw fun t=>by rw[hm];exact h _ (by simp only[Region.schedule,Bool.true_or,qh,Region.linearise];exact ow ops _ _ _) w0 S0 L Z0 G0 n0 a _ Q hs.drew fun st' a' w' hk hs'=>hQ .normal st' a' w' hk hs'
theorem kJ.ord(c:kl dr C pf){a:Array Oper}(l:List Nat){st:St}{K:St->Prop}(e:l.map (fun i=>a[i]?)=(l.filterMap fun i=>a[i]?).map some)(hd:a.toList.all (fun o=>match o.dst with|some d=>decide (d<N)|none=>true)=true)(h:gV C a (l.filterMap fun i=>a[i]?) st K):kJ dr C N a l st K:=by
 rw[<-wg l];refine kJ.pre c e (zP.2 fun o f=>zP.1 hd o ?_) ?_
 ·obtain⟨i,_,g⟩:=List.mem_filterMap.1 f;exact Array.mem_toList_iff.2 (Yo g)
 ·obtain⟨b,j,k⟩:=h;exact⟨b,j,kJ.nil k⟩
end
variable{dr:Prop}{C:Ctx}{N:Nat}{pf:FuncId->Bool}
variable{dr:Prop}{C:Ctx}{N:Nat}{pf:FuncId->Bool}
theorem bh{c:Array Oper}{d:Array Bool}{i:Nat}(h:i∈Region.ready .any c d):d[i]?=some false:=by
 have a:=(mem_ready.1 h).1;cases e:d[i]? with
 |none=>rw[wU,e]at a;cases a
 |some b=>rw[wU,e]at a;rw[show b=false from a]
theorem ig{a:Array Bool}{i:Nat}(h:a[i]?=some false):(a.setIfInBounds i true).toList.count false+1=a.toList.count false:=by
 have b:=(zU.1 h).1;have c:=(zU.1 h).2;rw[Array.toList_setIfInBounds,List.count_set (by simpa using b)];have Y:0<a.toList.count false:=List.count_pos_iff.2 (by rw[<-c];simp);have d:(a.toList[i]'(by simpa using b)==false)=true:=by simp[c]
 rw[zl d,zj (by decide)];omega
theorem kJ.ready{a:Array Oper}{K:St->Prop}(I:Array Bool->St->Prop)
  (c:∀(b:Array Bool) (st:St) (i:Nat),b.size=a.size->I b st->i∈Region.ready .any a b->∀(l:List Nat),(∀g,I (b.setIfInBounds i true) g->kJ dr C N a l g K)->kJ dr C N a (i::l) st K)
  (d:∀(b:Array Bool) (st:St),b.size=a.size->I b st->Region.ready .any a b=[]->K st) :
  ∀(f:Nat) (b:Array Bool) (st:St),b.size=a.size->I b st->b.toList.count false<=f->∀l∈Z4 a f b,kJ dr C N a l st K
 | 0,b,st,hs,h,n,l,e=>by
  have o:Region.ready .any a b=[]:=by rw[List.eq_nil_iff_forall_not_mem];intro i j;have:=ig (bh j);omega
  simp only[Z4,yf]at e;subst e;exact kJ.nil (d b st hs h o)
 |f+1,b,st,hs,h,n,l,e=>by
  unfold Z4 at e;split at e
  ·rename_i p;simp only[yf]at e;subst e;exact kJ.nil (d b st hs h (List.isEmpty_iff.1 p))
  ·obtain⟨i,j,e⟩:=List.mem_flatMap.1 e;obtain⟨l',k,rfl⟩:=zZ.1 e;have q:=ig (bh j);exact c b st i hs h j l' fun g m=>kJ.ready I c d f _ g (by simpa using hs) m (by omega) l' k
theorem Wp.zau(f:C.P.follows .mixedOrders=true){id:Nat}{a:Array Oper}{st:St}{K:Exit->St->Prop}(I:Array Bool->St->Prop)(g:I (Array.replicate a.size false) st)
  (c:∀(b:Array Bool) (st:St) (i:Nat),b.size=a.size->I b st->i∈Region.ready .any a b->∀(l:List Nat),(∀d,I (b.setIfInBounds i true) d->kJ dr C N a l d (vy K))->kJ dr C N a (i::l) st (vy K))
  (e:∀(b:Array Bool) (st:St),b.size=a.size->I b st->Region.ready .any a b=[]->K .normal st):Wp dr C N (.region id a true) st K:=
 Wp.dS f fun l h=>kJ.ready I c e a.size _ st (by simp) g (zM List.count_le_length (by simp)) l h
end Go.AM
