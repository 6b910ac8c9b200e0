/- Lemmas. -/
import Derived.ProofKit
import Derived.Lib.Strings
import Derived.Carry
import Derived.ChangeSame
import Derived.OpenShut
import Derived.Shelf.Small.Strs
import Derived.Shelf.Strconv.Itoa0
import Derived.Ground.Names2Prog
import Derived.Test.YtcebnehlnlcckaaGreatDoorProg
import Derived.Test.YtcebnehlnlcckaaGreatDoorG3
set_option maxRecDepth 8000
open Go Proofs Proofs.YtcebnehlnlcckaaGreatDoor Proofs.Tryz RowKit AM SpanLaw Q Zz
namespace Go.AM
variable{dr:Prop}
section
variable{C:Ctx}{pf:FuncId->Bool}
theorem YZ{w:World}{S:Nat->Prop}{G:Nat->GI}{st:St}{a:Act}(hi:Inv C.P w S G st.Y st.Z)(hs:∀t,qe w S G st.Z (st.U t) (a.tmps.getD t undef)) :
  ∀{l:List ResultVar} {xs:zb},yh (l.map (WJ C.P st))=some xs->∃vs,(l.mapM (m:=Sem) fun r=>match r with
   | .tmp t=>pure (a.tmps.getD t undef)
   | .cell p t=>do loadVar t (<-asAddr (a.tmps.getD p undef))).run C.P w=.ok vs w/\Zip (qe w S G st.Z) xs vs
 |[],xs,h=>by
  simp only[KH,yh]at h;injection h with h
  subst h;exact⟨[],by simp,.nil⟩
 |r::l,xs,h=>by
  simp only[wc]at h;cases d:WJ C.P st r with
  |none=>rw[d]at h;simp[yh]at h
  |some p=>
   rw[d]at h;simp only[yh]at h;cases B:yh (l.map (WJ C.P st))with
   |none=>rw[B]at h;simp at h
   |some ys=>
    rw[B]at h;simp at h;subst h;obtain⟨vs,I,J⟩:=YZ hi hs B;cases r with
    |tmp t=>
     simp only[WJ]at d;injection d with d
     subst d;refine⟨a.tmps.getD t undef::vs,?_,.cons (hs t) J⟩;simp only[List.mapM_cons,vS,Wn,kA,I]
    |cell q t=>
     simp only[WJ]at d;obtain⟨v,w',S',G',M,k,hx⟩:=nY (dr:=True) hi d (hs q);have y:=hs q;have D:∃v,(do loadVar t (<-asAddr (a.tmps.getD q undef)):Sem Value).run C.P w=.ok v w/\qe w S G st.Z p v:=by
      unfold xB at d;split at d
      ·rename_i cs f;rw[f]at y;have E:=y.KK;generalize a.tmps.getD q undef=u at *;cases E with
       |ptr us N Q=>obtain⟨v,z,n⟩:=V6 (G:=G) (Z:=st.Z) (w:=w) (S:=S) d _ us (fun j A K=>⟨(N j A K).2,.c (Q j A K)⟩);exact⟨v,by simp[asAddr,z],n⟩
      ·rename_i id i j f;rw[f]at y;have F:=y.c7;obtain⟨hid,R⟩:=y.WV;rw[R]at M⊢;split at d
       ·rename_i b T;split at d
        ·rename_i c E;obtain⟨o,W,h4,X⟩:=(hi.live id b T).row F;have x:∀k:Nat,w.cell? ((⟨(G id).g,i*(G id).s+j,none⟩:Addr).add k)=o[i*(G id).s+j+k]?:=by intro k;rw[kg,UA w _ _ o _ _ W]
         obtain⟨v,z,n⟩:=V6 (G:=G) (Z:=st.Z) (w:=w) (S:=S) d ⟨(G id).g,i*(G id).s+j,none⟩ (fun k=>(o[i*(G id).s+j+k]?).getD undef) (fun k A L=>by
          rw[qK]at L;obtain⟨u,h6,h7⟩:=X i (j+k) c A E L;rw[x];have e:i*(G id).s+j+k=i*(G id).s+(j+k):=by omega
          rw[e,h6];exact⟨rfl,h7.2.1⟩)
         exact⟨v,by simp[asAddr,z],n⟩
        ·cases d
       ·cases d
      ·cases d
     obtain⟨v,z,H⟩:=D;refine⟨v::vs,?_,.cons H J⟩;simp only[List.mapM_cons,vS,z,kA,I,Wn]
theorem J3{P:Program}{fn:Func}{a:Array Value}{R:Ending->World->Prop}:∀(c:List Nat) (w:World),c.Nodup->(∀D∈c,w.heap[D]?=some (.deferred (some [])))->(∀f,Fr dr w (fun b=>b∈c) f->LeavesIn Fence.wide 0 P fn a R [] .returning f)->LeavesInM Fence.wide 0 P fn a R (c.map fN) .returning w
 |[],w,_,_,h=>h w (Fr.refl _ _)
 |D::c,w,i,hd,h=>by
  obtain⟨j,l⟩:=List.nodup_cons.1 i;refine⟨by simp,.inl ⟨D,_,rfl,run_takeDeferred (hd D (by simp)),J3 c _ l (fun g d=>?_) fun f m=>h f ?_⟩⟩
  ·exact(zee (k:=g) (r:=D) fun e=>j (by rw[<-e];exact d)).trans (hd g (by simp[d]))
  ·exact(C9 (.deferred none) (fun b=>b∈D::c) (by simp)).trans m (fun b _ n=>by simp[n])
theorem iD(Q:∀g a,C.Γ g=some a->kh dr C.P g a)(R:∀g a,pf g=true->C.Γ g=some a->Q9 a)(T:∀g a,C.bk g=true->C.Γ g=some a->QU a)(hit:∀g it,C.it g=some it->uA dr C.P g it)(hm:C.P.follows .mixedOrders=true)
  {f:FuncId} {fn:Func} {code:Code} (hf:C.P.funcs[f]?=some fn) (k:fn.body=some code) (W:vI pf C.dyn C.Lr C.bk fn.ntmps code=true)
  {args:zb} {Y N:Hp} {Z E:Nat} {x:O} (h:jJ C fn args Y Z=some (x,N,E)) {w:World} {S:Nat->Prop} {G:Nat->GI} {vs:List Value} (hi:Inv C.P w S G Y Z) (X:Zip (qe w S G Z) args vs) (hn:args.length<=fn.ntmps) :
  Calls C.P f vs.toArray w fun e w'=>∃v S' G',e=.returned v/\kO dr C.P Y Z S G w N E S' G' w'/\qe w' S' G' E x v:=by
 unfold jJ at h;simp only[k]at h;refine mK.1 (callsIn_of_wp_marks (n:=0) hf k trivial ?_);have H:gz dr C.P w S (kF Y G) fn.ntmps Z G w.heap.size ⟨kE args,Y,Z⟩ {tmps:=vs.toArray++Array.replicate (fn.ntmps-vs.toArray.size) undef,defers:=[]} w:=by
  refine⟨S,G,hi,fun t=>?_,?_,.nil (zk _),fun _ h=>h,fun _ h=>.inl h,fun id b k=>.inl ⟨id,b,k,rfl⟩,Fr.refl _ _,zk _,fun _ _=>rfl⟩
  ·have hvl:vs.length=args.length:=X.1.symm;unfold kE;by_cases ht:t<args.length
   ·have p:args[t]?=some args[t]:=zl ht;have l:vs[t]?=some (vs[t]'(by omega)):=zl (by omega);have h3:=X.2 t _ _ p l;have h4:(vs.toArray++Array.replicate (fn.ntmps-vs.toArray.size) undef)[t]?=vs[t]?:=by rw[vm (by simpa using(by omega:t<vs.length))];simp
    simp only[p,Wo];rw[YR,h4,l];exact h3
   ·have p:args[t]?=none:=jr (by omega);have h4:(vs.toArray++Array.replicate (fn.ntmps-vs.toArray.size) undef).getD t undef=undef:=by rw[YR,Array.getElem?_append_right (by simpa using(by omega:vs.length<=t)),Array.getElem?_replicate];split<;>rfl
    simp only[p,Option.getD_none];rw[h4];exact jM
  ·have hvl:vs.length=args.length:=X.1.symm;simp;omega
 have I:∀(e:Exit) (st:St),(e=.normal\/e=.ret)->qV C code ⟨kE args,Y,Z⟩=some (e,st)->(xP C.P fn st).map (fun x=>(x,st.Y,st.Z))=some (x,N,E) ->
   code.wpIn Fence.wide 0 C.P (bodyPostM Fence.wide 0 C.P fn fun e w'=>∃v S' G',e=.returned v/\kO dr C.P Y Z S G w N E S' G' w'/\qe w' S' G' E x v) {tmps:=vs.toArray++Array.replicate (fn.ntmps-vs.toArray.size) undef,defers:=[]} w:=by
  intro e st he m hr;obtain⟨r,d,s⟩:=zV hr;injection s with e1 s
  injection s with e2 e3;subst e1;subst e2;subst e3;refine iC Q R T hit hm code W Fence.wide 0 (.inl rfl) (.inl rfl) w S (kF Y G) Z G w.heap.size _ st e _ w _ (zk _) m H fun F w1 hs'=>?_
  obtain⟨S',G',c⟩:=hs';obtain⟨hd0,Ds,hd1,hd2,o⟩:=c.defers;have J:LeavesInM Fence.wide 0 C.P fn F.tmps (fun e w'=>∃v S' G',e=.returned v/\kO dr C.P Y Z S G w st.Y st.Z S' G' w'/\qe w' S' G' st.Z r v) F.defers .returning w1:=by
   rw[hd1];refine J3 (dr:=dr) Ds w1 hd2 (fun D hD=>(o D hD).2.1) fun w' A=>?_
   have K:∀b,b∈Ds->K5 S' G' st.Y b:=fun b k=>⟨(o b k).2.2.1,(o b k).2.2.2⟩
   have q:=c.inv.frame A K;have UE:∀t,qe w' S' G' st.Z (st.U t) (F.tmps.getD t undef):=fun t=>(c.xc t).mono (fun b k=>⟨k,A.block b (c.inv.st b k) fun hb'=>(K b hb').1 k⟩) (zk _) (fun _ _=>rfl)
   have hk:kO dr C.P Y Z S G w st.Y st.Z S' G' w':=⟨q,c.up,c.loc,c.s0,c.s1,c.own,c.fr.trans A fun b k p=>by have:=(o b p).1;omega⟩;have L:∃v,(results fn F.tmps).run C.P w'=.ok v w'/\qe w' S' G' st.Z r v:=by
    unfold xP at d;have go:∀xs,yh (fn.results.toList.map (WJ C.P st))=some xs->r=(match xs with|[x]=>x|xs=>.wP xs)->∃v,(results fn F.tmps).run C.P w'=.ok v w'/\qe w' S' G' st.Z r v:=by
     intro xs hx i;obtain⟨us,p,l⟩:=YZ q UE hx;have M:(results fn F.tmps).run C.P w'=.ok (if h:us.toArray.size=1 then us.toArray[0]else .tuple us.toArray) w':=by unfold results;rw[Array.mapM_eq_mapM_toList];simp only[vS,Sem.run_map];erw [p];rfl
     refine⟨_,M,?_⟩
     match xs,l,i with
     |[],l,i=>rw[l.Wq];subst i;exact .wP rfl (by simp)
     |[y],l,i=>obtain⟨u,rfl,hu⟩:=WN l;subst i;simpa using hu
     |y::z::ys,l,i=>have hl:=l.1;subst i;rw[dif_neg (by simp at hl⊢;omega)];exact .wP (by simpa using hl) (fun j pv u hj hu=>l.2 j pv u hj (by simpa using hu))
    split at d
    ·rename_i y hy;injection d with d
     exact go [y] hy d.symm
    ·rename_i xs B hx;injection d with d
     refine go xs hx ?_;rw[<-d]
     match xs,B with
     |[],_=>rfl
     |[y],B=>exact(B y rfl).elim
     |y::z::ys,_=>rfl
    ·cases d
   obtain⟨v,hv1,hv2⟩:=L;exact⟨v,hv1,v,S',G',rfl,hk,hv2⟩
  rcases he with rfl|rfl
  ·exact J
  ·exact J
 split at h
 ·rename_i st m;exact I _ st (.inl rfl) m h
 ·rename_i st m;exact I _ st (.inr rfl) m h
 ·cases h
end
variable{dr:Prop}
def O.isV:O->Bool
 | .v _=>true
 |_=>false
def O.flat:O->Bool
 | .v _=>true
 | .wP cs=>cs.all O.isV
 |_=>false
def L5(s:Nat):O->O
 | .nil=>.sl s []
 |x=>x
def yj:List Nat->zb->zb
 |s::a,x::l=>L5 s x::yj a l
 |_,l=>l
def Da(x y:O):Prop:=x=y\/(x=.nil/\∃s,y=.sl s [])
def YC:O->O->Prop
 | .wP xs,.wP ys=>xs.length=ys.length/\∀(j:Nat) (x y:O),xs[j]?=some x->ys[j]?=some y->Da x y
 |x,y=>Da x y
def zg(a:Bool)(b:List Nat)(F:zb->Option O):AM.Spec:=fun args Y Z=>
 match zD Y args with
 |some (c,Y1)=>match F (yj b c)with
  |some r=>if r.flat=true\/args.all O.noOwn=true then some (r,Y,Z)else if a=true then some (r,Y1,Z)else none
  |none=>none
 |none=>none
def yI(a:List Nat)(F:zb->Option (Option kN)):AM.Spec:=fun args Y Z=>
 match zD Y args with
 |some (c,Y1)=>match F (yj a c)with
  |some none=>some (.nil,Y1,Z)
  |some (some b)=>some (.own Z 0 b.es.length,qR Y1 Z (some b),Z+1)
  |none=>none
 |none=>none
theorem L6{α:Type}(f:Nat->α){i j:Nat}(h:i≠j)(x y:α):qR (qR f i x) j y=qR (qR f j y) i x:=by
 funext k;unfold qR;by_cases hi:k=i
 ·subst hi;simp[h]
 ·simp[hi]
theorem Vg{Y Y1:Hp}{x y:O}{Z:Nat}(f:Y Z=none)(b:Option kN)(h:wV Y x=some (y,Y1)):wV (qR Y Z b) x=some (y,qR Y1 Z b)/\Y1 Z=none:=by
 unfold wV at h;split at h
 ·rename_i id off n;split at h
  ·rename_i j g;have a:id≠Z:=fun e=>by rw[e,f]at g;cases g
   split at h
   ·rename_i i;injection h with h
    injection h with c d;subst c;subst d;refine⟨?_,by rw[wi _ _ _ _ a.symm];exact f⟩;unfold wV;simp only[wi Y Z id b a,g,i,and_self,qB];rw[L6 Y a.symm]
   ·cases h
  ·cases h
 all_goals first
  |(injection h with h;injection h with c d;subst c;subst d;exact⟨rfl,f⟩)
  |(split at h
    ·rename_i i;injection h with h;injection h with c d;subst c;subst d
     exact⟨by unfold wV;simp only[i,and_self,qB],f⟩
    ·cases h)
  |cases h
theorem KV{Z:Nat}(b:Option kN):∀{xs ys:zb} {Y Y1:Hp},Y Z=none->wx Y xs=some (ys,Y1)->wx (qR Y Z b) xs=some (ys,qR Y1 Z b)/\Y1 Z=none
 |[],ys,Y,Y1,a,h=>by
  simp only[wx]at h;injection h with h;injection h with c d;subst c;subst d
  exact⟨rfl,a⟩
 |x::l,ys,Y,Y1,a,h=>by
  simp only[wx]at h;split at h
  ·rename_i y Y2 e;split at h
   ·rename_i r f g;injection h with h;injection h with c d;subst c;subst d
    obtain⟨i,j⟩:=Vg a b e;obtain⟨k,m⟩:=KV b j g;exact⟨by simp only[wx,i,k],m⟩
   ·cases h
  ·cases h
theorem mW{Y Y1:Hp}{x y:O}{Z:Nat}(a:Y Z=none)(b:Option kN)(h:qD Y x=some (y,Y1)):qD (qR Y Z b) x=some (y,qR Y1 Z b)/\Y1 Z=none:=by
 cases x with
 |agg cs=>
  simp only[qD]at h⊢;split at h
  ·rename_i l i c;injection h with h;injection h with d e;subst d;subst e
   obtain⟨f,g⟩:=KV b a c;exact⟨by simp only[f],g⟩
  ·cases h
 |_=>simp only[qD]at h⊢;exact Vg a b h
theorem Vh{Z:Nat}(b:Option kN):∀{xs ys:zb} {Y Y1:Hp},Y Z=none->zD Y xs=some (ys,Y1)->zD (qR Y Z b) xs=some (ys,qR Y1 Z b)/\Y1 Z=none
 |[],ys,Y,Y1,a,h=>by
  simp only[zD]at h;injection h with h;injection h with c d;subst c;subst d
  exact⟨rfl,a⟩
 |x::l,ys,Y,Y1,a,h=>by
  simp only[zD]at h;split at h
  ·rename_i y Y2 e;split at h
   ·rename_i r f g;injection h with h;injection h with c d;subst c;subst d
    obtain⟨i,j⟩:=mW a b e;obtain⟨k,m⟩:=Vh b j g;exact⟨by simp only[zD,i,k],m⟩
   ·cases h
  ·cases h
theorem zu(a:List Nat)(F:zb->Option O):Q9 (zg false a F):=by
 intro args Y Z r k l h;unfold zg at h;split at h
 ·rename_i c Y1 d;split at h
  ·rename_i m hF;split at h
   ·rename_i e;injection h with h
    injection h with f h;injection h with g i;subst f;refine⟨⟨g.symm,i.symm⟩,fun b j=>?_⟩;unfold zg;simp only[(Vh b j d).1,hF];rw[ze e]
   ·simp at h
  ·cases h
 ·cases h
structure fM (C:Ctx) (pf:FuncId->Bool) (f:FuncId) (fn:Func) (code:Code):Prop where
 func:C.P.funcs[f]?=some fn
 name:(fn.name== "runtime.NumGoroutine")=false
 body:fn.body=some code
 ok:vI pf C.dyn C.Lr C.bk fn.ntmps code=true
structure xJ (dr:Prop) (C:Ctx) (pf:FuncId->Bool):Prop where
 spec:∀g spec,C.Γ g=some spec->kh dr C.P g spec
 quiet:∀g spec,pf g=true->C.Γ g=some spec->Q9 spec
 mixed:C.P.follows .mixedOrders=true
 box:∀g spec,C.bk g=true->C.Γ g=some spec->QU spec:=by intro _ _ h;cases h
 iter:∀g it,C.it g=some it->uA dr C.P g it:=by intro _ _ h;cases h
abbrev Good:=xJ True
section
variable{C:Ctx}{pf:FuncId->Bool}{f:FuncId}{fn:Func}{code:Code}
theorem kO.outer{P:Program}{Y:Hp}{Z:Nat}{S:Nat->Prop}{G:Nat->GI}{w w':World}(h:Inv P w S G Y Z)(k:Fr dr w (fun _=>False) w') :
  kO dr P Y Z S G w Y Z (fun b=>S b\/(w.heap.size<=b/\b<w'.heap.size)) G w':=by
 have c:∀b,b<w.heap.size->w'.heap[b]?=w.heap[b]?:=fun b a=>k.block b a fun h=>h
 have d:∀b,S b->(S b\/(w.heap.size<=b/\b<w'.heap.size))/\w'.heap[b]?=w.heap[b]?:=fun b a=>⟨.inl a,c b (h.st b a)⟩
 refine⟨⟨fun b a=>?_,h.top,fun id b a=>(h.live id b a).mono d (zk _) (fun _ _=>rfl) (c _ (h.live id b a).lt),fun id b a hs=>?_,h.inj,h.gT.mono d⟩,zk _,fun _ _=>rfl,fun _ a=>.inl a,fun b a=>?_,fun id b a=>.inl ⟨id,b,a,rfl⟩,⟨k.os,k.tape,k.output,k.size,k.drawn,fun b a _=>c b a⟩⟩
 ·rcases a with a|a
  ·exact yZ (h.st b a) k.size
  ·exact a.2
 ·rcases hs with hs|hs
  ·exact h.apart id b a hs
  ·have:=(h.live id b a).lt;omega
 ·rcases a with a|a
  ·exact .inl a
  ·exact .inr (.inr a.1)
theorem dm{P:Program}{w:World}{S:Nat->Prop}(G:Nat->GI)(a:∀b,S b->b<w.heap.size)(c:Gl P w S):Inv P w S G (fun _=>none) 0:=
 ⟨a,fun _ _ h=>(by cases h),fun _ _ h=>(by cases h),fun _ _ h=>(by cases h),fun _ _ _ _ h=>(by cases h),c⟩
theorem QC{G:Nat->GI}{b:Nat}(h:kF (fun _=>none) G b):False:=by obtain⟨_,_,h,_⟩:=h;cases h
theorem Zip.closed{w:World}{S:Nat->Prop}{G:Nat->GI}{Z:Nat}{xs:zb}{us:List Value}(h:Zip (wH w S) xs us):Zip (qe w S G Z) xs us:=h.imp fun _ _ h=>.c h
theorem iE{w w':World}{S S':Nat->Prop}{r:O}{v:Value}(h:wH w S r v)(a:r.flat=true):wH w' S' r v:=by
 cases h with
 |v h=>exact .v h
 |wP b e=>
  refine .wP b fun j c u d f=>?_
  simp only[O.flat,zY]at a;have:=a c (zL d);have g:=e j c u d f;cases c<;>simp[O.isV]at this;obtain⟨rfl,b⟩:=g.wX;exact .v b
 |_=>simp[O.flat]at a
theorem ZA(c:xJ dr C pf)(i:fM C pf f fn code){args:zb}{x:O}{Y1:Hp}{a:Nat}(h:jJ C fn args (fun _=>none) 0=some (x,Y1,a))(l:args.length<=fn.ntmps)
  {w:World} {S:Nat->Prop} {vs:List Value} (m:∀b,S b->b<w.heap.size) (j:Gl C.P w S) (n:Zip (wH w S) args vs) :
  Calls C.P f vs.toArray w fun e w'=>∃v S' G',e=.returned v/\Fr dr w (fun _=>False) w'/\Inv C.P w' S' G' Y1 a/\qe w' S' G' a x v/\(∀b,S b->S' b)/\(∀b,S' b->S b\/w.heap.size<=b)/\(∀id blk,Y1 id=some blk->w.heap.size<=(G' id).g):=by
 refine(iD c.spec c.quiet c.box c.iter c.mixed i.func i.body i.ok h (dm (fun _=>⟨0,0,0⟩) m j) n.closed l).mono fun e w' o=>?_
 obtain⟨v,S',G',p,k,q⟩:=o;refine⟨v,S',G',p,⟨k.fr.os,k.fr.tape,k.fr.output,k.fr.size,k.fr.drawn,fun b d _=>k.fr.block b d QC⟩,k.inv,q,k.keep,fun b d=>?_,fun id blk d=>?_⟩
 ·rcases k.from_ b d with h|h|h
  ·exact .inl h
  ·exact(QC h).elim
  ·exact .inr h
 ·rcases k.own id blk d with h|h
  ·exact(QC h).elim
  ·exact h
theorem oi{w:World}{S:Nat->Prop}{x:O}{u:Value}(h:wH w S x u)(s:Nat):wH w S (L5 s x) u:=by
 unfold L5;split
 ·cases h;exact .sl (es:=[]) (fun _ _=>undef) (by simp) (by simp) (by simp[maxLen]) (by simp) (by simp) (by simp)
 ·exact h
theorem Wa{w:World}{S:Nat->Prop}:∀{a:List Nat} {xs:zb} {us:List Value},Zip (wH w S) xs us->Zip (wH w S) (yj a xs) us
 |[],xs,us,h=>by unfold yj;exact h
 |s::a,[],us,h=>by unfold yj;exact h
 |s::a,x::xs,us,h=>by obtain⟨u,b,rfl,c,d⟩:=h.jG;simp only[yj];exact .cons (oi c s) (Wa d)
theorem Fk{w:World}{S:Nat->Prop}{x y:O}{u:Value}(h:wH w S x u)(a:Da x y):wH w S y u:=by
 rcases a with rfl|⟨rfl,s,rfl⟩
 ·exact h
 ·exact oi h s
theorem rq{w:World}{S:Nat->Prop}{x y:O}{u:Value}(h:wH w S x u)(a:YC x y):wH w S y u:=by
 unfold YC at a;split at a
 ·cases h with
  |wP g d=>
   rename_i xs ys us;refine .wP (by omega) fun j e v c f=>?_
   have b:j<xs.length:=by rw[a.1];exact(zi.1 c).1
   exact Fk (d j xs[j] v (zl b) f) (a.2 j xs[j] e (zl b) c)
 ·exact Fk h a
theorem uB(hg:xJ dr C pf)(q:fM C pf f fn code)(j:Bool)(ns:List Nat)(F:zb->Option O)(hF:∀args r,F args=some r->args.length<=fn.ntmps/\∃s,zo C fn args=some s/\YC s r):kh dr C.P f (zg j ns F):=by
 refine⟨⟨fn,q.func,q.name,by rw[q.body];rfl⟩,?_⟩;intro args Y Z r Y' Z' h w S G vs hi hz;unfold zg at h;split at h
 ·rename_i aZ Y1 u;split at h
  ·rename_i s y;obtain⟨hn,rr,a,z⟩:=hF _ s y;unfold zo at a;split at a
   ·rename_i x hpe nxe A;obtain⟨⟨r1,T⟩,B,k⟩:=zV a;simp only at k;subst k;obtain⟨S1,t,D,E⟩:=jN (dr:=dr) hi u hz;refine(ZA hg q A hn t.inv.st t.inv.gT (Wa D)).mono fun e w' hh=>?_
    obtain⟨v,S',G',W,X,l,hx,hs0,H,_⟩:=hh;obtain⟨S2,k2,I⟩:=WL (dr:=dr) l B hx;have J:=rq I z;have m:∀b,S2 b->S1 b\/(w.heap.size<=b/\b<w'.heap.size):=by
     intro b i;have n:=k2.inv.st b i;rcases k2.from_ b i with h1|⟨id,blk,h1,rfl⟩|h1
     ·rcases H b h1 with K|K
      ·exact .inl K
      ·exact .inr ⟨K,n⟩
     ·rcases Nat.lt_or_ge (G' id).g w.heap.size with h3|h3
      ·rename_i o;have:=o id blk h1;omega
      ·exact .inr ⟨h3,n⟩
     ·exact absurd h1 (by omega)
    split at h
    ·rename_i d;injection h with h
     injection h with L h;injection h with M N;subst L;subst M;subst N;refine⟨v,_,G,W,kO.outer hi X,.c ?_⟩;rcases d with Q|R
     ·exact iE J Q
     ·have p:=E R;exact J.mono fun b i=>⟨by rw[<-p];exact m b i,rfl⟩
    ·split at h
     ·injection h with h;injection h with L h;injection h with M N;subst L;subst M;subst N;exact⟨v,_,G,W,t.trans (kO.outer t.inv X),.c (J.mono fun b i=>⟨m b i,rfl⟩)⟩
     ·cases h
   ·cases a
  ·cases h
 ·cases h
end
variable{dr:Prop}
section
variable{P:Program}{Y1 Y2 hpe:Hp}{Z nxe:Nat}{S1 S':Nat->Prop}{G G':Nat->GI}{w w':World}{D:Nat->Prop}
theorem dn(hi:Inv P w S1 G Y1 Z)(a:∀id b,Y2 id=some b->Y1 id=some b/\¬D (G id).g)(l:∀b,D b->kF Y1 G b)(d:Fr dr w D w')(e:Inv P w' S' G' hpe nxe)(f:∀b,S1 b->S' b)(i:∀b,S' b->S1 b\/D b\/w.heap.size<=b) :
  kO dr P Y1 Z S1 G w Y2 Z S' G w':=by
 have m:∀b,S1 b->¬D b:=fun b c hd=>by obtain⟨id,blk,p,rfl⟩:=l b hd;exact hi.apart id blk p c
 have q:∀b,S1 b->S' b/\w'.heap[b]?=w.heap[b]?:=fun b c=>⟨f b c,d.block b (hi.st b c) (m b c)⟩
 refine⟨⟨e.st,fun id b c=>hi.top id b (a id b c).1,fun id b c=>?_,fun id b c hs=>?_,fun id id' b o c n r=>hi.inj id id' b o (a id b c).1 (a id' o n).1 r,e.gT⟩,zk _,fun _ _=>rfl,f,fun b c=>?_,fun id b c=>.inl ⟨id,b,(a id b c).1,rfl⟩,⟨d.os,d.tape,d.output,d.size,d.drawn,fun k s t=>d.block k s fun hd=>t (l k hd)⟩⟩
 ·have j:=hi.live id b (a id b c).1;exact j.mono q (zk _) (fun _ _=>rfl) (d.block _ j.lt (a id b c).2)
 ·have j:=hi.live id b (a id b c).1;rcases i _ hs with h|h|h
  ·exact hi.apart id b (a id b c).1 h
  ·exact(a id b c).2 h
  ·have:=j.lt;omega
 ·rcases i b c with h|h|h
  ·exact .inl h
  ·exact .inr (.inl (l b h))
  ·exact .inr (.inr h)
theorem uC(hi:Inv P w S1 G Y1 Z)(f:∀id b,Y2 id=some b->Y1 id=some b/\¬D (G id).g)(L:∀b,D b->kF Y1 G b)(N:Fr dr w D w')(l:Inv P w' S' G' hpe nxe)(E:∀b,S1 b->S' b)(F:∀b,S' b->S1 b\/D b\/w.heap.size<=b)
  {id:Nat} {b:kN} (B:hpe id=some b) (v:b.arr=true) (s:D (G' id).g\/w.heap.size<=(G' id).g) :
  kO dr P Y1 Z S1 G w (qR Y2 Z (some b)) (Z+1) S' (qR G Z (G' id)) w':=by
 have x:=dn hi f L N l E F;have y:∀id' z,Y2 id'=some z->(G id').g≠(G' id).g:=fun id' z M q=>by
  rcases s with h|h
  ·exact(f id' z M).2 (q ▸ h)
  ·have:=(hi.live id' z (f id' z M).1).lt;omega
 have r:∀k,k<Z->qR G Z (G' id) k=G k:=fun k a=>wi _ _ _ _ (by omega)
 have m:∀k,k≠Z->qR Y2 Z (some b) k=Y2 k:=fun k a=>wi _ _ _ _ a
 have H:∀b,S' b->S' b/\w'.heap[b]?=w'.heap[b]?:=fun b B=>⟨B,rfl⟩
 have e:∀k c,Y2 k=some c->k<Z:=fun k c a=>hi.top k c (f k c a).1
 refine⟨⟨l.st,fun k c a=>?_,fun k c a=>?_,fun k c a=>?_,fun k n c A a o q=>?_,l.gT⟩,by omega,r,x.keep,x.from_,fun n c a=>?_,x.fr⟩
 ·by_cases d:k=Z
  ·omega
  ·rw[m k d]at a;have:=e k c a;omega
 ·by_cases d:k=Z
  ·subst d;simp only[wL]at a⊢;injection a with a
   subst a;have t:=l.live id _ B;refine⟨t.bs,fun C=>⟨t.size C,t.len C,t.fit C,?_⟩,t.UD⟩;obtain⟨I,Q,R,S⟩:=t.row C;refine⟨I,Q,R,fun i j c T J W=>?_⟩;obtain⟨u,X,K⟩:=S i j c T J W;exact⟨u,X,K.1,.c (K.1 v),K.2.2⟩
  ·rw[m k d]at a;rw[r k (e k c a)];exact(x.inv.live k c a).mono H (by omega) r rfl
 ·by_cases d:k=Z
  ·subst d;simp only[wL];exact l.apart id b B
  ·rw[m k d]at a;rw[r k (e k c a)];exact x.inv.apart k c a
 ·by_cases d:k=Z<;>by_cases p:n=Z
  ·omega
  ·subst d;rw[m n p]at o;rw[r n (e n A o)]at q;simp only[wL]at q;exact(y n A o q.symm).elim
  ·subst p;rw[m k d]at a;rw[r k (e k c a)]at q;simp only[wL]at q;exact(y k c a q).elim
  ·rw[m k d]at a;rw[m n p]at o;rw[r k (e k c a),r n (e n A o)]at q;exact hi.inj k n c A (f k c a).1 (f n A o).1 q
 ·by_cases d:n=Z
  ·subst d;simp only[wL];rcases s with h|h
   ·exact .inl (L _ h)
   ·exact .inr h
  ·rw[m n d]at a;rw[r n (e n c a)];exact .inl ⟨n,c,(f n c a).1,rfl⟩
theorem uD{id n:Nat}{v:Value}(h:qe w' S' G' nxe (.own id 0 n) v):qe w' S' (qR G Z (G' id)) (Z+1) (.own Z 0 n) v:=by have a:=h.xk;obtain⟨cap,e,b,c,d,rfl⟩:=h.vH;have:=qe.own (w:=w') (S:=S') (G:=qR G Z (G' id)) (Z:=Z+1) (id:=Z) (off:=0) (n:=n) (cap:=cap) (by omega) b c (by simpa using d) (by simpa using a);simpa using this
end
section
variable{C:Ctx}{pf:FuncId->Bool}{f:FuncId}{fn:Func}{code:Code}
def Vi(r:Option kN)(x:O)(Y:Hp)(_:Nat):Prop:=match r with
 |none=>x=.nil
 |some b=>∃id,x=.own id 0 b.es.length/\Y id=some b/\b.arr=true
theorem Z1(K:xJ dr C pf)(n:fM C pf f fn code)(L:List Nat)(F:zb->Option (Option kN))(hF:∀args r,F args=some r->args.length<=fn.ntmps/\∃x Y Z,jJ C fn args (fun _=>none) 0=some (x,Y,Z)/\Vi r x Y Z) :
  kh dr C.P f (yI L F):=by
 refine⟨⟨fn,n.func,n.name,by rw[n.body];rfl⟩,?_⟩;intro args Y Z r N Q h w S G vs hi M;unfold yI at h;split at h
 ·rename_i R Y1 s;obtain⟨S1,g,o,_⟩:=jN (dr:=dr) hi s M;have i:∀id b,Y1 id=some b->Y1 id=some b/\¬False:=fun id b h=>⟨h,fun h=>h⟩
  split at h
  ·rename_i j;obtain⟨t,x,hpe,nxe,k,d⟩:=hF _ none j;injection h with h
   injection h with u h;injection h with y z;subst u;subst y;subst z;simp only[Vi]at d;subst d;refine(ZA K n k t g.inv.st g.inv.gT (Wa o)).mono fun e w' A=>?_
   obtain⟨v,S',G',B,E,a,H,l,m,_⟩:=A;have I:=dn (dr:=dr) (D:=fun _=>False) (Y2:=Y1) g.inv i (fun _ h=>h.elim) E a l (fun b J=>(m b J).imp (fun h=>h) .inr);have:=H.Zd;subst this;exact⟨_,_,_,B,g.trans I,.c .nil⟩
  ·rename_i b j;obtain⟨t,x,hpe,nxe,k,d⟩:=hF _ (some b) j;injection h with h
   injection h with u h;injection h with y z;subst u;subst y;subst z;obtain⟨id,rfl,hid,p⟩:=d;refine(ZA K n k t g.inv.st g.inv.gT (Wa o)).mono fun e w' A=>?_
   obtain⟨v,S',G',B,E,a,H,l,m,q⟩:=A;have I:=uC (dr:=dr) (D:=fun _=>False) (Y2:=Y1) g.inv i (fun _ h=>h.elim) E a l (fun b J=>(m b J).imp (fun h=>h) .inr) hid p (.inr (q id b hid));exact⟨_,_,_,B,g.trans I,uD H⟩
  ·cases h
 ·cases h
end
end Go.AM
namespace Go.AM
open Go.RowKit Go.WideShapes Go.ChangeShapes
variable{dr:Prop}
def uE(P:Program):Nat->List Field->Option Nat
 |o,[]=>some o
 |o,f::a=>if f.offset=o then uE P (o+P.cellsOf f.type) a else none
def gC(P:Program)(T:List TypeId):Bool:=T.all fun t=>match P.underlying t with
 |some .bool|some (.int _)|some .string=>P.cellsOf t==1
 |some (.slice e)=>P.cellsOf t==1&&T.contains e&&decide (0<P.cellsOf e)
 |some (.struct a)=>uE P 0 a.toList==some (P.cellsOf t)&&a.toList.all fun f=>T.contains f.type
 |_=>false
structure Bounds (H:Type) (Bl:Nat->Prop) (Bd:DataW H->Prop):Prop where
 slice:∀es sp,Bd (.slice es sp)->Bl es.length/\∀d∈es,Bd d
 nil:Bl 0
 agg:∀l,Bd (.agg l)->∀d∈l,Bd d
 str:∀b,Bd (.lit (.string b))->Bl b.length
section
variable{H:Type}{V:TypeId×Value->H}{P:Program}{w:World}{sp:Nat->Bool}{held:Bool}{Bl:Nat->Prop}{Bd:DataW H->Prop}
theorem mX{α:Type}{l:List α}{o n j:Nat}(a:j<n):((l.drop o).take n)[j]?=l[o+j]?:=by rw[qt,ze a,qK]
theorem oj{R:O->Value->Prop}{Q:Field->zb->Prop}:∀(e:List Field) (o n:Nat) (cs:List Value),uE P o e=some n->cs.length=n ->
  (∀f∈e,∃a,Zip R a ((cs.drop f.offset).take (P.cellsOf f.type))/\Q f a) ->
  ∃a:zb,a.length+o=n/\(∀(j:Nat) (g:O) (u:Value),a[j]?=some g->cs[o+j]?=some u->R g u)/\∀f∈e,o<=f.offset/\Q f ((a.drop (f.offset-o)).take (P.cellsOf f.type))
 |[],o,n,cs,c,p,_=>by
  simp only[uE]at c;injection c with c
  subst c;exact⟨[],by simp,by simp,by simp⟩
 |f::e,o,n,cs,c,p,h=>by
  simp only[uE]at c;split at c
  ·rename_i s;obtain⟨d,q,t⟩:=h f (by simp);obtain⟨i,y,v,w⟩:=oj e (o+P.cellsOf f.type) n cs c p (fun f' b=>h f' (by simp[b]));have l:d.length=P.cellsOf f.type:=by have:=q.1;simp only[wB,gx]at this;omega
   refine⟨d++i,by simp;omega,fun j g u k r=>?_,fun f' b=>?_⟩
   ·by_cases m:j<d.length
    ·rw[z8 m]at k;refine q.2 j g u k ?_;rw[mX (by omega),s];exact r
    ·rw[zQ (by omega)]at k;refine v (j-d.length) g u k ?_;rw[show o+P.cellsOf f.type+(j-d.length)=o+j from by omega];exact r
   ·rcases zv.1 b with rfl|b
    ·refine⟨by omega,?_⟩;have:((d++i).drop (f'.offset-o)).take (P.cellsOf f'.type)=d:=by rw[show f'.offset-o=0 from by omega,wS,<-l,List.take_left]
     rw[this];exact t
    ·obtain⟨z,x⟩:=w f' b;refine⟨by omega,?_⟩;have:(d++i).drop (f'.offset-o)=i.drop (f'.offset-(o+P.cellsOf f.type)):=by rw[List.drop_append,List.drop_eq_nil_of_le (by omega),ku];congr 1;omega
     rw[this];exact x
  ·cases c
end
section
variable{C:Ctx}{pf:FuncId->Bool}{f:FuncId}{fn:Func}{code:Code}
theorem G6(n:xJ dr C pf)(g:fM C pf f fn code){args:zb}(h:zo C fn args=some (.v (.bool true)))(o:args.length<=fn.ntmps){w:World}{vs:List Value}(i:w.ShapedOpen C.P)(a:∀t∈Jh,ud w (fun b=>b<w.heap.size) t)(p:Zip (wH w (fun b=>b<w.heap.size)) args vs) :
  Calls C.P f vs.toArray w fun e w'=>e=.returned (.bool true)/\Below w.heap.size w w':=by
 unfold zo at h;split at h
 ·rename_i x q s j;obtain⟨⟨r,Y2⟩,l,m⟩:=zV h;simp only at m;subst m;refine(ZA n g j o (fun _ u=>u) (Gl.O4 i a) p).mono fun e w' y=>?_
  obtain⟨v,D,E,z,c,d,A,_⟩:=y;obtain⟨F,_,B⟩:=WL (dr:=dr) d l A;obtain⟨rfl,_⟩:=B.wX;exact⟨z,c.os,c.tape,c.output,c.size,fun k g=>c.block k g fun h=>h⟩
 ·cases h
end
end Go.AM
namespace Go.AM
variable{dr:Prop}
attribute [congr] ur uu
attribute [simp] LW LX PS GY Fj LY GZ PT L1 L0 C4 C5 uv rl GX C6 YY C7 dk
 mV C8 ux uy L2
@[simp]theorem bz(K:Exit->St->Prop)(st:St):KU K st=K .normal st:=rfl
@[simp]theorem PX(id i:Nat)(K:Exit->St->Prop)(st:St)(h:¬i=id):Wu id K (.exit i) st=K (.exit i) st:=by simp[Wu,h]
@[simp]theorem zM{α:Type}(f:Nat->α)(k i:Nat)(x:α)(h:¬i=k):qR f k x i=f i:=by simp[qR,h]
@[simp]theorem zci(U:Nat->O)(d:Nat)(x:O):put U (some d) x=qR U d x:=rfl
@[simp]theorem zcj(U:Nat->O)(x:O):put U none x=U:=rfl
@[simp]theorem zbm(args:zb)(t:Nat):kE args t=(args[t]?).getD (.wP []):=rfl
@[simp]theorem zes(U:Nat->O)(t:Nat):get U (.tmp t)=some (U t):=rfl
@[simp]theorem L7(U:Nat->O)(f:Nat):get U (.func f)=some (.fn (.func f) [] []):=rfl
@[simp]theorem zet(U:Nat->O)(k:IntKind)(n:Int):get U (.const (.int k n))=some (.v (.int k n)):=rfl
@[simp]theorem zck(U:Nat->O)(b:Bool):get U (.const (.bool b))=some (.v (.bool b)):=rfl
@[simp]theorem zeu(U:Nat->O)(s:ByteArray):get U (.const (.string s))=some (.v (.string s)):=rfl
@[simp]theorem zev(U:Nat->O):get U (.const (.slice none 0 0))=some .nil:=rfl
@[simp]theorem TF(U:Nat->O):get U (.const .nilFunc)=some (.v .nilFunc):=rfl
@[simp]theorem zew(U:Nat->O)(cs:Array Value):get U (.const (.agg cs))=(vG cs.toList).map .agg:=rfl
@[simp]theorem UW(C:Ctx)(a:Array Oper)(d:Option Tmp)(op:Op)(t:TypeId)(p:String)(b:Array Edge)(st:St):yD C a ⟨d,op,t,p,b,none⟩ st =
  (zU C (get st.U) st.Y st.Z op).map fun r=>⟨put st.U d r.1,r.2.1,r.2.2⟩:=L3 C a d op t p b st
def Ze(C:Ctx)(d:Option Tmp)(op:Op)(st:St)(y:Option Bool)(b:Bool):Option St:=
 if y=some b then(zU C (get st.U) st.Y st.Z op).map fun r=>⟨put st.U d r.1,r.2.1,r.2.2⟩else some ⟨put st.U d (.wP []),st.Y,st.Z⟩
theorem ru{C:Ctx}{d:Option Tmp}{op:Op}{st:St}{y a:Option Bool}{b:Bool}(h:y=a):Ze C d op st y b=Ze C d op st a b:=by rw[h]
@[simp]theorem UX(C:Ctx)(a:Array Oper)(d:Option Tmp)(op:Op)(t:TypeId)(p:String)(c:Array Edge)(j:Nat)(b:Bool)(st:St):yD C a ⟨d,op,t,p,c,some (j,b)⟩ st =
  Ze C d op st (QA a st.U j) b:=by
 unfold yD Ze Region.wanted;simp only[jq];split
 ·cases zU C (get st.U) st.Y st.Z op<;>rfl
 ·rfl
@[simp]theorem zbn(C:Ctx)(d:Option Tmp)(op:Op)(st:St)(b:Bool):Ze C d op st (some b) b=(zU C (get st.U) st.Y st.Z op).map fun r=>⟨put st.U d r.1,r.2.1,r.2.2⟩:=by simp[Ze]
@[simp]theorem zcl(C:Ctx)(d:Option Tmp)(op:Op)(st:St):Ze C d op st (some true) false=some ⟨put st.U d (.wP []),st.Y,st.Z⟩:=by simp[Ze]
@[simp]theorem zcm(C:Ctx)(d:Option Tmp)(op:Op)(st:St):Ze C d op st (some false) true=some ⟨put st.U d (.wP []),st.Y,st.Z⟩:=by simp[Ze]
@[simp]theorem UY(C:Ctx)(d:Option Tmp)(op:Op)(st:St)(b:Bool):Ze C d op st none b=some ⟨put st.U d (.wP []),st.Y,st.Z⟩:=by simp[Ze]
attribute [congr] ru
def Vj:O->Option Bool
 | .v (.bool b)=>some b
 |_=>none
@[simp]theorem TG(b:Bool):Vj (.v (.bool b))=some b:=rfl
@[simp]theorem UZ(l:zb):Vj (.wP l)=none:=rfl
def Db(U:Nat->O):Option Nat->Option Bool
 |some d=>Vj (U d)
 |none=>none
@[simp]theorem TH(U:Nat->O)(d:Nat):Db U (some d)=Vj (U d):=rfl
@[simp]theorem zbo(a:Array Oper)(U:Nat->O)(j:Nat):QA a U j=Db U ((a[j]?).bind (·.dst)):=by
 unfold QA Db Vj;cases (a[j]?).bind (·.dst)with
 |none=>rfl
 |some d=>rfl
section
variable(C:Ctx)(ρ:Operand->Option O)(Y:Hp)(Z:Nat)
@[simp]theorem PY(x:Operand):zU C ρ Y Z (.move x)=(ρ x).map fun y=>(y,Y,Z):=rfl
@[simp]theorem G7(x:Operand):zU C ρ Y Z (.assign x)=(ρ x).map fun y=>(y,Y,Z):=rfl
def W9(c a b:Option O):Option O:=match c with
 |some (.v (.bool true))=>a
 |some (.v (.bool false))=>b
 |_=>none
@[simp]theorem U0(a b:Option O):W9 (some (.v (.bool true))) a b=a:=rfl
@[simp]theorem TI(a b:Option O):W9 (some (.v (.bool false))) a b=b:=rfl
@[simp]theorem PZ(c a b:Operand):zU C ρ Y Z (.pick c a b)=(W9 (ρ c) (ρ a) (ρ b)).map fun y=>(y,Y,Z):=by
 unfold W9;simp only[zU];generalize ρ c=o;cases o with
 |none=>rfl
 |some p=>cases p<;>(try rfl);rename_i x;cases x<;>(try rfl);rename_i t;cases t<;>rfl
@[simp]theorem U1(op:BinOp)(t a:TypeId)(x y:Operand):zU C ρ Y Z (.binOp op t x y a)=(do let p <-ρ x;let q <-ρ y;let r <-K6 (TC y) C.P op t p q;some (r,Y,Z)):=by simp only[zU];cases ρ x<;>cases ρ y<;>(try rfl);simp;cases K6 (TC y) C.P op t _ _<;>rfl
@[simp]theorem zcn(op:UnOp)(t:TypeId)(x:Operand):zU C ρ Y Z (.unOp op t x)=(do let p <-ρ x;let r <-Pu op p;some (r,Y,Z)):=by simp only[zU];cases ρ x<;>(try rfl);simp;cases Pu op _<;>rfl
@[simp]theorem P0(s d:TypeId)(x:Operand):zU C ρ Y Z (.convert s d x)=(do let p <-ρ x;let r <-XQ C.P s d p;some (r,Y,Z)):=by simp only[zU];cases ρ x<;>(try rfl);simp;cases XQ C.P s d _<;>rfl
@[simp]theorem P1(t:TypeId)(x:Operand):zU C ρ Y Z (.load t x)=(do let p <-ρ x;let r <-xB C.P Y t p;some (r,Y,Z)):=by simp only[zU];cases ρ x<;>(try rfl);simp;cases xB C.P Y t _<;>rfl
@[simp]theorem zco(t:TypeId)(a x:Operand):zU C ρ Y Z (.store t a x)=(do let p <-ρ a;let q <-ρ x;let h <-Qy C.P Y t p q;some (.wP [],h,Z)):=by simp only[zU];cases ρ a<;>cases ρ x<;>(try rfl);simp;cases Qy C.P Y t _ _<;>rfl
@[simp]theorem rv(t:TypeId)(x:Operand)(f:Nat):zU C ρ Y Z (.fieldAddr t x f)=(do let p <-ρ x;let r <-yN C.P t f p;some (r,Y,Z)):=by simp only[zU];cases ρ x<;>(try rfl);simp;cases yN C.P t f _<;>rfl
@[simp]theorem L8(t:TypeId)(x:Operand)(f:Nat):zU C ρ Y Z (.field t x f)=(do let p <-ρ x;let r <-ZI C.P t f p;some (r,Y,Z)):=by simp only[zU];cases ρ x<;>(try rfl);simp;cases ZI C.P t f _<;>rfl
@[simp]theorem ry(t:TypeId)(x i:Operand):zU C ρ Y Z (.indexAddr t x i)=(do let p <-ρ x;let q <-ρ i;let r <-qH C.P Y t p q;some (r,Y,Z)):=by simp only[zU];cases ρ x<;>cases ρ i<;>(try rfl);simp;cases qH C.P Y t _ _<;>rfl
@[simp]theorem L9(t:TypeId)(x i:Operand):zU C ρ Y Z (.index t x i)=(do let p <-ρ x;let q <-ρ i;let r <-Qz C.P t p q;some (r,Y,Z)):=by simp only[zU];cases ρ x<;>cases ρ i<;>(try rfl);simp;cases Qz C.P t _ _<;>rfl
@[simp]theorem Ma(t:TypeId)(x:Operand)(lo hi:Option Operand):zU C ρ Y Z (.slice t x lo hi none)=(do let p <-ρ x;let r <-yG C.P Y t p (lo.map ρ) (hi.map ρ);some (r,Y,Z)):=by simp only[zU];cases ρ x<;>(try rfl);simp;cases yG C.P Y t _ _ _<;>rfl
@[simp]theorem P2(t:TypeId)(l c:Operand):zU C ρ Y Z (.makeSlice t l c)=(do let p <-ρ l;let q <-ρ c;Zz C.P Y Z t p q):=by simp only[zU];cases ρ l<;>cases ρ c<;>rfl
def Jk(i:Nat):O->Option O
 | .wP vs=>vs[i]?
 |_=>none
@[simp]theorem P3(i:Nat)(vs:zb):Jk i (.wP vs)=vs[i]?:=rfl
@[simp]theorem Dc(x:Operand)(i:Nat):zU C ρ Y Z (.extract x i)=(do let p <-ρ x;let r <-Jk i p;some (r,Y,Z)):=by
 simp only[zU];cases ρ x with
 |none=>rfl
 |some p=>cases p<;>(try rfl);simp[Jk];rename_i vs;cases vs[i]?<;>rfl
@[simp]theorem zcp(t:TypeId):zU C ρ Y Z (.alloc t)=(do let n <-qv C.P t;let z <-yC C.P t;if 0<n/\z.length=n then some (.ref Z 0 0,qR Y Z (some ⟨t,n,false,[z]⟩),Z+1)else none):=by simp only[zU];cases qv C.P t<;>cases yC C.P t<;>rfl
@[simp]theorem zfm(t:TypeId)(x:Operand):zU C ρ Y Z (.box t x)=(do let n <-qv C.P t;let y <-ρ x;if 0<n/\y.cells.length=n/\y.cells.all O.wW=true then some (.ref Z 0 0,qR Y Z (some ⟨t,n,false,[y.cells]⟩),Z+1)else none):=by simp only[zU];cases qv C.P t<;>cases ρ x<;>rfl
@[simp]theorem zcq(t:TypeId)(a:Array (Nat×Operand)):zU C ρ Y Z (.build t a)=(do let q <-vo ρ a.toList;let r <-qb C.P t q;some (r,Y,Z)):=by simp only[zU];cases vo ρ a.toList<;>(try rfl);simp;cases qb C.P t _<;>rfl
@[simp]theorem Pv(t:TypeId)(n:Nat)(a:Array (Nat×Operand)):zU C ρ Y Z (.buildSlice t n a)=(do let q <-vo ρ a.toList;zr C.P Y Z t n q):=by simp only[zU];cases vo ρ a.toList<;>rfl
@[simp]theorem TJ(f:Fn)(a b:Array Operand):zU C ρ Y Z (.makeFunc f a b)=(do let p <-yh (a.toList.map ρ);let q <-yh (b.toList.map ρ);some (.fn f p q,Y,Z)):=by simp only[zU];cases yh (a.toList.map ρ)<;>cases yh (b.toList.map ρ)<;>rfl
@[simp]theorem P4(f:Operand)(args:Array Operand)(ts:Array TypeId):zU C ρ Y Z (.call {callee:=.value f,args:=args,argTypes:=ts})=(do let xs <-yh (args.toList.map ρ);jH C Y Z (ρ f) xs):=by simp only[zU,xO];cases yh (args.toList.map ρ)<;>rfl
@[simp]theorem Dd(b:Builtin)(args:Array Operand)(ts:Array TypeId):zU C ρ Y Z (.call {callee:=.builtin b,args:=args,argTypes:=ts})=(do let xs <-yh (args.toList.map ρ);yn C.P Y Z ts b xs):=by simp only[zU,xO];cases yh (args.toList.map ρ)<;>rfl
end
@[simp]theorem TK{α:Type}:yh ([]:List (Option α))=some []:=rfl
@[simp]theorem P5{α:Type}(x:α)(l:List (Option α)):yh (some x::l)=(yh l).map (x::·):=rfl
@[simp]theorem zbp(ρ:Operand->Option O):vo ρ []=some []:=rfl
@[simp]theorem U2(ρ:Operand->Option O)(i:Nat)(x:Operand)(l:List (Nat×Operand)):vo ρ ((i,x)::l)=(do let p <-ρ x;let r <-vo ρ l;some ((i,p)::r)):=by simp only[vo];cases ρ x<;>cases vo ρ l<;>rfl
theorem De(C:Ctx)(Y:Hp)(Z g:Nat)(first a xs:zb)(b:AM.Spec)(h:C.Γ g=some b):jH C Y Z (some (.fn (.func g) first a)) xs=b (first++xs++a) Y Z:=by simp[jH,h]
section
variable(P:Program)(Y:Hp)(Z:Nat)(t:TypeId)
@[simp]theorem zex(op:BinOp)(k:IntKind)(a b:Int):ZV P op t (.v (.int k a)) (.v (.int k b))=Lv op k a b:=by simp[ZV]
@[simp]theorem zey(op:BinOp)(a b:ByteArray):ZV P op t (.v (.string a)) (.v (.string b))=Lw op a b:=rfl
@[simp]theorem zfn(b:Bool):Pu .not (.v (.bool b))=some (.v (.bool !b)):=rfl
@[simp]theorem zfo(k:IntKind)(n:Int):Pu .neg (.v (.int k n))=some (.v (.int k (k.wrap (0-n)))):=rfl
@[simp]theorem zcr(cs:zb):xB P Y t (.ptr cs)=qC P t cs:=rfl
@[simp]theorem zcs(id i j:Nat):xB P Y t (.ref id i j)=(do let b <-Y id;let c <-b.es[i]?;qC P t (c.drop j)):=by
 simp only[xB];cases Y id with
 |none=>rfl
 |some b=>simp;cases b.es[i]?<;>rfl
@[simp]theorem Pw(f:Nat)(cs:zb):yN P t f (.ptr cs)=(do let q <-qO P t f;if q.2.1=0 then none else some (.ptr (cs.drop q.1))):=by simp only[yN];cases qO P t f<;>rfl
@[simp]theorem Px(f id i j:Nat):yN P t f (.ref id i j)=(do let q <-qO P t f;if q.2.1=0 then none else some (.ref id i (j+q.1))):=by simp only[yN];cases qO P t f<;>rfl
@[simp]theorem zez(s:ByteArray):JT P t (.v (.string s))=match P.underlying t with|some .string=>some (.v (.int .i64 s.size))|_=>none:=rfl
@[simp]theorem zfp(s:Nat)(es:List zb):JT P t (.sl s es)=(wY P t).map fun _=>.v (.int .i64 es.length):=rfl
@[simp]theorem zeA:JT P t .nil=(wY P t).map fun _=>.v (.int .i64 0):=rfl
@[simp]theorem zeB(id off n:Nat):JT P t (.own id off n)=(wY P t).map fun _=>.v (.int .i64 n):=rfl
theorem om(i:Int)(x:O)(d:∀cs,x≠.ptr cs)(e:∀a b c,x≠.ref a b c):x1 P t i x=none:=by
 unfold x1;split
 ·split
  ·split
   ·split
    ·exact absurd rfl (d _)
    ·exact absurd rfl (e _ _ _)
    ·rfl
   ·rfl
  ·rfl
 ·rfl
@[simp]theorem zct(s:Nat)(es:List zb)(k:IntKind)(i:Int):qH P Y t (.sl s es) (.v (.int k i))=(do let e <-wY P t;let n <-qv P e;if s=n/\0<n/\0<=i then(es[i.toNat]?).map .ptr else none):=by
 simp only[qH];cases wY P t with
 |none=>exact(om P t i _ (fun _=>by simp) (fun _ _ _=>by simp)).trans rfl
 |some e=>simp;cases qv P e<;>rfl
@[simp]theorem zbq(id off n:Nat)(k:IntKind)(i:Int):qH P Y t (.own id off n) (.v (.int k i))=(do let e <-wY P t;let m <-qv P e;let b <-Y id;if b.e=e/\0<m/\0<=i/\i.toNat<n then some (.ref id (off+i.toNat) 0)else none):=by
 simp only[qH];cases wY P t with
 |none=>exact(om P t i _ (fun _=>by simp) (fun _ _ _=>by simp)).trans rfl
 |some e=>simp;cases qv P e<;>(try rfl);simp;cases Y id<;>rfl
end
@[simp]theorem P6(P:Program)(Y:Hp)(Z:Nat)(ts:Array TypeId)(x:O):yn P Y Z ts .len [x]=(do let t <-ts[0]?;let y <-JT P t x;some (y,Y,Z)):=by
 simp only[yn];cases ts[0]? with
 |none=>rfl
 |some t=>simp;cases JT P t x<;>rfl
@[simp]theorem P7(P:Program)(Y:Hp)(Z:Nat)(ts:Array TypeId)(xs:zb):yn P Y Z ts .min xs=(Lx xs).map fun y=>(y,Y,Z):=rfl
@[simp]theorem P8(P:Program)(Y:Hp)(Z:Nat)(ts:Array TypeId)(xs:zb):yn P Y Z ts .max xs=(Ly xs).map fun y=>(y,Y,Z):=rfl
@[simp]theorem U3(P:Program)(Y:Hp)(Z:Nat)(ts:Array TypeId)(s x:O):yn P Y Z ts .append [s,x]=(do let t <-ts[0]?;let u <-ts[1]?;yW P Y Z t u s x):=by simp only[yn];cases ts[0]?<;>cases ts[1]?<;>rfl
@[simp]theorem zbr(P:Program)(Y:Hp)(n:Nat)(e t u:TypeId)(i o k:Nat):gX P Y n e t u (.own i o k)=if u=t then view Y n (.own i o k)else none:=rfl
@[simp]theorem zcu(P:Program)(Y:Hp)(n:Nat)(e t u:TypeId)(k:Nat)(es:List zb):gX P Y n e t u (.sl k es)=if u=t then view Y n (.sl k es)else none:=rfl
@[simp]theorem zbs(P:Program)(Y:Hp)(n:Nat)(e t u:TypeId):gX P Y n e t u .nil=if u=t then view Y n .nil else none:=rfl
@[simp]theorem zcv(P:Program)(Y:Hp)(n:Nat)(e t u:TypeId):gX P Y n e t u .em=if u=t then view Y n .em else none:=rfl
@[simp]theorem zbt(P:Program)(Y:Hp)(n:Nat)(e t u:TypeId)(b:ByteArray):gX P Y n e t u (.v (.string b))=if PM P u=true/\Fb P e=true then some (b.data.toList.map fun c=>[.v (.int .u8 c.toNat)])else none:=rfl
@[simp]theorem zbu(P:Program)(Y:Hp)(Z:Nat)(ts:Array TypeId)(x:O):yn P Y Z ts .clear [x]=(do let t <-ts[0]?;db P Y Z t x):=by simp only[yn];cases ts[0]?<;>rfl
@[simp]theorem zcw(P:Program)(Y:Hp)(Z:Nat)(ts:Array TypeId)(s x:O):yn P Y Z ts .copy [s,x]=(do let t <-ts[0]?;Fc P Y Z t s x):=by simp only[yn];cases ts[0]?<;>rfl
attribute [simp] Lx V4 Ly V5 Lv Lw yS xP WJ
@[simp]theorem zbv(cs:zb):O.cells (.agg cs)=cs:=rfl
@[simp]theorem zbw(cs:zb):O.cells (.wP cs)=[.wP cs]:=rfl
@[simp]theorem zeC(x:Value):O.cells (.v x)=[.v x]:=rfl
@[simp]theorem zbx:O.cells .nil=[.nil]:=rfl
@[simp]theorem zcx:O.cells .em=[.em]:=rfl
@[simp]theorem zcy(s:Nat)(es:List zb):O.cells (.sl s es)=[.sl s es]:=rfl
@[simp]theorem zby(cs:zb):O.cells (.ptr cs)=[.ptr cs]:=rfl
@[simp]theorem zbz(i o n:Nat):O.cells (.own i o n)=[.own i o n]:=rfl
@[simp]theorem zbA(i o n:Nat):O.cells (.ref i o n)=[.ref i o n]:=rfl
@[simp]theorem zcz(f:Fn)(a b:zb):O.cells (.fn f a b)=[.fn f a b]:=rfl
@[simp]theorem zcA(x:Value):O.wW (.v x)=true:=rfl
@[simp]theorem U4:O.wW .nil=true:=rfl
@[simp]theorem zbB:O.wW .em=true:=rfl
@[simp]theorem zbC(s:Nat)(es:List zb):O.wW (.sl s es)=true:=rfl
@[simp]theorem U5(cs:zb):O.wW (.ptr cs)=true:=rfl
@[simp]theorem U6(i o n:Nat):O.wW (.own i o n)=true:=rfl
@[simp]theorem U7(i o n:Nat):O.wW (.ref i o n)=true:=rfl
@[simp]theorem zbD(f:Fn)(a b:zb):O.wW (.fn f a b)=true:=rfl
@[simp]theorem U8(cs:zb):O.wW (.agg cs)=false:=rfl
@[simp]theorem U9(cs:zb):O.wW (.wP cs)=false:=rfl
attribute [simp] wV qD zD wx AM.freeze O.flat O.isV O.noOwn
@[simp]theorem P9(i o n:Nat):O.vn (.own i o n)=true:=rfl
@[simp]theorem zaa(x:Value):O.vn (.v x)=false:=rfl
@[simp]theorem Ra:O.vn .nil=false:=rfl
@[simp]theorem TL:O.vn .em=false:=rfl
@[simp]theorem TM(s:Nat)(es:List zb):O.vn (.sl s es)=false:=rfl
@[simp]theorem Rb(cs:zb):O.vn (.ptr cs)=false:=rfl
@[simp]theorem Rc(i o n:Nat):O.vn (.ref i o n)=false:=rfl
@[simp]theorem TN(f:Fn)(a b:zb):O.vn (.fn f a b)=false:=rfl
@[simp]theorem zeD{α:Type}(f:Nat->α)(k:Nat)(x y:α):qR (qR f k x) k y=qR f k y:=by funext i;simp only[qR];split<;>rfl
@[simp]theorem zbE(P:Program)(Y:Hp)(t:TypeId)(id i j:Nat)(x:O):Qy P Y t (.ref id i j) x=(do
  let a <-Y id;let q <-(if a.arr=true then qD Y x else some (x,Y));let b <-q.2 id;let n <-qv P t;let c <-b.es[i]?
  if q.1.cells.length=n/\j+n<=c.length/\q.1.cells.all O.wW=true then some (qR q.2 id (some ⟨b.e,b.s,b.arr,b.es.set i (yS c j q.1.cells)⟩))else none):=by
 simp only[Qy];cases Y id with
 |none=>rfl
 |some a=>
  simp only[Option.bind_eq_bind,zZ];generalize (if a.arr=true then qD Y x else some (x,Y))=o;cases o with
  |none=>rfl
  |some q=>
   obtain⟨y,d⟩:=q;simp only[zZ];cases d id with
   |none=>rfl
   |some b=>
    simp only[zZ];cases qv P t with
    |none=>rfl
    |some n=>simp only[zZ];cases b.es[i]?<;>rfl
@[simp]theorem zeE(x y:Value)(Y:Hp)(Z:Nat):zI (.v y) (.v x) Y Z=(x=y):=by simp[zI]
def bA:O->Int
 | .v (.int _ n)=>n
 |_=>0
@[simp]theorem zbF(k:IntKind)(n:Int):bA (.v (.int k n))=n:=rfl
theorem wR{n:Int}(a:-9223372036854775808<=n)(b:n<=9223372036854775807):IntKind.i64.wrap n=n:=by rw[tO];omega
variable{dr:Prop}
open Classical in
noncomputable def qf {α b:Type} (V:α->zb) (pre:α->Prop) (out:α->b):zb->Option b:=fun args=>
 if h:∃a,args=V a/\pre a then some (out (Classical.choose h))else none
theorem qM{α e:Type}{V:α->zb}{pre:α->Prop}{out:α->e}(d:∀a b,V a=V b->a=b){a:α}(h:pre a):qf V pre out (V a)=some (out a):=by have c:∃b,V a=V b/\pre b:=⟨a,rfl,h⟩;unfold qf;rw[Te c];have:=jo c;rw[<-d _ _ this.1]
theorem zN{α c:Type}{V:α->zb}{pre:α->Prop}{out:α->c}{args:zb}{r:c}(h:qf V pre out args=some r):∃a,args=V a/\pre a/\r=out a:=by
 unfold qf at h;split at h
 ·rename_i b;injection h with h
  have:=jo b;exact⟨_,this.1,this.2,h.symm⟩
 ·cases h
abbrev Zu:=List (Nat×AM.Spec)
def lookup:Zu->Nat->Option AM.Spec
 |[],_=>none
 |(k,s)::l,g=>if g=k then some s else lookup l g
@[simp]theorem eS(k:Nat)(s:AM.Spec)(l:Zu)(g:Nat):lookup ((k,s)::l) g=if g=k then some s else lookup l g:=rfl
def zR(P:Program)(l:Zu):Ctx:=⟨P,lookup l,fun _=>[],fun _=>[],fun _=>false,fun _=>[],fun _=>none⟩
@[simp]theorem zbG(P:Program)(l:Zu)(i:Nat):(zR P l).dyn i=[]:=rfl
@[simp]theorem Py(P:Program)(l:Zu)(i:Nat)(a:Array Oper)(d:Bool)(st:St)(K:Exit->St->Prop):Zy (zR P l) (.region i a d) st K=rk (zR P l) a a.toList st (KU K):=J1 _ i a d st K rfl rfl
def J4(P:Program)(l:Zu)(a:Nat->List (Tmp×Tmp)):Ctx:=⟨P,lookup l,a,fun _=>[],fun _=>false,fun _=>[],fun _=>none⟩
@[simp]theorem zcB(P:Program)(l:Zu)(a:Nat->List (Tmp×Tmp)):(J4 P l a).P=P:=rfl
@[simp]theorem zeG(P:Program)(l:Zu):(zR P l).P=P:=rfl
@[simp]theorem zeH(P:Program)(l:Zu)(Y:Hp)(Z g:Nat)(a b xs:zb):jH (zR P l) Y Z (some (.fn (.func g) a b)) xs=(lookup l g).bind fun s=>s (a++xs++b) Y Z:=by unfold jH zR;simp only;cases lookup l g<;>rfl
@[simp]theorem zcC(P:Program)(l:Zu)(c:Nat->List (Tmp×Tmp))(Y:Hp)(Z g:Nat)(a b xs:zb):jH (J4 P l c) Y Z (some (.fn (.func g) a b)) xs=(lookup l g).bind fun s=>s (a++xs++b) Y Z:=by unfold jH J4;simp only;cases lookup l g<;>rfl
def XA(dr:Prop)(P:Program)(q:List Nat):Zu->Prop
 |[]=>True
 |(g,s)::l=>kh dr P g s/\(q.contains g=true->Q9 s)/\XA dr P q l
theorem qq{P:Program}{l:Zu}{q:List Nat}(c:P.follows .mixedOrders=true)(h:XA dr P q l):xJ dr (zR P l) (fun g=>q.contains g):=by
 have a:∀(l:Zu),XA dr P q l->∀g s,lookup l g=some s->kh dr P g s/\(q.contains g=true->Q9 s):=by
  intro l
  induction l with
  |nil=>intro _ g s h;cases h
  |cons x l d=>
   obtain⟨k,sp⟩:=x;rintro⟨e,f,i⟩ g s hs;simp only[eS]at hs;split at hs
   ·rename_i b;injection hs with hs
    subst hs;subst b;exact⟨e,f⟩
   ·exact d i g s hs
 exact⟨fun g s hs=>(a l h g s hs).1,fun g s j hs=>(a l h g s hs).2 j,c,(fun _ _ h=>by cases h),(fun _ _ h=>by cases h)⟩
def AllE(dr:Prop)(P:Program):Zu->Prop
 |[]=>True
 |(g,s)::l=>kh dr P g s/\AllE dr P l
abbrev g0F:Nat->Bool:=fun g=>([]:List Nat).contains g
abbrev Gd(C:Ctx):Prop:=AM.Good C g0F
theorem allE{P:Program}:∀{l:Zu},AllE dr P l->XA dr P [] l
 |[],_=>trivial
 |(_,_)::_,h=>⟨h.1,by simp,allE h.2⟩
theorem zS{P:Program}{l:Zu}(a:P.follows .mixedOrders=true)(h:AllE dr P l):xJ dr (zR P l) g0F:=qq (q:=[]) a (allE h)
theorem ql(k:Nat)(h:k<9223372036854775807:=by omega):IntKind.i64.wrap ((k:Int)+1)=(k:Int)+1:=wR (by omega) (by omega)
theorem wu(n:Int)(h:-9223372036854775808<=n/\n<=9223372036854775807:=by omega):IntKind.i64.wrap n=n:=wR h.1 h.2
theorem uF{P:Program}{l:Zu}{q:List Nat}(a:Nat->List (Tmp×Tmp))(b:P.follows .mixedOrders=true)(h:XA dr P q l):xJ dr (J4 P l a) (fun g=>q.contains g):=
 let g:=qq b h
 ⟨g.spec,g.quiet,g.mixed,(fun _ _ h=>by cases h),(fun _ _ h=>by cases h)⟩
def Jl(r:O)(x:O)(Y:Hp)(_:Nat):Prop:=∃a,(AM.freeze Y x).map (·.1)=some a/\YC a r
theorem xe{C:Ctx}{fn:Func}{code:Code}{args:zb}{r:O}(b:fn.body=some code)
  (h:Zy C code ⟨kE args,fun _=>none,0⟩ (J2 C.P fn (Jl r))):∃a,zo C fn args=some a/\YC a r:=by
 obtain⟨x,f,g,c,a,d,e⟩:=qF b h;exact⟨a,by unfold zo;simp only[c];exact d,e⟩
theorem qc(x:O):YC x x:=by
 unfold YC;split
 ·exact⟨rfl,fun j x y b a=>by rw[b]at a;injection a with a;exact .inl a⟩
 ·exact .inl rfl
theorem J5{C:Ctx}{fn:Func}{code:Code}{args:zb}{Y:Hp}{Z:Nat}{r:Option kN}(c:fn.body=some code)
  (h:Zy C code ⟨kE args,Y,Z⟩ (J2 C.P fn (Vi r))):∃x a b,jJ C fn args Y Z=some (x,a,b)/\Vi r x a b:=qF c h
def wa(Y:Hp)(Z:Nat)(e s:Nat)(v:O)(xs:List zb):Prop:=(v=.nil/\xs=[])\/∃id,id<Z/\v=.own id 0 xs.length/\Y id=some ⟨e,s,true,xs⟩
def Wb(v:O)(Y:Hp):Hp:=match v with
 | .own id _ _=>qR Y id none
 |_=>Y
theorem wa.nil(Y:Hp)(Z e s:Nat):wa Y Z e s .nil []:=.inl ⟨rfl,rfl⟩
theorem wa.len{P:Program}{Y:Hp}{Z e s:Nat}{v:O}{xs:List zb}{t:TypeId}(h:wa Y Z e s v xs)(a:wY P t=some e):JT P t v=some (.v (.int .i64 xs.length)):=by rcases h with⟨rfl,rfl⟩|⟨id,_,rfl,_⟩<;>simp[a]
theorem wa.y8{P:Program}{Y:Hp}{Z e s by_:Nat}{v:O}{xs:List zb}{c z:zb}{t:TypeId}(h:wa Y Z e s v xs)(g:wY P t=some e)(hs:qv P e=some s)(i:jV P e=some by_)(j:yC P e=some z)
  (a:z.length=s) (k:0<s) (b:xs.length+1<=maxLen) (d:(xs.length+1)*by_<=140737488355328) :
  yW P (qR Y Z (some ⟨e,s,true,[c]⟩)) (Z+1) t t v (.own Z 0 1) =
   some (.own (Z+1) 0 (xs.length+1),qR (Wb v (qR Y Z (some ⟨e,s,true,[c]⟩))) (Z+1) (some ⟨e,s,true,xs++[c]⟩),Z+2):=by
 rcases h with⟨rfl,rfl⟩|⟨id,hid,rfl,l⟩
 ·simp at b d;simp[yW,g,hs,i,j,a,k,b,d,AM.view,Wb]
 ·have f:¬id=Z:=by omega
  simp[yW,g,hs,i,j,a,k,b,d,AM.view,Wb,f,l]
theorem wa.after{Y:Hp}{Z e s:Nat}{v:O}{xs:List zb}{c:zb}{tmp:Option kN}:wa (qR (Wb v (qR Y Z tmp)) (Z+1) (some ⟨e,s,true,xs++[c]⟩)) (Z+2) e s (.own (Z+1) 0 (xs.length+1)) (xs++[c]):=
 .inr ⟨Z+1,by omega,by simp,by simp⟩
theorem yO{Y:Hp}{Z e s:Nat}{v:O}{xs:List zb}(h:wa Y Z e s v xs)(b:Hp)(id:Nat)(a:∀n,v≠.own id 0 n):Wb v b id=b id:=by
 rcases h with⟨rfl,rfl⟩|⟨k,c,rfl,d⟩
 ·rfl
 ·have:¬id=k:=fun e=>a _ (by rw[e])
  simp[Wb,this]
theorem wa.freeze{Y:Hp}{Z e s:Nat}{v:O}{xs:List zb}(h:wa Y Z e s v xs)(a:Nat):Jl (.sl s xs) v Y a:=by
 rcases h with⟨rfl,rfl⟩|⟨id,hid,rfl,b⟩
 ·exact⟨.nil,by simp,.inr ⟨rfl,s,rfl⟩⟩
 ·exact⟨.sl s xs,by simp[b],qc _⟩
theorem wa.gU{Y:Hp}{Z e s:Nat}{v:O}{xs:List zb}(h:wa Y Z e s v xs)(y:Value)(f:Nat):Jl (.wP [.sl s xs,.v y]) (.wP [v,.v y]) Y f:=by
 rcases h with⟨rfl,rfl⟩|⟨id,hid,rfl,g⟩
 ·refine⟨.wP [.nil,.v y],by simp,rfl,fun j a b c d=>?_⟩
  match j,c,d with
  | 0,c,d=>simp at c d;subst c;subst d;exact .inr ⟨rfl,s,rfl⟩
  | 1,c,d=>simp at c d;subst c;subst d;exact .inl rfl
  |j+2,c,d=>simp at c
 ·exact⟨.wP [.sl s xs,.v y],by simp[g],qc _⟩
theorem yX{α c:Type}{f:α->c}(h:∀a b,f a=f b->a=b):∀{xs ys:List α},xs.map f=ys.map f->xs=ys
 |[],[],_=>rfl
 |[],y::ys,e=>by simp at e
 |x::xs,[],e=>by simp at e
 |x::xs,y::ys,e=>by simp at e;rw[h x y e.1,yX h e.2]
def Re(I:Nat->(Nat->O)->Hp->Nat->Prop)(n k:Nat)(K:Exit->St->Prop)(e:Exit)(st:St):Prop:=match e with
 | .normal=>k+1<=n/\I (k+1) st.U st.Y st.Z
 |e=>K e st
@[simp]theorem TP(I:Nat->(Nat->O)->Hp->Nat->Prop)(n k:Nat)(K:Exit->St->Prop)(st:St):Re I n k K .normal st=(k+1<=n/\I (k+1) st.U st.Y st.Z):=rfl
@[simp]theorem zcD(I:Nat->(Nat->O)->Hp->Nat->Prop)(n k:Nat)(K:Exit->St->Prop)(st:St):Re I n k K .ret st=K .ret st:=rfl
@[simp]theorem zbH(I:Nat->(Nat->O)->Hp->Nat->Prop)(n k i:Nat)(K:Exit->St->Prop)(st:St):Re I n k K (.exit i) st=K (.exit i) st:=rfl
theorem zF{C:Ctx}{b:Code}{st:St}{K:Exit->St->Prop}(I:Nat->(Nat->O)->Hp->Nat->Prop)(n:Nat)(j:I 0 st.U st.Y st.Z)
  (a:∀k U Y Z,k<=n->I k U Y Z->Zy C b ⟨U,Y,Z⟩ (Re I n k K)):Zy C (.loop b) st K:=by
 have f:∀d k st,n-k=d->k<=n->I k st.U st.Y st.Z->Zy C (.loop b) st K:=by
  intro d
  induction d with
  |zero=>
   intro k st hd g i;rw[zE];refine(a k st.U st.Y st.Z g i).mono fun e c h=>?_
   cases e
   case normal=>have:=h.1;omega
   all_goals exact h
  |succ d l=>
   intro k st hd g i;rw[zE];refine(a k st.U st.Y st.Z g i).mono fun e c h=>?_
   cases e
   case normal=>exact l (k+1) c (by omega) h.1 h.2
   all_goals exact h
 exact f _ 0 st rfl (j9 _) j
variable{dr:Prop}
abbrev str(l:za):O:=.v (.string ⟨l.toArray⟩)
@[simp]theorem zcE(l:za):(ByteArray.mk l.toArray).size=l.length:=by simp[ByteArray.size]
@[simp]theorem bget(l:za)(i:Nat):(ByteArray.mk l.toArray)[i]?=l[i]?:=by
 by_cases h:i<l.length
 ·rw[getElem?_pos (ByteArray.mk l.toArray) i (by simpa using h),zl h];rfl
 ·rw[getElem?_neg (ByteArray.mk l.toArray) i (by simpa using h),jr (by omega)]
@[simp]theorem Mb(l:za)(a b:Nat):(ByteArray.mk l.toArray).extract a b=⟨((l.drop a).take (b-a)).toArray⟩:=by have h:=Lib.extract_data (ByteArray.mk l.toArray) a b;rw[ByteArray.ext_iff];apply Array.toList_inj.1;rw[h]
theorem wb{a b:za}(h:str a=str b):a=b:=by injection h with h;injection h with h;injection h with h;simpa using zt Array.toList h
@[simp]theorem zbI(P:Program)(t:TypeId)(l:za)(k:IntKind)(i:Int)(h:P.underlying t=some .string):Qz P t (.v (.string ⟨l.toArray⟩)) (.v (.int k i)) =
  if 0<=i then(l[i.toNat]?).map fun b=>.v (.int .u8 b.toNat)else none:=by
 simp only[Qz,h,bget];split
 ·cases l[i.toNat]?<;>rfl
 ·rfl
@[simp]theorem zbJ(P:Program)(Y:Hp)(t:TypeId)(l:za)(lo hi:Option (Option O))(h:P.underlying t=some .string):yG P Y t (.v (.string ⟨l.toArray⟩)) lo hi =
  (kD 0 lo).bind fun a=>(kD l.length hi).bind fun b=>if a<=b/\b<=l.length then some (str ((l.drop a).take (b-a)))else none:=by
 simp only[yG,h,zcE,Mb];cases kD 0 lo<;>(try rfl);cases kD l.length hi<;>rfl
attribute [simp] kD
@[simp]theorem Rf(P:Program)(t:TypeId)(a b:Bool)(h:P.underlying t=some .bool):ZV P .eql t (.v (.bool a)) (.v (.bool b))=some (.v (.bool (a==b))):=by simp[ZV,h]
@[simp]theorem Rh(P:Program)(t:TypeId)(a b:Bool)(h:P.underlying t=some .bool):ZV P .neq t (.v (.bool a)) (.v (.bool b))=some (.v (.bool (!(a==b)))):=by simp[ZV,h]
@[simp]theorem zcF(P:Program)(s d:TypeId)(k:IntKind)(n:Int):XQ P s d (.v (.int k n))=(P.underlying s).bind fun _=>(P.underlying d).bind fun u=>match u with|.int a=>some (.v (.int a (a.wrap n)))|_=>none:=by simp only[XQ];cases P.underlying s<;>(try rfl);cases P.underlying d<;>(try rfl);rename_i u;cases u<;>rfl
theorem yP{F:zb->Option O}{b:List Nat}{a:Bool}{args c:zb}{Y Y1:Hp}{Z:Nat}{r:O}(d:zD Y args=some (c,Y1))(e:F (yj b c)=some r)(f:r.flat=true\/args.all O.noOwn=true) :
  zg a b F args Y Z=some (r,Y,Z):=by
 unfold zg;simp only[d,e,f,qB]
theorem qI{k:IntKind}{a b:Int}(h:O.v (.int k a)=.v (.int k b)):a=b:=by injection h with h;injection h
theorem QD{a b:Bool}(h:O.v (.bool a)=.v (.bool b)):a=b:=by injection h with h;injection h
def zcG{α a:Type}(f:α->a)(K:a->Prop)(x:α):Prop:=K (f x)
def zcH{α a:Type}(f:α->Option a)(K:a->Prop)(x:α):Prop:=Ve (f x) K
@[simp]theorem zbK{α a:Type}(f:α->a)(K:a->Prop)(x:α):zcG f K x=K (f x):=rfl
@[simp]theorem zbL{α a:Type}(f:α->Option a)(K:a->Prop)(x:α):zcH f K x=Ve (f x) K:=rfl
def J6(C:Ctx)(pf:FuncId->Bool)(f:FuncId)(fn:Func):Prop:=∃code,fM C pf f fn code
theorem yt{C:Ctx}{pf:FuncId->Bool}{f:FuncId}{fn:Func}(e:xJ dr C pf)(b:J6 C pf f fn)(a:Bool)(c:List Nat)(F:zb->Option O)(hF:∀args r,F args=some r->args.length<=fn.ntmps/\∃d,zo C fn args=some d/\YC d r):kh dr C.P f (zg a c F):=
 let⟨_,b⟩:=b
 uB e b a c F hF
def kOk(pf:FuncId->Bool)(C:Ctx)(fn:Func):Bool:=!(fn.name== "runtime.NumGoroutine")&&match fn.body with
 |some c=>vI pf C.dyn C.Lr C.bk fn.ntmps c
 |none=>false
theorem qN{C:Ctx}{pf:FuncId->Bool}{f:FuncId}{fn:Func}(h:C.P.funcs[f]?=some fn)(a:kOk pf C fn=true:=by kernel_rfl):J6 C pf f fn:=by
 unfold kOk at a;split at a
 ·rename_i c b;simp only[zC,vk]at a;exact⟨c,h,a.1,b,a.2⟩
 ·simp at a
theorem vX{C:Ctx}{pf:FuncId->Bool}{f:FuncId}{fn:Func}{α:Type}{V:α->zb}{pre:α->Prop}{out:α->O}(e:xJ dr C pf)(h:C.P.funcs[f]?=some fn)(b:Bool)(c:List Nat)(hF:∀a,pre a->(V a).length<=fn.ntmps/\∃d,zo C fn (V a)=some d/\YC d (out a))(g:kOk pf C fn=true:=by kernel_rfl):kh dr C.P f (zg b c (qf V pre out)):=
 yt e (qN h g) b c _ fun args r h=>by obtain⟨a,rfl,Y,rfl⟩:=zN h;exact hF a Y
theorem XX{α:Type}{V:α->zb}{pre:α->Prop}{out:α->O}(a:α)(Y:Hp)(Z:Nat)(b:zD Y (V a)=some (V a,Y))(hi:∀x y,V x=V y->x=y)(h:pre a)(c:(out a).flat=true\/(V a).all O.noOwn=true):zg false [] (qf V pre out) (V a) Y Z=some (out a,Y,Z):=
 yP b (by
  have e:∀l:zb,yj [] l=l:=fun l=>by cases l<;>rfl
  rw[e];exact qM hi h) c
noncomputable def yq (C:Ctx) (fn:Func):AM.Spec:=fun args Y Z=>if args.length<=fn.ntmps then jJ C fn args Y Z else none
theorem Df{C:Ctx}{pf:FuncId->Bool}{f:FuncId}{fn:Func}{code:Code}(b:xJ dr C pf)(a:fM C pf f fn code):kh dr C.P f (yq C fn):=by
 refine⟨⟨fn,a.func,a.name,by rw[a.body];rfl⟩,?_⟩;intro args Y Z r e g h w S G vs hi c;unfold yq at h;split at h
 ·rename_i d;exact iD b.spec b.quiet b.box b.iter b.mixed a.func a.body a.ok h hi c d
 ·cases h
theorem kQ{C:Ctx}{pf:FuncId->Bool}{f:FuncId}{fn:Func}(a:xJ dr C pf)(h:C.P.funcs[f]?=some fn)(b:kOk pf C fn=true:=by kernel_rfl):kh dr C.P f (yq C fn):=let⟨_,k⟩:=qN h b;Df a k
end Go.AM
namespace Go.AM
open Go.RowKit Go.WideShapes Go.ChangeShapes
variable{dr:Prop}
section
variable{H:Type}{V:TypeId×Value->H}{P:Program}
theorem XY(g:laidOutB P=true){W i:World}(j:Below W.heap.size W i){sp:Nat->Bool}:∀{ts:List TypeId} {vs:List Value} {ds:List (DataW H)} {b:List MemPlace},(∀t∈ts,P.readableRec t=true/\t<P.types.size) ->
  DataW.TrodAll V P W 0 (fun _=>true) true ts vs ds b->(∀p∈b,p.block<W.heap.size)->(∀p∈b,sp p.block=true)->DataW.TrodAll V P i 0 sp true ts vs ds b
 |[],vs,ds,b,_,h,_,_=>by obtain⟨rfl,rfl,rfl⟩:=trodAll_nil h;exact trodAll_mk0
 |t::ts,vs,ds,b,f,h,c,e=>by
  obtain⟨v,k,d,l,p,q,rfl,rfl,rfl,m,n⟩:=trodAll_cons h;exact trodAll_cons_mk (WideElems.Trod_stays g (f t (by simp)).1 (f t (by simp)).2 m (fun x a=>j.same (c x (by simp[a]))) (fun x a=>e x (by simp[a])))
   (XY g j (fun u o=>f u (by simp[o])) n (fun x a=>c x (by simp[a])) (fun x a=>e x (by simp[a])))
theorem Mc{f:Func}{s:ChangeSpec}{a h c i:Bool}{W l:World}{args:Array Value}{ds C:List (DataW H)}{before:List MemPlace}(D:laidOutB P=true)(E:∀t∈f.params.toList,P.readableRec t=true/\t<P.types.size)
  (z:s.vars=[]) (u:DataW.Whole V P f.params.toList s.vars a W args.toList ds C before) (j:s.fn H ds={results:=[.lit (.bool true)],args:=ds}) {tb:TypeId} (A:f.resultTypes=#[tb]) (m:P.underlying tb=some .bool) (v:Below W.heap.size W l) :
  s.post V P f a h c i W args (.bool true) l:=by
 have k:∀p∈before,p.block<W.heap.size:=fun p Y=>u.lt p Y
 have w:=u;obtain⟨p,q,F,B,n,G,I⟩:=u;rw[z]at B;obtain⟨rfl,rfl⟩:=trodVars_none B;simp only[jL]at n;subst n;have x:DataW.TrodAll V P W 0 (fun _=>true) true f.params.toList args.toList ds before:=F;have d:∀sp:Nat->Bool,(∀p∈before,sp p.block=true)->DataW.TrodAll V P l 0 sp true f.params.toList args.toList ds before:=fun sp y=>XY D v E x k y
 have o:∀p∈before,(fun b=>decide (b<W.heap.size)) p.block=true:=fun p Y=>by simpa using k p Y
 have g:∀(b:Nat) (sp:Nat->Bool) (hd:Bool),DataW.TrodAll V P l b sp hd f.resultTypes.toList ((Value.bool true).resultList f.resultTypes.size) [.lit (.bool true)] []:=fun b sp hd=>by rw[A];exact trodAll_cons_mk (shut_bool m _) trodAll_mk0
 have e:∀sp,DataW.TrodVars V P l sp s.vars [] []:=fun sp=>by rw[z];rfl
 refine⟨ds,[],before,[],before,[],by simpa using w,?_,?_,?_,World.keptBut_mono (fun p Y=>⟨Y,.inr (.inl Y)⟩) (v.frame (·∈before)),fun _=>?_⟩
 ·rw[jL,j];exact g _ _ _
 ·rw[jL,j];exact d _ o
 ·rw[jL,j];exact e _
 ·refine⟨ok_one A rfl (okWide_bool_mk m _),_,_,([]++before)++[],⟨[]++before,[],trodAll_append (d _ (fun _ _=>rfl)) (g _ _ _),e _,rfl,?_,?_⟩,?_⟩
  ·intro b off Y;have r:MemPlace.cell b off∈before:=by simpa using Y
   rw[v.frozen (k _ r)];exact G b off (by simpa using r)
  ·intro J;have:=I J;simpa using this
  ·intro p Y _;simpa using Y
end
end Go.AM
namespace Go.AM
variable{dr:Prop}
def dp:Op->Bool
 | .move _|.assign _|.pick _ _ _|.load _ _|.binOp _ _ _ _ _|.unOp _ _ _|.convert _ _ _|.fieldAddr _ _ _|.field _ _ _|.indexAddr _ _ _|.index _ _ _|.extract _ _=>true
 | .slice _ _ _ _ none=>true
 | .call c=>match c.callee with
  | .builtin .len=>true
  | .builtin .min=>true
  | .builtin .max=>true
  |_=>false
 |_=>false
def rz(C:Ctx)(st:St)(op:Op):Option O:=(zU C (get st.U) st.Y st.Z op).map (·.1)
theorem Vk{o:Option O}{Y:Hp}{Z:Nat}:(o.map fun y=>(y,Y,Z))=((o.map fun y=>(y,Y,Z)).map (·.1)).map fun x=>(x,Y,Z):=by cases o<;>rfl
theorem vJ{o:Option O}{Y:Hp}{Z:Nat}:(o.bind fun y=>some (y,Y,Z))=((o.bind fun y=>some (y,Y,Z)).map (·.1)).map fun x=>(x,Y,Z):=by cases o<;>rfl
theorem G8{C:Ctx}{st:St}{op:Op}(h:dp op=true):zU C (get st.U) st.Y st.Z op=(rz C st op).map fun x=>(x,st.Y,st.Z):=by
 unfold rz;generalize get st.U=ρ;cases op with
 |move x=>simp only[PY];exact Vk
 |assign x=>simp only[G7];exact Vk
 |pick c a b=>simp only[PZ];exact Vk
 |load t a=>simp only[P1];cases ρ a<;>(try rfl);exact vJ
 |binOp op t x y j=>simp only[U1];cases ρ x<;>cases ρ y<;>(try rfl);exact vJ
 |unOp op t x=>simp only[zcn];cases ρ x<;>(try rfl);exact vJ
 |convert s d x=>simp only[P0];cases ρ x<;>(try rfl);exact vJ
 |fieldAddr t x f=>simp only[rv];cases ρ x<;>(try rfl);exact vJ
 |field t x f=>simp only[L8];cases ρ x<;>(try rfl);exact vJ
 |indexAddr t x i=>simp only[ry];cases ρ x<;>cases ρ i<;>(try rfl);exact vJ
 |index t x i=>simp only[L9];cases ρ x<;>cases ρ i<;>(try rfl);exact vJ
 |extract x i=>simp only[Dc];cases ρ x<;>(try rfl);exact vJ
 |slice t x lo hi g=>
  cases g with
  |none=>simp only[Ma];cases ρ x<;>(try rfl);exact vJ
  |some m=>simp[dp]at h
 |call c=>
  obtain⟨e,args,ts⟩:=c;cases e with
  |builtin b=>
   simp only[Dd];cases yh (args.toList.map ρ)with
   |none=>rfl
   |some xs=>
    simp only[Option.bind_eq_bind,zZ];cases b<;>(try (simp[dp]at h;done))
    case len=>
     cases xs with
     |nil=>rfl
     |cons x l=>
      cases l with
      |nil=>simp only[P6];cases ts[0]?<;>(try rfl);exact vJ
      |cons _ _=>rfl
    case min=>simp only[P7];exact Vk
    case max=>simp only[P8];exact Vk
  |_=>simp[dp]at h
 |_=>simp[dp]at h
def kY(C:Ctx)(g:FuncId):Prop:=∀a,C.Γ g=some a->Q9 a
def vq(C:Ctx)(op:Op):Prop:=∀st:St,zU C (get st.U) st.Y st.Z op=(rz C st op).map fun x=>(x,st.Y,st.Z)
theorem jC{C:Ctx}{op:Op}(h:dp op=true):vq C op:=fun _=>G8 h
@[simp]theorem zeI(C:Ctx)(g:FuncId)(a:Array Operand)(ts:Array TypeId)(h:kY C g):vq C (.call ⟨.value (.func g),a,ts⟩):=by
 intro st;unfold rz;simp only[P4,L7];cases yh (a.toList.map (get st.U))with
 |none=>rfl
 |some xs=>
  simp only[Option.bind_eq_bind,zZ];cases hs:C.Γ g with
  |none=>simp[jH,hs]
  |some b=>
   rw[De C st.Y st.Z g [] [] xs b hs];cases c:b ([]++xs++[]) st.Y st.Z with
   |none=>rfl
   |some r=>obtain⟨x,d,e⟩:=r;obtain⟨⟨rfl,rfl⟩,_⟩:=h b hs _ _ _ _ _ _ c;rfl
theorem y9{P:Program}{l:Zu}{g:Nat}{a:AM.Spec}(h:lookup l g=some a)(b:Q9 a):kY (zR P l) g:=fun s hs=>by
 have:lookup l g=some s:=hs;rw[h]at this;injection this with this
 exact this ▸ b
@[simp]theorem zeJ(C:Ctx)(x:Operand):vq C (.move x):=jC rfl
@[simp]theorem zbM(C:Ctx)(x:Operand):vq C (.assign x):=jC rfl
@[simp]theorem zeK(C:Ctx)(c a b:Operand):vq C (.pick c a b):=jC rfl
@[simp]theorem zeL(C:Ctx)(t:TypeId)(x:Operand):vq C (.load t x):=jC rfl
@[simp]theorem zfq(C:Ctx)(o:BinOp)(t a:TypeId)(x y:Operand):vq C (.binOp o t x y a):=jC rfl
@[simp]theorem zfS(C:Ctx)(o:UnOp)(t:TypeId)(x:Operand):vq C (.unOp o t x):=jC rfl
@[simp]theorem zeM(C:Ctx)(t u:TypeId)(x:Operand):vq C (.convert t u x):=jC rfl
@[simp]theorem zfT(C:Ctx)(t:TypeId)(x:Operand)(f:Nat):vq C (.fieldAddr t x f):=jC rfl
@[simp]theorem zfU(C:Ctx)(t:TypeId)(x:Operand)(f:Nat):vq C (.field t x f):=jC rfl
@[simp]theorem zfV(C:Ctx)(t:TypeId)(x i:Operand):vq C (.indexAddr t x i):=jC rfl
@[simp]theorem zfW(C:Ctx)(t:TypeId)(x i:Operand):vq C (.index t x i):=jC rfl
@[simp]theorem zfX(C:Ctx)(x:Operand)(i:Nat):vq C (.extract x i):=jC rfl
@[simp]theorem zfY(C:Ctx)(t:TypeId)(x:Operand)(lo hi:Option Operand):vq C (.slice t x lo hi none):=jC rfl
@[simp]theorem zfr(C:Ctx)(a:Array Operand)(ts:Array TypeId):vq C (.call ⟨.builtin .len,a,ts⟩):=jC rfl
@[simp]theorem zfs(C:Ctx)(a:Array Operand)(ts:Array TypeId):vq C (.call ⟨.builtin .min,a,ts⟩):=jC rfl
@[simp]theorem zft(C:Ctx)(a:Array Operand)(ts:Array TypeId):vq C (.call ⟨.builtin .max,a,ts⟩):=jC rfl
def bc{α:Type}(y:Bool)(a b:α):α:=match y with
 |true=>a
 |false=>b
@[simp]theorem zeN{α:Type}(a b:α):bc true a b=a:=rfl
@[simp]theorem zcI{α:Type}(a b:α):bc false a b=b:=rfl
@[simp]theorem zfu{α:Type}(y:Bool)(a b:α):bc (!y) a b=bc y b a:=by cases y<;>rfl
@[simp]theorem zeO{α:Type}(y:Bool)(a:α):bc y a a=a:=by cases y<;>rfl
def bx(y:Bool):Bool:=y
@[simp]theorem zeP:bx true=true:=rfl
@[simp]theorem zcJ:bx false=false:=rfl
@[simp]theorem zfv{α:Type}(y:Bool)(a b c:α):bc y (bc y a b) c=bc y a c:=by cases y<;>rfl
@[simp]theorem zfw{α:Type}(y:Bool)(a b c:α):bc y a (bc y b c)=bc y a c:=by cases y<;>rfl
def mY(C:Ctx)(st:St)(op:Op)(y:Option Bool)(b:Bool):Option O:=if y=some b then rz C st op else some (.wP [])
section
variable(C:Ctx)(d:Option Tmp)(op:Op)(st:St)
theorem iF(y:Option Bool)(b:Bool)(h:vq C op):Ze C d op st y b=(mY C st op y b).map fun x=>⟨put st.U d x,st.Y,st.Z⟩:=by
 unfold Ze mY;rw[h st];split
 ·cases rz C st op<;>rfl
 ·rfl
@[simp low] theorem zab(y b:Bool)(h:vq C op):Ze C d op st (some y) b=(mY C st op (some y) b).map fun x=>⟨put st.U d x,st.Y,st.Z⟩:=iF C d op st _ b h
@[simp]theorem zcK(y:Bool)(p q:Option Bool)(b:Bool)(h:vq C op):Ze C d op st (bc y p q) b=(mY C st op (bc y p q) b).map fun x=>⟨put st.U d x,st.Y,st.Z⟩:=iF C d op st _ b h
@[simp]theorem zeQ(y:Bool)(p q:Option Bool)(b:Bool):mY C st op (bc y p q) b=bc y (mY C st op p b) (mY C st op q b):=by cases y<;>rfl
@[simp]theorem zbN(b:Bool):mY C st op none b=some (.wP []):=rfl
@[simp]theorem zfx(y:Bool):mY C st op (some y) true=bc (bx y) (rz C st op) (some (.wP [])):=by cases y<;>rfl
@[simp]theorem zfy(y:Bool):mY C st op (some y) false=bc (bx y) (some (.wP [])) (rz C st op):=by cases y<;>rfl
end
@[simp]theorem zbO(y:Bool)(a b:O):Vj (bc y a b)=bc y (Vj a) (Vj b):=by cases y<;>rfl
@[simp]theorem zeR{α:Type}(y:Bool)(a b:α):bc y (some a) (some b)=some (bc y a b):=by cases y<;>rfl
@[simp]theorem zcL(y z:Bool)(w:O):W9 (some (.v (.bool y))) (some (bc (bx y) (.v (.bool z)) w)) (some (.v (.bool false)))=some (.v (.bool (y&&z))):=by cases y<;>rfl
@[simp]theorem zeS(y z:Bool)(w:O):W9 (some (.v (.bool y))) (some (.v (.bool true))) (some (bc (bx y) w (.v (.bool z))))=some (.v (.bool (y||z))):=by cases y<;>rfl
@[simp]theorem zcM{α:Type}(y c:Bool)(a b d0 d:α):bc y (bc c (bc y a b) d) d0=bc y (bc c a d) d0:=by cases y<;>rfl
@[simp]theorem zcN{α:Type}(y c:Bool)(a b d0 d:α):bc y (bc c d (bc y a b)) d0=bc y (bc c d a) d0:=by cases y<;>rfl
@[simp]theorem zcO{α:Type}(y c:Bool)(a b d e:α):bc y d (bc c (bc y a b) e)=bc y d (bc c b e):=by cases y<;>rfl
@[simp]theorem zcP{α:Type}(y c:Bool)(a b d e:α):bc y d (bc c e (bc y a b))=bc y d (bc c e b):=by cases y<;>rfl
@[simp]theorem zcQ{α:Type}(y c d:Bool)(a b d0 e f:α):bc y (bc c (bc d (bc y a b) f) e) d0=bc y (bc c (bc d a f) e) d0:=by cases y<;>rfl
@[simp]theorem zcR{α:Type}(y c d:Bool)(a b d0 e f:α):bc y (bc c (bc d f (bc y a b)) e) d0=bc y (bc c (bc d f a) e) d0:=by cases y<;>rfl
@[simp]theorem zcS{α:Type}(y c d:Bool)(a b d0 e f:α):bc y (bc c e (bc d (bc y a b) f)) d0=bc y (bc c e (bc d a f)) d0:=by cases y<;>rfl
@[simp]theorem zcT{α:Type}(y c d:Bool)(a b d0 e f:α):bc y (bc c e (bc d f (bc y a b))) d0=bc y (bc c e (bc d f a)) d0:=by cases y<;>rfl
@[simp]theorem zcU{α:Type}(y c d:Bool)(a b e f g:α):bc y e (bc c (bc d (bc y a b) g) f)=bc y e (bc c (bc d b g) f):=by cases y<;>rfl
@[simp]theorem zbP{α:Type}(y c d:Bool)(a b e f g:α):bc y e (bc c (bc d g (bc y a b)) f)=bc y e (bc c (bc d g b) f):=by cases y<;>rfl
@[simp]theorem zbQ{α:Type}(y c d:Bool)(a b e f g:α):bc y e (bc c f (bc d (bc y a b) g))=bc y e (bc c f (bc d b g)):=by cases y<;>rfl
@[simp]theorem zbR{α:Type}(y c d:Bool)(a b e f g:α):bc y e (bc c f (bc d g (bc y a b)))=bc y e (bc c f (bc d g b)):=by cases y<;>rfl
section
variable(P:Program)(C:Ctx)(Y:Hp)(Z:Nat)(t u:TypeId)(y:Bool)(a b:O)
@[simp]theorem zeT:xB P Y t (bc y a b)=bc y (xB P Y t a) (xB P Y t b):=by cases y<;>rfl
@[simp]theorem zeU(o:BinOp)(x:O):ZV P o t (bc y a b) x=bc y (ZV P o t a x) (ZV P o t b x):=by cases y<;>rfl
@[simp]theorem zeV(o:BinOp)(x:O):ZV P o t x (bc y a b)=bc y (ZV P o t x a) (ZV P o t x b):=by cases y<;>rfl
@[simp]theorem zcV(c:Bool)(o:BinOp)(x:O):K6 c P o t (bc y a b) x=bc y (K6 c P o t a x) (K6 c P o t b x):=by cases y<;>rfl
@[simp]theorem zcW(c:Bool)(o:BinOp)(x:O):K6 c P o t x (bc y a b)=bc y (K6 c P o t x a) (K6 c P o t x b):=by cases y<;>rfl
@[simp]theorem zfZ(o:UnOp):Pu o (bc y a b)=bc y (Pu o a) (Pu o b):=by cases y<;>rfl
@[simp]theorem zeW:XQ P t u (bc y a b)=bc y (XQ P t u a) (XQ P t u b):=by cases y<;>rfl
@[simp]theorem Ri(f:Nat):yN P t f (bc y a b)=bc y (yN P t f a) (yN P t f b):=by cases y<;>rfl
@[simp]theorem TQ(f:Nat):ZI P t f (bc y a b)=bc y (ZI P t f a) (ZI P t f b):=by cases y<;>rfl
@[simp]theorem Pz(x:O):qH P Y t (bc y a b) x=bc y (qH P Y t a x) (qH P Y t b x):=by cases y<;>rfl
@[simp]theorem PA(x:O):qH P Y t x (bc y a b)=bc y (qH P Y t x a) (qH P Y t x b):=by cases y<;>rfl
@[simp]theorem zbS(x:O):Qz P t (bc y a b) x=bc y (Qz P t a x) (Qz P t b x):=by cases y<;>rfl
@[simp]theorem zbT(x:O):Qz P t x (bc y a b)=bc y (Qz P t x a) (Qz P t x b):=by cases y<;>rfl
@[simp]theorem zfz:JT P t (bc y a b)=bc y (JT P t a) (JT P t b):=by cases y<;>rfl
@[simp]theorem zbU(lo hi:Option (Option O)):yG P Y t (bc y a b) lo hi=bc y (yG P Y t a lo hi) (yG P Y t b lo hi):=by cases y<;>rfl
@[simp]theorem zbV(x:O)(hi:Option (Option O)):yG P Y t x (some (some (bc y a b))) hi=bc y (yG P Y t x (some (some a)) hi) (yG P Y t x (some (some b)) hi):=by cases y<;>rfl
@[simp]theorem zbW(x:O)(lo:Option (Option O)):yG P Y t x lo (some (some (bc y a b)))=bc y (yG P Y t x lo (some (some a))) (yG P Y t x lo (some (some b))):=by cases y<;>rfl
@[simp]theorem zac(i:Nat):Jk i (bc y a b)=bc y (Jk i a) (Jk i b):=by cases y<;>rfl
@[simp]theorem zcX(p q:Option O):W9 (some (bc y a b)) p q=bc y (W9 (some a) p q) (W9 (some b) p q):=by cases y<;>rfl
@[simp low] theorem zcY(p q:Option O):W9 p (some (bc y a b)) q=bc y (W9 p (some a) q) (W9 p (some b) q):=by cases y<;>rfl
@[simp low] theorem zcZ(p q:Option O):W9 p q (some (bc y a b))=bc y (W9 p q (some a)) (W9 p q (some b)):=by cases y<;>rfl
@[simp]theorem zc0(c:Bool)(d:List Nat)(F:zb->Option O)(l:zb):zg c d F (bc y a b::l) Y Z=bc y (zg c d F (a::l) Y Z) (zg c d F (b::l) Y Z):=by cases y<;>rfl
@[simp]theorem zc1(c:Bool)(d:List Nat)(F:zb->Option O)(x:O)(l:zb):zg c d F (x::bc y a b::l) Y Z=bc y (zg c d F (x::a::l) Y Z) (zg c d F (x::b::l) Y Z):=by cases y<;>rfl
@[simp]theorem zc2(c:Bool)(d:List Nat)(F:zb->Option O)(x z:O)(l:zb):zg c d F (x::z::bc y a b::l) Y Z=bc y (zg c d F (x::z::a::l) Y Z) (zg c d F (x::z::b::l) Y Z):=by cases y<;>rfl
end
@[simp]theorem zfA{α c:Type}(y:Bool)(f:α->c)(a b:Option α):(bc y a b).map f=bc y (a.map f) (b.map f):=by cases y<;>rfl
@[simp]theorem zeX{α c:Type}(y:Bool)(f:α->Option c)(a b:Option α):(bc y a b).bind f=bc y (a.bind f) (b.bind f):=by cases y<;>rfl
attribute [simp] rz
variable{dr:Prop}
def uG(k:Nat)(D:List (Tmp×Tmp))(i:Nat):List (Tmp×Tmp):=if i=k then D else[]
@[simp]theorem zad(P:Program)(l:Zu)(k:Nat)(D:List (Tmp×Tmp))(i:Nat):(J4 P l (uG k D)).dyn i=if i=k then D else[]:=rfl
@[simp]theorem Md(P:Program)(l:Zu)(k:Nat)(D:List (Tmp×Tmp))(i:Nat)(a:Array Oper)(d:Bool)(st:St)(K:Exit->St->Prop)(h:¬i=k):Zy (J4 P l (uG k D)) (.region i a d) st K=rk (J4 P l (uG k D)) a a.toList st (KU K):=J1 _ i a d st K (by simp[h]) rfl
theorem iG{a b:Tmp}{st:St}{id i j id' i' j':Nat}{blk:kN}(d:st.U a=.ref id i j)(e:st.U b=.ref id' i' j')(f:id≠id')(g:st.Y id'=some blk)(h:blk.arr=false):Ws [(a,b)] st:=by
 intro p Y;obtain rfl:=yp.1 Y;intro k l m c;rw[d]at c;injection c with c _ _
 subst c;exact⟨id',i',j',blk,e,f,g,h⟩
theorem iH{w:World}{S:Nat->Prop}{G:Nat->GI}{Z:Nat}:∀{us vs:List Value},(∀u∈us,lit u=true)->Zip (qe w S G Z) (us.map O.v) vs->vs=us
 |[],vs,_,h=>by have:=h.1;simp at this;exact zT.1 this.symm
 |u::us,vs,a,h=>by
  obtain⟨v,b,rfl,d,e⟩:=h.jG;rw[iH (fun x f=>a x (by simp[f])) e];congr 1;cases d with
  |c g=>exact g.wX.1
theorem rA{P:Program}{g:FuncId}{F:zb->Option O}(j:∃fn,P.funcs[g]?=some fn/\(fn.name== "runtime.NumGoroutine")=false/\fn.body.isNone=false)
  (h:∀args r,F args=some r->∃us:List Value,args=us.map O.v/\(∀u∈us,lit u=true)/\∃v,r=.v v/\lit v=true/\∀w,Calls P g us.toArray w fun e w'=>e=.returned v/\w'=w):kh dr P g (zg false [] F):=by
 refine⟨j,?_⟩;intro args Y Z r E H hs w S G vs hi q;unfold zg at hs;split at hs
 ·rename_i k Y1 m;split at hs
  ·rename_i I hF;obtain⟨us,e,s,v,rfl,t,z⟩:=h _ _ hF;have A:yj [] k=k:=by cases k<;>rfl
   rw[A]at e;subst e;have d:args=us.map O.v:=by
    have n:∀(args:zb) (us:List Value) (Y1:Hp),zD Y args=some (us.map O.v,Y1)->args=us.map O.v:=by
     intro args
     induction args with
     |nil=>intro us Y1 b;simp only[zD]at b;injection b with b;injection b with b _
     |cons x l B=>
      intro us Y1 b;simp only[zD]at b;split at b
      ·rename_i y Y2 a;split at b
       ·rename_i J o p;injection b with b
        injection b with b _;cases us with
        |nil=>simp at b
        |cons u us=>
         simp only[wc,zh]at b;obtain⟨rfl,rfl⟩:=b;have C:x=.v u/\Y2=Y:=by
          unfold qD at a;split at a
          ·split at a
           ·injection a with a;injection a with a _;cases a
           ·cases a
          ·unfold wV at a;split at a<;>first
            |(split at a<;>first|(split at a<;>first|(injection a with a;injection a with a _;cases a;done)|cases a)|cases a)
            |(injection a with a;injection a with i f;first|(exact⟨by rw[<-i],f.symm⟩)|cases i)
            |cases a
         obtain⟨rfl,rfl⟩:=C;rw[B us o p];rfl
       ·cases b
      ·cases b
    exact n args us Y1 m
   subst d;simp only[O.flat,true_or,qB]at hs;injection hs with hs
   injection hs with i f;injection f with f D;subst i;subst f;subst D;rw[iH s q];refine(z w).mono fun e w' b=>?_
   obtain⟨rfl,rfl⟩:=b;exact⟨v,S,G,rfl,kO.refl hi,.c (.v t)⟩
  ·cases hs
 ·cases hs
theorem Vl:∀(l cs:zb) (off:Nat),off+l.length<=cs.length->yS cs off l=cs.take off++l++cs.drop (off+l.length)
 |[],cs,off,_=>by simp
 |x::l,cs,off,h=>by
  simp only[zP]at h;rw[yS,Vl l (cs.set off x) (off+1) (by simp;omega)];have b:(cs.set off x).take (off+1)=cs.take off++[x]:=by
   rw[zX (by simp;omega)];have c:(cs.set off x).take off=cs.take off:=by
    apply List.ext_getElem?;intro j;simp only[qt,List.getElem?_set];by_cases a:j<off
    ·simp[a,show¬off=j by omega]
    ·simp[a]
   rw[c];simp
  have d:(cs.set off x).drop (off+1+l.length)=cs.drop (off+(x::l).length):=by rw[List.drop_set_of_lt (by omega)];simp only[zP];congr 1;omega
  rw[b,d];simp
@[simp]theorem Me(z cs:zb)(h:cs.length=z.length):yS z 0 cs=cs:=by rw[Vl cs z 0 (by omega)];simp[h]
@[simp]theorem PB(x:O)(z cs:zb)(h:cs.length=z.length):yS (x::z) 1 cs=x::cs:=by rw[Vl cs (x::z) 1 (by simp;omega)];simp[show 1+cs.length=z.length+1 by omega]
@[simp]theorem O7(U:Nat->O):AM.get U (.const .nilIface)=some (.v .nilIface):=rfl
section
variable(C:Ctx)(ρ:Operand->Option O)(Y:Hp)(Z:Nat)
def Dg:O->Option O
 | .ref id i j=>some (.ref id i j)
 | .ptr cs=>some (.ptr cs)
 |_=>none
@[simp]theorem zae(id i j:Nat):Dg (.ref id i j)=some (.ref id i j):=rfl
@[simp]theorem zaf(cs:zb):Dg (.ptr cs)=some (.ptr cs):=rfl
@[simp]theorem TR(x:Operand):zU C ρ Y Z (.nilCheck x)=(do let p <-ρ x;let r <-Dg p;some (r,Y,Z)):=by
 simp only[zU];cases ρ x with
 |none=>rfl
 |some p=>cases p<;>rfl
end
@[simp]theorem zc3(i:Nat):O.cells (.mp i)=[.mp i]:=rfl
@[simp]theorem zbX(i:Nat):O.wW (.mp i)=true:=rfl
end Go.AM
namespace Go.Proofs
open Go.Shelf
def Tryz.Cq:Go.Shelf.Ren:=⟨fun|213=>45|265=>77|n=>n,fun|9=>9|3=>3|n=>n,fun|n=>n⟩
theorem Tryz.Tl:Go.Proofs.Lays.n213 prog Tryz.Cq:={
 mixed:=by kernel_rfl
 f213:=func45.trans (zt some (by kernel_rfl))
 f265:=func77.trans (zt some (by kernel_rfl))
 t3:=underlying3
 a3:=isAgg3
 z3:=sizeOf3
 v3:=zeroValue3
 t9:=underlying9
 a9:=isAgg9
 z9:=sizeOf9
 v9:=zeroValue9}
open Go.RowKit in
theorem Tryz.bytealg_CompareString(a b:ByteArray)(w:World) :
  Calls prog 45 #[.string a,.string b] w fun e w'=>e=.returned (.int .i64 (Lib.compareBytes a.data.toList b.data.toList))/\w'=w:=Any.bytealg_CompareString Tryz.Tl a b w
end Go.Proofs
