/- Lemmas. -/
import Derived.ProofKit
import Derived.Lib.Strings
import Derived.Carry
import Derived.ChangeSame
import Derived.OpenShut
import Derived.Shelf.SlSortCmp.InsertionK
import Derived.Sort.AssemblyPlain
import Derived.Shelf.Spec.SlicesGrow
import Derived.Deep.AppendSrc
import Derived.Laws.BytesString
import Derived.Shelf.Small.Strs
import Derived.Shelf.Strconv.Itoa0
import Derived.Ground.Names2Prog
import Derived.Test.YtjnfibncnabkmaaGreatDoorProg
import Derived.Test.YtjnfibncnabkmaaGreatDoorG3
set_option maxRecDepth 8000
open Go Proofs Proofs.YtjnfibncnabkmaaGreatDoor Proofs.Tryz RowKit AM SpanLaw Q Zz
namespace Go.AM
variable{dr:Prop}
section
variable{C:Ctx}{pf:FuncId->Bool}
theorem JK{w:World}{S:Nat->Prop}{G:Nat->GI}{st:St}{a:Act}(B:Inv C.P w S G st.Y st.Z)(hs:∀t,qw w S G st.Z (st.M t) (a.tmps.getD t undef)) :
  ∀{l:List ResultVar} {xs:zb},yB (l.map (W7 C.P st))=some xs->∃vs,(l.mapM (m:=Sem) fun r=>match r with
   | .tmp t=>pure (a.tmps.getD t undef)
   | .cell p t=>do loadVar t (<-asAddr (a.tmps.getD p undef))).run C.P w=.ok vs w/\Zip (qw w S G st.Z) xs vs
 |[],xs,h=>by
  simp only[QE,yB]at h;injection h with h
  subst h;exact⟨[],by simp,.nil⟩
 |r::l,xs,h=>by
  simp only[wK]at h;cases d:W7 C.P st r with
  |none=>rw[d]at h;simp[yB]at h
  |some p=>
   rw[d]at h;simp only[yB]at h;cases D:yB (l.map (W7 C.P st))with
   |none=>rw[D]at h;simp at h
   |some ys=>
    rw[D]at h;simp at h;subst h;obtain⟨vs,J,K⟩:=JK B hs D;cases r with
    |tmp t=>
     simp only[W7]at d;injection d with d
     subst d;refine⟨a.tmps.getD t undef::vs,?_,.cons (hs t) K⟩;simp only[List.mapM_cons,vO,WI,kx,J]
    |cell q t=>
     simp only[W7]at d;obtain⟨v,w',S',G',Q,k,hx⟩:=rf (dr:=True) B d (hs q);have y:=hs q;have E:∃v,(do loadVar t (<-asAddr (a.tmps.getD q undef)):Sem Value).run C.P w=.ok v w/\qw w S G st.Z p v:=by
      unfold xn at d;split at d
      ·rename_i cs f;rw[f]at y;have F:=y.Vq;generalize a.tmps.getD q undef=u at *;cases F with
       |ptr us R T=>obtain⟨v,z,n⟩:=X0 (G:=G) (Z:=st.Z) (w:=w) (S:=S) d _ us (fun j A L=>⟨(R j A L).2,.c (T j A L)⟩);exact⟨v,by simp[asAddr,z],n⟩
      ·rename_i id i j f;rw[f]at y;have H:=y.aB;obtain⟨hid,U⟩:=y.Wn;rw[U]at Q⊢;split at d
       ·rename_i b W;split at d
        ·rename_i c F;obtain⟨o,X,h4,h5⟩:=(B.live id b W).row H;have x:∀k:Nat,w.cell? ((⟨(G id).g,i*(G id).s+j,none⟩:Addr).add k)=o[i*(G id).s+j+k]?:=by intro k;rw[yz,cell_of_row w _ _ o _ _ X]
         obtain⟨v,z,n⟩:=X0 (G:=G) (Z:=st.Z) (w:=w) (S:=S) d ⟨(G id).g,i*(G id).s+j,none⟩ (fun k=>(o[i*(G id).s+j+k]?).getD undef) (fun k A N=>by
          rw[qI]at N;obtain⟨u,h6,h7⟩:=h5 i (j+k) c A F N;rw[x];have e:i*(G id).s+j+k=i*(G id).s+(j+k):=by omega
          rw[e,h6];exact⟨rfl,h7.2.1⟩)
         exact⟨v,by simp[asAddr,z],n⟩
        ·cases d
       ·cases d
      ·cases d
     obtain⟨v,z,I⟩:=E;refine⟨v::vs,?_,.cons I K⟩;simp only[List.mapM_cons,vO,z,kx,J,WI]
theorem KP{P:Program}{fn:Func}{a:Array Value}{R:Ending->World->Prop}:∀(c:List Nat) (w:World),c.Nodup->(∀D∈c,w.heap[D]?=some (.deferred (some [])))->(∀f,Fr dr w (fun b=>b∈c) f->LeavesIn Fence.wide 0 P fn a R [] .returning f)->LeavesInM Fence.wide 0 P fn a R (c.map ia) .returning w
 |[],w,_,_,h=>h w (Fr.refl _ _)
 |D::c,w,i,hd,h=>by
  obtain⟨j,l⟩:=List.nodup_cons.1 i;refine⟨by simp,.inl ⟨D,_,rfl,run_takeDeferred (hd D (by simp)),KP c _ l (fun g d=>?_) fun f m=>h f ?_⟩⟩
  ·exact(zhi (k:=g) (r:=D) fun e=>j (by rw[<-e];exact d)).trans (hd g (by simp[d]))
  ·exact(ES (.deferred none) (fun b=>b∈D::c) (by simp)).trans m (fun b _ n=>by simp[n])
theorem mb(R:∀g a,C.Γ g=some a->wO dr C.P g a)(T:∀g a,pf g=true->C.Γ g=some a->QQ a)(U:∀g a,C.bk g=true->C.Γ g=some a->Wb a)(hit:∀g it,C.it g=some it->Bs dr C.P g it)(hm:C.P.follows .mixedOrders=true)
  {f:FuncId} {fn:Func} {code:Code} (hf:C.P.funcs[f]?=some fn) (k:fn.body=some code) (W:vJ pf C.dyn C.M6 C.bk fn.ntmps code=true)
  {args:zb} {Y Q:Hp} {Z E:Nat} {x:O} (h:jr C fn args Y Z=some (x,Q,E)) {w:World} {S:Nat->Prop} {G:Nat->GI} {vs:List Value} (hi:Inv C.P w S G Y Z) (X:Zip (qw w S G Z) args vs) (hn:args.length<=fn.ntmps) :
  Calls C.P f vs.toArray w fun e w'=>∃v S' G',e=.returned v/\kN dr C.P Y Z S G w Q E S' G' w'/\qw w' S' G' E x v:=by
 unfold jr at h;simp only[k]at h;refine oO.1 (callsIn_of_wp_marks (n:=0) hf k trivial ?_);have H:jE dr C.P w S (kn Y G) fn.ntmps Z G w.heap.size ⟨km args,Y,Z⟩ {tmps:=vs.toArray++Array.replicate (fn.ntmps-vs.toArray.size) undef,defers:=[]} w:=by
  refine⟨S,G,hi,fun t=>?_,?_,.nil (zk _),fun _ h=>h,fun _ h=>.inl h,fun id b k=>.inl ⟨id,b,k,rfl⟩,Fr.refl _ _,zk _,fun _ _=>rfl⟩
  ·have hvl:vs.length=args.length:=X.1.symm;unfold km;by_cases ht:t<args.length
   ·have p:args[t]?=some args[t]:=zo ht;have l:vs[t]?=some (vs[t]'(by omega)):=zo (by omega);have h3:=X.2 t _ _ p l;have h4:(vs.toArray++Array.replicate (fn.ntmps-vs.toArray.size) undef)[t]?=vs[t]?:=by rw[D5 (by simpa using(by omega:t<vs.length))];simp
    simp only[p,WJ];rw[JD,h4,l];exact h3
   ·have p:args[t]?=none:=wq (by omega);have h4:(vs.toArray++Array.replicate (fn.ntmps-vs.toArray.size) undef).getD t undef=undef:=by rw[JD,Array.getElem?_append_right (by simpa using(by omega:vs.length<=t)),Array.getElem?_replicate];split<;>rfl
    simp only[p,Option.getD_none];rw[h4];exact kA
  ·have hvl:vs.length=args.length:=X.1.symm;simp;omega
 have I:∀(e:Exit) (st:St),(e=.normal\/e=.ret)->wa C code ⟨km args,Y,Z⟩=some (e,st)->(xI C.P fn st).map (fun x=>(x,st.Y,st.Z))=some (x,Q,E) ->
   code.wpIn Fence.wide 0 C.P (bodyPostM Fence.wide 0 C.P fn fun e w'=>∃v S' G',e=.returned v/\kN dr C.P Y Z S G w Q E S' G' w'/\qw w' S' G' E x v) {tmps:=vs.toArray++Array.replicate (fn.ntmps-vs.toArray.size) undef,defers:=[]} w:=by
  intro e st he m hr;obtain⟨r,d,s⟩:=zU hr;injection s with e1 s
  injection s with e2 e3;subst e1;subst e2;subst e3;refine ma R T U hit hm code W Fence.wide 0 (.inl rfl) (.inl rfl) w S (kn Y G) Z G w.heap.size _ st e _ w _ (zk _) m H fun F w1 hs'=>?_
  obtain⟨S',G',c⟩:=hs';obtain⟨hd0,Ds,hd1,hd2,o⟩:=c.defers;have J:LeavesInM Fence.wide 0 C.P fn F.tmps (fun e w'=>∃v S' G',e=.returned v/\kN dr C.P Y Z S G w st.Y st.Z S' G' w'/\qw w' S' G' st.Z r v) F.defers .returning w1:=by
   rw[hd1];refine KP (dr:=dr) Ds w1 hd2 (fun D hD=>(o D hD).2.1) fun w' A=>?_
   have K:∀b,b∈Ds->VO S' G' st.Y b:=fun b k=>⟨(o b k).2.2.1,(o b k).2.2.2⟩
   have q:=c.inv.frame A K;have hsl:∀t,qw w' S' G' st.Z (st.M t) (F.tmps.getD t undef):=fun t=>(c.Zq t).mono (fun b k=>⟨k,A.block b (c.inv.st b k) fun hb'=>(K b hb').1 k⟩) (zk _) (fun _ _=>rfl)
   have hk:kN dr C.P Y Z S G w st.Y st.Z S' G' w':=⟨q,c.up,c.loc,c.s0,c.s1,c.own,c.fr.trans A fun b k p=>by have:=(o b p).1;omega⟩;have L:∃v,(results fn F.tmps).run C.P w'=.ok v w'/\qw w' S' G' st.Z r v:=by
    unfold xI at d;have go:∀xs,yB (fn.results.toList.map (W7 C.P st))=some xs->r=(match xs with|[x]=>x|xs=>.wL xs)->∃v,(results fn F.tmps).run C.P w'=.ok v w'/\qw w' S' G' st.Z r v:=by
     intro xs hx i;obtain⟨us,p,l⟩:=JK q hsl hx;have N:(results fn F.tmps).run C.P w'=.ok (if h:us.toArray.size=1 then us.toArray[0]else .tuple us.toArray) w':=by unfold results;rw[Array.mapM_eq_mapM_toList];simp only[vO,Sem.run_map];erw [p];rfl
     refine⟨_,N,?_⟩
     match xs,l,i with
     |[],l,i=>rw[l.Y8];subst i;exact .wL rfl (by simp)
     |[y],l,i=>obtain⟨u,rfl,hu⟩:=Jp l;subst i;simpa using hu
     |y::z::ys,l,i=>have hl:=l.1;subst i;rw[dif_neg (by simp at hl⊢;omega)];exact .wL (by simpa using hl) (fun j pv u hj hu=>l.2 j pv u hj (by simpa using hu))
    split at d
    ·rename_i y hy;injection d with d
     exact go [y] hy d.symm
    ·rename_i xs B hx;injection d with d
     refine go xs hx ?_;rw[<-d]
     match xs,B with
     |[],_=>rfl
     |[y],B=>exact(B y rfl).elim
     |y::z::ys,_=>rfl
    ·cases d
   obtain⟨v,hv1,hv2⟩:=L;exact⟨v,hv1,v,S',G',rfl,hk,hv2⟩
  rcases he with rfl|rfl
  ·exact J
  ·exact J
 split at h
 ·rename_i st m;exact I _ st (.inl rfl) m h
 ·rename_i st m;exact I _ st (.inr rfl) m h
 ·cases h
end
variable{dr:Prop}
def O.isV:O->Bool
 | .v _=>true
 |_=>false
def O.flat:O->Bool
 | .v _=>true
 | .wL cs=>cs.all O.isV
 |_=>false
def NN(s:Nat):O->O
 | .nil=>.sl s []
 |x=>x
def yR:List Nat->zb->zb
 |s::a,x::l=>NN s x::yR a l
 |_,l=>l
def tC(x y:O):Prop:=x=y\/(x=.nil/\∃s,y=.sl s [])
def aX:O->O->Prop
 | .wL xs,.wL ys=>xs.length=ys.length/\∀(j:Nat) (x y:O),xs[j]?=some x->ys[j]?=some y->tC x y
 |x,y=>tC x y
def zn(a:Bool)(b:List Nat)(F:zb->Option O):AM.Spec:=fun args Y Z=>
 match zH Y args with
 |some (c,Y1)=>match F (yR b c)with
  |some r=>if r.flat=true\/args.all O.noOwn=true then some (r,Y,Z)else if a=true then some (r,Y1,Z)else none
  |none=>none
 |none=>none
def jL(a:List Nat)(F:zb->Option (Option Blk)):AM.Spec:=fun args Y Z=>
 match zH Y args with
 |some (c,Y1)=>match F (yR a c)with
  |some none=>some (.nil,Y1,Z)
  |some (some b)=>some (.own Z 0 b.es.length,qf Y1 Z (some b),Z+1)
  |none=>none
 |none=>none
theorem NO{α:Type}(f:Nat->α){i j:Nat}(h:i≠j)(x y:α):qf (qf f i x) j y=qf (qf f j y) i x:=by
 funext k;unfold qf;by_cases a:k=i
 ·subst a;simp[h]
 ·simp[a]
theorem VZ{Y Y1:Hp}{x y:O}{Z:Nat}(f:Y Z=none)(b:Option Blk)(h:qp Y x=some (y,Y1)):qp (qf Y Z b) x=some (y,qf Y1 Z b)/\Y1 Z=none:=by
 unfold qp at h;split at h
 ·rename_i id off n;split at h
  ·rename_i j g;have a:id≠Z:=fun e=>by rw[e,f]at g;cases g
   split at h
   ·rename_i i;injection h with h
    injection h with c d;subst c;subst d;refine⟨?_,by rw[zc _ _ _ _ a.symm];exact f⟩;unfold qp;simp only[zc Y Z id b a,g,i,and_self,zK];rw[NO Y a.symm]
   ·cases h
  ·cases h
 all_goals first
  |(injection h with h;injection h with c d;subst c;subst d;exact⟨rfl,f⟩)
  |(split at h
    ·rename_i i;injection h with h;injection h with c d;subst c;subst d
     exact⟨by unfold qp;simp only[i,and_self,zK],f⟩
    ·cases h)
  |cases h
theorem Vy{Z:Nat}(b:Option Blk):∀{xs ys:zb} {Y Y1:Hp},Y Z=none->qm Y xs=some (ys,Y1)->qm (qf Y Z b) xs=some (ys,qf Y1 Z b)/\Y1 Z=none
 |[],ys,Y,Y1,a,h=>by
  simp only[qm]at h;injection h with h;injection h with c d;subst c;subst d
  exact⟨rfl,a⟩
 |x::l,ys,Y,Y1,a,h=>by
  simp only[qm]at h;split at h
  ·rename_i y Y2 e;split at h
   ·rename_i r f g;injection h with h;injection h with c d;subst c;subst d
    obtain⟨i,j⟩:=VZ a b e;obtain⟨k,m⟩:=Vy b j g;exact⟨by simp only[qm,i,k],m⟩
   ·cases h
  ·cases h
theorem o5{Y Y1:Hp}{x y:O}{Z:Nat}(a:Y Z=none)(b:Option Blk)(h:zO Y x=some (y,Y1)):zO (qf Y Z b) x=some (y,qf Y1 Z b)/\Y1 Z=none:=by
 cases x with
 |agg cs=>
  simp only[zO]at h⊢;split at h
  ·rename_i l i c;injection h with h;injection h with d e;subst d;subst e
   obtain⟨f,g⟩:=Vy b a c;exact⟨by simp only[f],g⟩
  ·cases h
 |_=>simp only[zO]at h⊢;exact VZ a b h
theorem V0{Z:Nat}(b:Option Blk):∀{xs ys:zb} {Y Y1:Hp},Y Z=none->zH Y xs=some (ys,Y1)->zH (qf Y Z b) xs=some (ys,qf Y1 Z b)/\Y1 Z=none
 |[],ys,Y,Y1,a,h=>by
  simp only[zH]at h;injection h with h;injection h with c d;subst c;subst d
  exact⟨rfl,a⟩
 |x::l,ys,Y,Y1,a,h=>by
  simp only[zH]at h;split at h
  ·rename_i y Y2 e;split at h
   ·rename_i r f g;injection h with h;injection h with c d;subst c;subst d
    obtain⟨i,j⟩:=o5 a b e;obtain⟨k,m⟩:=V0 b j g;exact⟨by simp only[zH,i,k],m⟩
   ·cases h
  ·cases h
theorem zt(a:List Nat)(F:zb->Option O):QQ (zn false a F):=by
 intro args Y Z r l m h;unfold zn at h;split at h
 ·rename_i c Y1 d;split at h
  ·rename_i r0 e;split at h
   ·rename_i f;injection h with h
    injection h with g h;injection h with i j;subst g;refine⟨⟨i.symm,j.symm⟩,fun b k=>?_⟩;unfold zn;simp only[(V0 b k d).1,e];rw[zg f]
   ·simp at h
  ·cases h
 ·cases h
structure bt (C:Ctx) (pf:FuncId->Bool) (f:FuncId) (fn:Func) (code:Code):Prop where
 func:C.P.funcs[f]?=some fn
 name:(fn.name== "runtime.NumGoroutine")=false
 body:fn.body=some code
 ok:vJ pf C.dyn C.M6 C.bk fn.ntmps code=true
structure jH (dr:Prop) (C:Ctx) (pf:FuncId->Bool):Prop where
 spec:∀g spec,C.Γ g=some spec->wO dr C.P g spec
 quiet:∀g spec,pf g=true->C.Γ g=some spec->QQ spec
 mixed:C.P.follows .mixedOrders=true
 box:∀g spec,C.bk g=true->C.Γ g=some spec->Wb spec:=by intro _ _ h;cases h
 iter:∀g it,C.it g=some it->Bs dr C.P g it:=by intro _ _ h;cases h
abbrev Good:=jH True
section
variable{C:Ctx}{pf:FuncId->Bool}{f:FuncId}{fn:Func}{code:Code}
theorem kN.outer{P:Program}{Y:Hp}{Z:Nat}{S:Nat->Prop}{G:Nat->GI}{w w':World}(h:Inv P w S G Y Z)(k:Fr dr w (fun _=>False) w') :
  kN dr P Y Z S G w Y Z (fun b=>S b\/(w.heap.size<=b/\b<w'.heap.size)) G w':=by
 have c:∀b,b<w.heap.size->w'.heap[b]?=w.heap[b]?:=fun b a=>k.block b a fun h=>h
 have d:∀b,S b->(S b\/(w.heap.size<=b/\b<w'.heap.size))/\w'.heap[b]?=w.heap[b]?:=fun b a=>⟨.inl a,c b (h.st b a)⟩
 refine⟨⟨fun b a=>?_,h.top,fun id b a=>(h.live id b a).mono d (zk _) (fun _ _=>rfl) (c _ (h.live id b a).lt),fun id b a hs=>?_,h.inj,h.eC.mono d⟩,zk _,fun _ _=>rfl,fun _ a=>.inl a,fun b a=>?_,fun id b a=>.inl ⟨id,b,a,rfl⟩,⟨k.os,k.tape,k.output,k.size,k.drawn,fun b a _=>c b a⟩⟩
 ·rcases a with a|a
  ·exact yi (h.st b a) k.size
  ·exact a.2
 ·rcases hs with hs|hs
  ·exact h.apart id b a hs
  ·have:=(h.live id b a).lt;omega
 ·rcases a with a|a
  ·exact .inl a
  ·exact .inr (.inr a.1)
theorem X4{P:Program}{w:World}{S:Nat->Prop}(G:Nat->GI)(a:∀b,S b->b<w.heap.size)(c:Ij P w S):Inv P w S G (fun _=>none) 0:=
 ⟨a,fun _ _ h=>(by cases h),fun _ _ h=>(by cases h),fun _ _ h=>(by cases h),fun _ _ _ _ h=>(by cases h),c⟩
theorem vR{G:Nat->GI}{b:Nat}(h:kn (fun _=>none) G b):False:=by obtain⟨_,_,h,_⟩:=h;cases h
theorem Zip.closed{w:World}{S:Nat->Prop}{G:Nat->GI}{Z:Nat}{xs:zb}{us:List Value}(h:Zip (wT w S) xs us):Zip (qw w S G Z) xs us:=h.imp fun _ _ h=>.c h
theorem cK{w w':World}{S S':Nat->Prop}{r:O}{v:Value}(h:wT w S r v)(a:r.flat=true):wT w' S' r v:=by
 cases h with
 |v h=>exact .v h
 |wL b e=>
  refine .wL b fun j c u d f=>?_
  simp only[O.flat,qB]at a;have:=a c (zT d);have g:=e j c u d f;cases c<;>simp[O.isV]at this;obtain⟨rfl,b⟩:=g.yn;exact .v b
 |_=>simp[O.flat]at a
theorem Z1(c:jH dr C pf)(i:bt C pf f fn code){args:zb}{x:O}{Y1:Hp}{a:Nat}(h:jr C fn args (fun _=>none) 0=some (x,Y1,a))(l:args.length<=fn.ntmps)
  {w:World} {S:Nat->Prop} {vs:List Value} (m:∀b,S b->b<w.heap.size) (j:Ij C.P w S) (n:Zip (wT w S) args vs) :
  Calls C.P f vs.toArray w fun e w'=>∃v S' G',e=.returned v/\Fr dr w (fun _=>False) w'/\Inv C.P w' S' G' Y1 a/\qw w' S' G' a x v/\(∀b,S b->S' b)/\(∀b,S' b->S b\/w.heap.size<=b)/\(∀id blk,Y1 id=some blk->w.heap.size<=(G' id).g):=by
 refine(mb c.spec c.quiet c.box c.iter c.mixed i.func i.body i.ok h (X4 (fun _=>⟨0,0,0⟩) m j) n.closed l).mono fun e w' o=>?_
 obtain⟨v,S',G',p,k,q⟩:=o;refine⟨v,S',G',p,⟨k.fr.os,k.fr.tape,k.fr.output,k.fr.size,k.fr.drawn,fun b d _=>k.fr.block b d vR⟩,k.inv,q,k.Ji,fun b d=>?_,fun id blk d=>?_⟩
 ·rcases k.from_ b d with h|h|h
  ·exact .inl h
  ·exact(vR h).elim
  ·exact .inr h
 ·rcases k.own id blk d with h|h
  ·exact(vR h).elim
  ·exact h
theorem rz{w:World}{S:Nat->Prop}{x:O}{u:Value}(h:wT w S x u)(s:Nat):wT w S (NN s x) u:=by
 unfold NN;split
 ·cases h;exact .sl (es:=[]) (fun _ _=>undef) (by simp) (by simp) (by simp[maxLen]) (by simp) (by simp) (by simp)
 ·exact h
theorem Ql{w:World}{S:Nat->Prop}:∀{a:List Nat} {xs:zb} {us:List Value},Zip (wT w S) xs us->Zip (wT w S) (yR a xs) us
 |[],xs,us,h=>by unfold yR;exact h
 |s::a,[],us,h=>by unfold yR;exact h
 |s::a,x::xs,us,h=>by obtain⟨u,b,rfl,c,d⟩:=h.jX;simp only[yR];exact .cons (rz c s) (Ql d)
theorem tD{w:World}{S:Nat->Prop}{x y:O}{u:Value}(h:wT w S x u)(a:tC x y):wT w S y u:=by
 rcases a with rfl|⟨rfl,s,rfl⟩
 ·exact h
 ·exact rz h s
theorem tE{w:World}{S:Nat->Prop}{x y:O}{u:Value}(h:wT w S x u)(a:aX x y):wT w S y u:=by
 unfold aX at a;split at a
 ·cases h with
  |wL g d=>
   rename_i xs ys us;refine .wL (by omega) fun j e v c f=>?_
   have b:j<xs.length:=by rw[a.1];exact(zj.1 c).1
   exact tD (d j xs[j] v (zo b) f) (a.2 j xs[j] e (zo b) c)
 ·exact tD h a
theorem Bt(hg:jH dr C pf)(q:bt C pf f fn code)(j:Bool)(ns:List Nat)(F:zb->Option O)(hF:∀args r,F args=some r->args.length<=fn.ntmps/\∃r0,zG C fn args=some r0/\aX r0 r):wO dr C.P f (zn j ns F):=by
 refine⟨⟨fn,q.func,q.name,by rw[q.body];rfl⟩,?_⟩;intro args Y Z r Y' Z' h w S G vs T hz;unfold zn at h;split at h
 ·rename_i aZ Y1 t;split at h
  ·rename_i r0 u;obtain⟨hn,rr,a,y⟩:=hF _ r0 u;unfold zG at a;split at a
   ·rename_i x hpe nxe z;obtain⟨⟨r1,U⟩,A,k⟩:=zU a;simp only at k;subst k;obtain⟨S1,s,B,D⟩:=js (dr:=dr) T t hz;refine(Z1 hg q z hn s.inv.st s.inv.eC (Ql B)).mono fun e w' hh=>?_
    obtain⟨v,S',G',W,X,l,hx,hs0,E,_⟩:=hh;obtain⟨S2,k2,H⟩:=Za (dr:=dr) l A hx;have I:=tE H y;have m:∀b,S2 b->S1 b\/(w.heap.size<=b/\b<w'.heap.size):=by
     intro b i;have n:=k2.inv.st b i;rcases k2.from_ b i with h1|⟨id,blk,h1,rfl⟩|h1
     ·rcases E b h1 with J|J
      ·exact .inl J
      ·exact .inr ⟨J,n⟩
     ·rcases zbl (G' id).g w.heap.size with h3|h3
      ·rename_i o;have:=o id blk h1;omega
      ·exact .inr ⟨h3,n⟩
     ·exact absurd h1 (by omega)
    split at h
    ·rename_i d;injection h with h
     injection h with K h;injection h with L N;subst K;subst L;subst N;refine⟨v,_,G,W,kN.outer T X,.c ?_⟩;rcases d with Q|R
     ·exact cK I Q
     ·have p:=D R;exact I.mono fun b i=>⟨by rw[<-p];exact m b i,rfl⟩
    ·split at h
     ·injection h with h;injection h with K h;injection h with L N;subst K;subst L;subst N;exact⟨v,_,G,W,s.trans (kN.outer s.inv X),.c (I.mono fun b i=>⟨m b i,rfl⟩)⟩
     ·cases h
   ·cases a
  ·cases h
 ·cases h
end
variable{dr:Prop}
section
variable{P:Program}{Y1 Y2 hpe:Hp}{Z nxe:Nat}{S1 S':Nat->Prop}{G G':Nat->GI}{w w':World}{D:Nat->Prop}
theorem eN(f:Inv P w S1 G Y1 Z)(a:∀id b,Y2 id=some b->Y1 id=some b/\¬D (G id).g)(m:∀b,D b->kn Y1 G b)(d:Fr dr w D w')(e:Inv P w' S' G' hpe nxe)(i:∀b,S1 b->S' b)(j:∀b,S' b->S1 b\/D b\/w.heap.size<=b) :
  kN dr P Y1 Z S1 G w Y2 Z S' G w':=by
 have n:∀b,S1 b->¬D b:=fun b c hd=>by obtain⟨id,blk,q,rfl⟩:=m b hd;exact f.apart id blk q c
 have r:∀b,S1 b->S' b/\w'.heap[b]?=w.heap[b]?:=fun b c=>⟨i b c,d.block b (f.st b c) (n b c)⟩
 refine⟨⟨e.st,fun id b c=>f.top id b (a id b c).1,fun id b c=>?_,fun id b c hs=>?_,fun id id' b p c o s=>f.inj id id' b p (a id b c).1 (a id' p o).1 s,e.eC⟩,zk _,fun _ _=>rfl,i,fun b c=>?_,fun id b c=>.inl ⟨id,b,(a id b c).1,rfl⟩,⟨d.os,d.tape,d.output,d.size,d.drawn,fun k t u=>d.block k t fun hd=>u (m k hd)⟩⟩
 ·have l:=f.live id b (a id b c).1;exact l.mono r (zk _) (fun _ _=>rfl) (d.block _ l.lt (a id b c).2)
 ·have l:=f.live id b (a id b c).1;rcases j _ hs with h|h|h
  ·exact f.apart id b (a id b c).1 h
  ·exact(a id b c).2 h
  ·have:=l.lt;omega
 ·rcases j b c with h|h|h
  ·exact .inl h
  ·exact .inr (.inl (m b h))
  ·exact .inr (.inr h)
theorem Bu(A:Inv P w S1 G Y1 Z)(f:∀id b,Y2 id=some b->Y1 id=some b/\¬D (G id).g)(L:∀b,D b->kn Y1 G b)(Q:Fr dr w D w')(l:Inv P w' S' G' hpe nxe)(E:∀b,S1 b->S' b)(F:∀b,S' b->S1 b\/D b\/w.heap.size<=b)
  {id:Nat} {b:Blk} (B:hpe id=some b) (t:b.arr=true) (r:D (G' id).g\/w.heap.size<=(G' id).g) :
  kN dr P Y1 Z S1 G w (qf Y2 Z (some b)) (Z+1) S' (qf G Z (G' id)) w':=by
 have v:=eN A f L Q l E F;have x:∀id' y,Y2 id'=some y->(G id').g≠(G' id).g:=fun id' y N p=>by
  rcases r with h|h
  ·exact(f id' y N).2 (p ▸ h)
  ·have:=(A.live id' y (f id' y N).1).lt;omega
 have q:∀k,k<Z->qf G Z (G' id) k=G k:=fun k a=>zc _ _ _ _ (by omega)
 have m:∀k,k≠Z->qf Y2 Z (some b) k=Y2 k:=fun k a=>zc _ _ _ _ a
 have H:∀b,S' b->S' b/\w'.heap[b]?=w'.heap[b]?:=fun b B=>⟨B,rfl⟩
 have e:∀k c,Y2 k=some c->k<Z:=fun k c a=>A.top k c (f k c a).1
 refine⟨⟨l.st,fun k c a=>?_,fun k c a=>?_,fun k c a=>?_,fun k k' c z a n p=>?_,l.eC⟩,by omega,q,v.Ji,v.from_,fun k' c a=>?_,v.fr⟩
 ·by_cases d:k=Z
  ·omega
  ·rw[m k d]at a;have:=e k c a;omega
 ·by_cases d:k=Z
  ·subst d;simp only[wR]at a⊢;injection a with a
   subst a;have s:=l.live id _ B;refine⟨s.bs,fun C=>⟨s.size C,s.len C,s.fit C,?_⟩,s.ent⟩;obtain⟨I,R,S,T⟩:=s.row C;refine⟨I,R,S,fun i j c U J W=>?_⟩;obtain⟨u,X,K⟩:=T i j c U J W;exact⟨u,X,K.1,.c (K.1 t),K.2.2⟩
  ·rw[m k d]at a;rw[q k (e k c a)];exact(v.inv.live k c a).mono H (by omega) q rfl
 ·by_cases d:k=Z
  ·subst d;simp only[wR];exact l.apart id b B
  ·rw[m k d]at a;rw[q k (e k c a)];exact v.inv.apart k c a
 ·by_cases d:k=Z<;>by_cases o:k'=Z
  ·omega
  ·subst d;rw[m k' o]at n;rw[q k' (e k' z n)]at p;simp only[wR]at p;exact(x k' z n p.symm).elim
  ·subst o;rw[m k d]at a;rw[q k (e k c a)]at p;simp only[wR]at p;exact(x k c a p).elim
  ·rw[m k d]at a;rw[m k' o]at n;rw[q k (e k c a),q k' (e k' z n)]at p;exact A.inj k k' c z (f k c a).1 (f k' z n).1 p
 ·by_cases d:k'=Z
  ·subst d;simp only[wR];rcases r with h|h
   ·exact .inl (L _ h)
   ·exact .inr h
  ·rw[m k' d]at a;rw[q k' (e k' c a)];exact .inl ⟨k',c,(f k' c a).1,rfl⟩
theorem Bv{id n:Nat}{v:Value}(h:qw w' S' G' nxe (.own id 0 n) v):qw w' S' (qf G Z (G' id)) (Z+1) (.own Z 0 n) v:=by have a:=h.ZW;obtain⟨cap,e,b,c,d,rfl⟩:=h.Zk;have:=qw.own (w:=w') (S:=S') (G:=qf G Z (G' id)) (Z:=Z+1) (id:=Z) (off:=0) (n:=n) (cap:=cap) (by omega) b c (by simpa using d) (by simpa using a);simpa using this
end
section
variable{C:Ctx}{pf:FuncId->Bool}{f:FuncId}{fn:Func}{code:Code}
def bD(r:Option Blk)(x:O)(Y:Hp)(_:Nat):Prop:=match r with
 |none=>x=.nil
 |some b=>∃id,x=.own id 0 b.es.length/\Y id=some b/\b.arr=true
theorem Yb(K:jH dr C pf)(n:bt C pf f fn code)(N:List Nat)(F:zb->Option (Option Blk))(L:∀args r,F args=some r->args.length<=fn.ntmps/\∃x Y Z,jr C fn args (fun _=>none) 0=some (x,Y,Z)/\bD r x Y Z) :
  wO dr C.P f (jL N F):=by
 refine⟨⟨fn,n.func,n.name,by rw[n.body];rfl⟩,?_⟩;intro args Y Z r T U h w S G vs Q R;unfold jL at h;split at h
 ·rename_i W Y1 s;obtain⟨S1,g,o,_⟩:=js (dr:=dr) Q s R;have i:∀id b,Y1 id=some b->Y1 id=some b/\¬False:=fun id b h=>⟨h,fun h=>h⟩
  split at h
  ·rename_i j;obtain⟨t,x,hpe,nxe,k,d⟩:=L _ none j;injection h with h
   injection h with u h;injection h with y z;subst u;subst y;subst z;simp only[bD]at d;subst d;refine(Z1 K n k t g.inv.st g.inv.eC (Ql o)).mono fun e w' A=>?_
   obtain⟨v,S',G',B,E,a,H,l,m,_⟩:=A;have I:=eN (dr:=dr) (D:=fun _=>False) (Y2:=Y1) g.inv i (fun _ h=>h.elim) E a l (fun b J=>(m b J).imp (fun h=>h) .inr);have:=H.ZV;subst this;exact⟨_,_,_,B,g.trans I,.c .nil⟩
  ·rename_i b j;obtain⟨t,x,hpe,nxe,k,d⟩:=L _ (some b) j;injection h with h
   injection h with u h;injection h with y z;subst u;subst y;subst z;obtain⟨id,rfl,hid,p⟩:=d;refine(Z1 K n k t g.inv.st g.inv.eC (Ql o)).mono fun e w' A=>?_
   obtain⟨v,S',G',B,E,a,H,l,m,q⟩:=A;have I:=Bu (dr:=dr) (D:=fun _=>False) (Y2:=Y1) g.inv i (fun _ h=>h.elim) E a l (fun b J=>(m b J).imp (fun h=>h) .inr) hid p (.inr (q id b hid));exact⟨_,_,_,B,g.trans I,Bv H⟩
  ·cases h
 ·cases h
end
end Go.AM
namespace Go.AM
open Go.RowKit Go.WideShapes Go.ChangeShapes
variable{dr:Prop}
def Bw(P:Program):Nat->List Field->Option Nat
 |o,[]=>some o
 |o,f::a=>if f.offset=o then Bw P (o+P.cellsOf f.type) a else none
def tF(P:Program)(T:List TypeId):Bool:=T.all fun t=>match P.underlying t with
 |some .bool|some (.int _)|some .string=>P.cellsOf t==1
 |some (.slice e)=>P.cellsOf t==1&&T.contains e&&decide (0<P.cellsOf e)
 |some (.struct a)=>Bw P 0 a.toList==some (P.cellsOf t)&&a.toList.all fun f=>T.contains f.type
 |_=>false
structure Bounds (H:Type) (Bl:Nat->Prop) (Bd:DataW H->Prop):Prop where
 slice:∀es sp,Bd (.slice es sp)->Bl es.length/\∀d∈es,Bd d
 nil:Bl 0
 agg:∀l,Bd (.agg l)->∀d∈l,Bd d
 str:∀b,Bd (.lit (.string b))->Bl b.length
section
variable{H:Type}{V:TypeId×Value->H}{P:Program}{w:World}{sp:Nat->Bool}{held:Bool}{Bl:Nat->Prop}{Bd:DataW H->Prop}
theorem o6{α:Type}{l:List α}{o n j:Nat}(a:j<n):((l.drop o).take n)[j]?=l[o+j]?:=by rw[zX,zg a,qI]
theorem rA{R:O->Value->Prop}{Q:Field->zb->Prop}:∀(e:List Field) (o n:Nat) (cs:List Value),Bw P o e=some n->cs.length=n ->
  (∀f∈e,∃a,Zip R a ((cs.drop f.offset).take (P.cellsOf f.type))/\Q f a) ->
  ∃a:zb,a.length+o=n/\(∀(j:Nat) (g:O) (u:Value),a[j]?=some g->cs[o+j]?=some u->R g u)/\∀f∈e,o<=f.offset/\Q f ((a.drop (f.offset-o)).take (P.cellsOf f.type))
 |[],o,n,cs,c,p,_=>by
  simp only[Bw]at c;injection c with c
  subst c;exact⟨[],by simp,by simp,by simp⟩
 |f::e,o,n,cs,c,p,h=>by
  simp only[Bw]at c;split at c
  ·rename_i s;obtain⟨d,q,t⟩:=h f (by simp);obtain⟨i,y,v,w⟩:=rA e (o+P.cellsOf f.type) n cs c p (fun f' b=>h f' (by simp[b]));have l:d.length=P.cellsOf f.type:=by have:=q.1;simp only[yu,List.length_drop]at this;omega
   refine⟨d++i,by simp;omega,fun j g u k r=>?_,fun f' b=>?_⟩
   ·by_cases m:j<d.length
    ·rw[qC m]at k;refine q.2 j g u k ?_;rw[o6 (by omega),s];exact r
    ·rw[qo (by omega)]at k;refine v (j-d.length) g u k ?_;rw[show o+P.cellsOf f.type+(j-d.length)=o+j from by omega];exact r
   ·rcases zv.1 b with rfl|b
    ·refine⟨by omega,?_⟩;have:((d++i).drop (f'.offset-o)).take (P.cellsOf f'.type)=d:=by rw[show f'.offset-o=0 from by omega,ZK,<-l,List.take_left]
     rw[this];exact t
    ·obtain⟨z,x⟩:=w f' b;refine⟨by omega,?_⟩;have:(d++i).drop (f'.offset-o)=i.drop (f'.offset-(o+P.cellsOf f.type)):=by rw[List.drop_append,List.drop_eq_nil_of_le (by omega),xE];congr 1;omega
     rw[this];exact x
  ·cases c
end
section
variable{C:Ctx}{pf:FuncId->Bool}{f:FuncId}{fn:Func}{code:Code}
theorem IY(o:jH dr C pf)(g:bt C pf f fn code){args:zb}(h:zG C fn args=some (.v (.bool true)))(p:args.length<=fn.ntmps){w:World}{vs:List Value}(i:w.ShapedOpen C.P)(a:∀t∈JY,A6 w (fun b=>b<w.heap.size) t)(q:Zip (wT w (fun b=>b<w.heap.size)) args vs) :
  Calls C.P f vs.toArray w fun e m=>e=.returned (.bool true)/\Below w.heap.size w m:=by
 unfold zG at h;split at h
 ·rename_i x s u j;obtain⟨⟨r,Y2⟩,l,n⟩:=zU h;simp only at n;subst n;refine(Z1 o g j p (fun _ y=>y) (Ij.Sy i a) q).mono fun e m z=>?_
  obtain⟨v,E,F,A,c,d,B,_⟩:=z;obtain⟨G,_,D⟩:=Za (dr:=dr) d l B;obtain⟨rfl,_⟩:=D.yn;exact⟨A,c.os,c.tape,c.output,c.size,fun k g=>c.block k g fun h=>h⟩
 ·cases h
end
end Go.AM
namespace Go.AM
variable{dr:Prop}
attribute [congr] Bj Bm
attribute [simp] ND NF Tw IV iW NG ry Tx NJ NI EM EN Bn tz IU EO o0 EP eM
 o1 ER Bp Bq NK
@[simp]theorem mc(K:Exit->St->Prop)(st:St):Wr K st=K .normal st:=rfl
@[simp]theorem TA(id i:Nat)(K:Exit->St->Prop)(st:St)(h:¬i=id):WL id K (.exit i) st=K (.exit i) st:=by simp[WL,h]
@[simp]theorem w5{α:Type}(f:Nat->α)(k i:Nat)(x:α)(h:¬i=k):qf f k x i=f i:=by simp[qf,h]
@[simp]theorem zfB(M:Nat->O)(d:Nat)(x:O):put M (some d) x=qf M d x:=rfl
@[simp]theorem zfC(M:Nat->O)(x:O):put M none x=M:=rfl
@[simp]theorem zeu(args:zb)(t:Nat):km args t=(args[t]?).getD (.wL []):=rfl
@[simp]theorem zhy(M:Nat->O)(t:Nat):get M (.tmp t)=some (M t):=rfl
@[simp]theorem NP(M:Nat->O)(f:Nat):get M (.func f)=some (.fn (.func f) [] []):=rfl
@[simp]theorem zhz(M:Nat->O)(k:IntKind)(n:Int):get M (.const (.int k n))=some (.v (.int k n)):=rfl
@[simp]theorem zfD(M:Nat->O)(b:Bool):get M (.const (.bool b))=some (.v (.bool b)):=rfl
@[simp]theorem zhA(M:Nat->O)(s:ByteArray):get M (.const (.string s))=some (.v (.string s)):=rfl
@[simp]theorem zhB(M:Nat->O):get M (.const (.slice none 0 0))=some .nil:=rfl
@[simp]theorem zbA(M:Nat->O):get M (.const .nilFunc)=some (.v .nilFunc):=rfl
@[simp]theorem zhC(M:Nat->O)(cs:Array Value):get M (.const (.agg cs))=(vk cs.toList).map .agg:=rfl
@[simp]theorem zcs(C:Ctx)(a:Array Oper)(d:Option Tmp)(op:Op)(t:TypeId)(p:String)(b:Array Edge)(st:St):y9 C a ⟨d,op,t,p,b,none⟩ st =
  (qb C (get st.M) st.Y st.Z op).map fun r=>⟨put st.M d r.1,r.2.1,r.2.2⟩:=NL C a d op t p b st
def Zr(C:Ctx)(d:Option Tmp)(op:Op)(st:St)(y:Option Bool)(b:Bool):Option St:=
 if y=some b then(qb C (get st.M) st.Y st.Z op).map fun r=>⟨put st.M d r.1,r.2.1,r.2.2⟩else some ⟨put st.M d (.wL []),st.Y,st.Z⟩
theorem tG{C:Ctx}{d:Option Tmp}{op:Op}{st:St}{y a:Option Bool}{b:Bool}(h:y=a):Zr C d op st y b=Zr C d op st a b:=by rw[h]
@[simp]theorem zct(C:Ctx)(a:Array Oper)(d:Option Tmp)(op:Op)(t:TypeId)(p:String)(c:Array Edge)(j:Nat)(b:Bool)(st:St):y9 C a ⟨d,op,t,p,c,some (j,b)⟩ st =
  Zr C d op st (QV a st.M j) b:=by
 unfold y9 Zr Region.wanted;simp only[yI];split
 ·cases qb C (get st.M) st.Y st.Z op<;>rfl
 ·rfl
@[simp]theorem zev(C:Ctx)(d:Option Tmp)(op:Op)(st:St)(b:Bool):Zr C d op st (some b) b=(qb C (get st.M) st.Y st.Z op).map fun r=>⟨put st.M d r.1,r.2.1,r.2.2⟩:=by simp[Zr]
@[simp]theorem zfE(C:Ctx)(d:Option Tmp)(op:Op)(st:St):Zr C d op st (some true) false=some ⟨put st.M d (.wL []),st.Y,st.Z⟩:=by simp[Zr]
@[simp]theorem zfF(C:Ctx)(d:Option Tmp)(op:Op)(st:St):Zr C d op st (some false) true=some ⟨put st.M d (.wL []),st.Y,st.Z⟩:=by simp[Zr]
@[simp]theorem zcu(C:Ctx)(d:Option Tmp)(op:Op)(st:St)(b:Bool):Zr C d op st none b=some ⟨put st.M d (.wL []),st.Y,st.Z⟩:=by simp[Zr]
attribute [congr] tG
def V1:O->Option Bool
 | .v (.bool b)=>some b
 |_=>none
@[simp]theorem zbB(b:Bool):V1 (.v (.bool b))=some b:=rfl
@[simp]theorem zcv(l:zb):V1 (.wL l)=none:=rfl
def ET(M:Nat->O):Option Nat->Option Bool
 |some d=>V1 (M d)
 |none=>none
@[simp]theorem zbC(M:Nat->O)(d:Nat):ET M (some d)=V1 (M d):=rfl
@[simp]theorem zew(a:Array Oper)(M:Nat->O)(j:Nat):QV a M j=ET M ((a[j]?).bind (·.dst)):=by
 unfold QV ET V1;cases (a[j]?).bind (·.dst)with
 |none=>rfl
 |some d=>rfl
section
variable(C:Ctx)(ρ:Operand->Option O)(Y:Hp)(Z:Nat)
@[simp]theorem TC(x:Operand):qb C ρ Y Z (.move x)=(ρ x).map fun y=>(y,Y,Z):=rfl
@[simp]theorem IZ(x:Operand):qb C ρ Y Z (.assign x)=(ρ x).map fun y=>(y,Y,Z):=rfl
def YC(c a b:Option O):Option O:=match c with
 |some (.v (.bool true))=>a
 |some (.v (.bool false))=>b
 |_=>none
@[simp]theorem zcw(a b:Option O):YC (some (.v (.bool true))) a b=a:=rfl
@[simp]theorem zbD(a b:Option O):YC (some (.v (.bool false))) a b=b:=rfl
@[simp]theorem TD(c a b:Operand):qb C ρ Y Z (.pick c a b)=(YC (ρ c) (ρ a) (ρ b)).map fun y=>(y,Y,Z):=by
 unfold YC;simp only[qb];generalize ρ c=o;cases o with
 |none=>rfl
 |some p=>cases p<;>(try rfl);rename_i x;cases x<;>(try rfl);rename_i t;cases t<;>rfl
@[simp]theorem zcx(op:BinOp)(t a:TypeId)(x y:Operand):qb C ρ Y Z (.binOp op t x y a)=(do let p <-ρ x;let q <-ρ y;let r <-VP (isK y) C.P op t p q;some (r,Y,Z)):=by simp only[qb];cases ρ x<;>cases ρ y<;>(try rfl);simp;cases VP (isK y) C.P op t _ _<;>rfl
@[simp]theorem zfG(op:UnOp)(t:TypeId)(x:Operand):qb C ρ Y Z (.unOp op t x)=(do let p <-ρ x;let r <-Tb op p;some (r,Y,Z)):=by simp only[qb];cases ρ x<;>(try rfl);simp;cases Tb op _<;>rfl
@[simp]theorem TE(s d:TypeId)(x:Operand):qb C ρ Y Z (.convert s d x)=(do let p <-ρ x;let r <-aP C.P s d p;some (r,Y,Z)):=by simp only[qb];cases ρ x<;>(try rfl);simp;cases aP C.P s d _<;>rfl
@[simp]theorem TF(t:TypeId)(x:Operand):qb C ρ Y Z (.load t x)=(do let p <-ρ x;let r <-xn C.P Y t p;some (r,Y,Z)):=by simp only[qb];cases ρ x<;>(try rfl);simp;cases xn C.P Y t _<;>rfl
@[simp]theorem zfH(t:TypeId)(a x:Operand):qb C ρ Y Z (.store t a x)=(do let p <-ρ a;let q <-ρ x;let h <-ZY C.P Y t p q;some (.wL [],h,Z)):=by simp only[qb];cases ρ a<;>cases ρ x<;>(try rfl);simp;cases ZY C.P Y t _ _<;>rfl
@[simp]theorem tH(t:TypeId)(x:Operand)(f:Nat):qb C ρ Y Z (.fieldAddr t x f)=(do let p <-ρ x;let r <-jh C.P t f p;some (r,Y,Z)):=by simp only[qb];cases ρ x<;>(try rfl);simp;cases jh C.P t f _<;>rfl
@[simp]theorem NQ(t:TypeId)(x:Operand)(f:Nat):qb C ρ Y Z (.field t x f)=(do let p <-ρ x;let r <-xg C.P t f p;some (r,Y,Z)):=by simp only[qb];cases ρ x<;>(try rfl);simp;cases xg C.P t f _<;>rfl
@[simp]theorem tI(t:TypeId)(x i:Operand):qb C ρ Y Z (.indexAddr t x i)=(do let p <-ρ x;let q <-ρ i;let r <-qS C.P Y t p q;some (r,Y,Z)):=by simp only[qb];cases ρ x<;>cases ρ i<;>(try rfl);simp;cases qS C.P Y t _ _<;>rfl
@[simp]theorem NR(t:TypeId)(x i:Operand):qb C ρ Y Z (.index t x i)=(do let p <-ρ x;let q <-ρ i;let r <-QU C.P t p q;some (r,Y,Z)):=by simp only[qb];cases ρ x<;>cases ρ i<;>(try rfl);simp;cases QU C.P t _ _<;>rfl
@[simp]theorem NS(t:TypeId)(x:Operand)(a b:Option Operand):qb C ρ Y Z (.slice t x a b none)=(do let p <-ρ x;let r <-yZ C.P Y t p (a.map ρ) (b.map ρ);some (r,Y,Z)):=by simp only[qb];cases ρ x<;>(try rfl);simp;cases yZ C.P Y t _ _ _<;>rfl
@[simp]theorem TG(t:TypeId)(l c:Operand):qb C ρ Y Z (.makeSlice t l c)=(do let p <-ρ l;let q <-ρ c;YA C.P Y Z t p q):=by simp only[qb];cases ρ l<;>cases ρ c<;>rfl
def J2(i:Nat):O->Option O
 | .wL vs=>vs[i]?
 |_=>none
@[simp]theorem TH(i:Nat)(vs:zb):J2 i (.wL vs)=vs[i]?:=rfl
@[simp]theorem EU(x:Operand)(i:Nat):qb C ρ Y Z (.extract x i)=(do let p <-ρ x;let r <-J2 i p;some (r,Y,Z)):=by
 simp only[qb];cases ρ x with
 |none=>rfl
 |some p=>cases p<;>(try rfl);simp[J2];rename_i vs;cases vs[i]?<;>rfl
@[simp]theorem zfI(t:TypeId):qb C ρ Y Z (.alloc t)=(do let n <-qY C.P t;let z <-jK C.P t;if 0<n/\z.length=n then some (.ref Z 0 0,qf Y Z (some ⟨t,n,false,[z]⟩),Z+1)else none):=by simp only[qb];cases qY C.P t<;>cases jK C.P t<;>rfl
@[simp]theorem zih(t:TypeId)(x:Operand):qb C ρ Y Z (.box t x)=(do let n <-qY C.P t;let y <-ρ x;if 0<n/\y.cells.length=n/\y.cells.all O.ye=true then some (.ref Z 0 0,qf Y Z (some ⟨t,n,false,[y.cells]⟩),Z+1)else none):=by simp only[qb];cases qY C.P t<;>cases ρ x<;>rfl
@[simp]theorem zfJ(t:TypeId)(a:Array (Nat×Operand)):qb C ρ Y Z (.build t a)=(do let q <-vn ρ a.toList;let r <-zI C.P t q;some (r,Y,Z)):=by simp only[qb];cases vn ρ a.toList<;>(try rfl);simp;cases zI C.P t _<;>rfl
@[simp]theorem Tc(t:TypeId)(n:Nat)(a:Array (Nat×Operand)):qb C ρ Y Z (.buildSlice t n a)=(do let q <-vn ρ a.toList;zs C.P Y Z t n q):=by simp only[qb];cases vn ρ a.toList<;>rfl
@[simp]theorem zbE(f:Fn)(a b:Array Operand):qb C ρ Y Z (.makeFunc f a b)=(do let p <-yB (a.toList.map ρ);let q <-yB (b.toList.map ρ);some (.fn f p q,Y,Z)):=by simp only[qb];cases yB (a.toList.map ρ)<;>cases yB (b.toList.map ρ)<;>rfl
@[simp]theorem TI(f:Operand)(args:Array Operand)(ts:Array TypeId):qb C ρ Y Z (.call {callee:=.value f,args:=args,argTypes:=ts})=(do let xs <-yB (args.toList.map ρ);jO C Y Z (ρ f) xs):=by simp only[qb,xH];cases yB (args.toList.map ρ)<;>rfl
@[simp]theorem EV(b:Builtin)(args:Array Operand)(ts:Array TypeId):qb C ρ Y Z (.call {callee:=.builtin b,args:=args,argTypes:=ts})=(do let xs <-yB (args.toList.map ρ);yG C.P Y Z ts b xs):=by simp only[qb,xH];cases yB (args.toList.map ρ)<;>rfl
end
@[simp]theorem zbF{α:Type}:yB ([]:List (Option α))=some []:=rfl
@[simp]theorem TK{α:Type}(x:α)(l:List (Option α)):yB (some x::l)=(yB l).map (x::·):=rfl
@[simp]theorem zex(ρ:Operand->Option O):vn ρ []=some []:=rfl
@[simp]theorem zcy(ρ:Operand->Option O)(i:Nat)(x:Operand)(l:List (Nat×Operand)):vn ρ ((i,x)::l)=(do let p <-ρ x;let r <-vn ρ l;some ((i,p)::r)):=by simp only[vn];cases ρ x<;>cases vn ρ l<;>rfl
theorem EW(C:Ctx)(Y:Hp)(Z g:Nat)(first a xs:zb)(b:AM.Spec)(h:C.Γ g=some b):jO C Y Z (some (.fn (.func g) first a)) xs=b (first++xs++a) Y Z:=by simp[jO,h]
section
variable(P:Program)(Y:Hp)(Z:Nat)(t:TypeId)
@[simp]theorem zhD(op:BinOp)(k:IntKind)(a b:Int):Qi P op t (.v (.int k a)) (.v (.int k b))=ib op k a b:=by simp[Qi]
@[simp]theorem zhE(op:BinOp)(a b:ByteArray):Qi P op t (.v (.string a)) (.v (.string b))=Nd op a b:=rfl
@[simp]theorem zii(b:Bool):Tb .not (.v (.bool b))=some (.v (.bool !b)):=rfl
@[simp]theorem zij(k:IntKind)(n:Int):Tb .neg (.v (.int k n))=some (.v (.int k (k.wrap (0-n)))):=rfl
@[simp]theorem zfK(cs:zb):xn P Y t (.ptr cs)=yd P t cs:=rfl
@[simp]theorem zfL(id i j:Nat):xn P Y t (.ref id i j)=(do let b <-Y id;let c <-b.es[i]?;yd P t (c.drop j)):=by
 simp only[xn];cases Y id with
 |none=>rfl
 |some b=>simp;cases b.es[i]?<;>rfl
@[simp]theorem Td(f:Nat)(cs:zb):jh P t f (.ptr cs)=(do let q <-wC P t f;if q.2.1=0 then none else some (.ptr (cs.drop q.1))):=by simp only[jh];cases wC P t f<;>rfl
@[simp]theorem Te(f id i j:Nat):jh P t f (.ref id i j)=(do let q <-wC P t f;if q.2.1=0 then none else some (.ref id i (j+q.1))):=by simp only[jh];cases wC P t f<;>rfl
@[simp]theorem zhF(s:ByteArray):JF P t (.v (.string s))=match P.underlying t with|some .string=>some (.v (.int .i64 s.size))|_=>none:=rfl
@[simp]theorem zik(s:Nat)(es:List zb):JF P t (.sl s es)=(y2 P t).map fun _=>.v (.int .i64 es.length):=rfl
@[simp]theorem zhG:JF P t .nil=(y2 P t).map fun _=>.v (.int .i64 0):=rfl
@[simp]theorem zhH(id off n:Nat):JF P t (.own id off n)=(y2 P t).map fun _=>.v (.int .i64 n):=rfl
theorem rB(i:Int)(x:O)(d:∀cs,x≠.ptr cs)(e:∀a b c,x≠.ref a b c):x4 P t i x=none:=by
 unfold x4;split
 ·split
  ·split
   ·split
    ·exact absurd rfl (d _)
    ·exact absurd rfl (e _ _ _)
    ·rfl
   ·rfl
  ·rfl
 ·rfl
@[simp]theorem zfM(s:Nat)(es:List zb)(k:IntKind)(i:Int):qS P Y t (.sl s es) (.v (.int k i))=(do let e <-y2 P t;let n <-qY P e;if s=n/\0<n/\0<=i then(es[i.toNat]?).map .ptr else none):=by
 simp only[qS];cases y2 P t with
 |none=>exact(rB P t i _ (fun _=>by simp) (fun _ _ _=>by simp)).trans rfl
 |some e=>simp;cases qY P e<;>rfl
@[simp]theorem zey(id off n:Nat)(k:IntKind)(i:Int):qS P Y t (.own id off n) (.v (.int k i))=(do let e <-y2 P t;let m <-qY P e;let b <-Y id;if b.e=e/\0<m/\0<=i/\i.toNat<n then some (.ref id (off+i.toNat) 0)else none):=by
 simp only[qS];cases y2 P t with
 |none=>exact(rB P t i _ (fun _=>by simp) (fun _ _ _=>by simp)).trans rfl
 |some e=>simp;cases qY P e<;>(try rfl);simp;cases Y id<;>rfl
end
@[simp]theorem TL(P:Program)(Y:Hp)(Z:Nat)(ts:Array TypeId)(x:O):yG P Y Z ts .len [x]=(do let t <-ts[0]?;let y <-JF P t x;some (y,Y,Z)):=by
 simp only[yG];cases ts[0]? with
 |none=>rfl
 |some t=>simp;cases JF P t x<;>rfl
@[simp]theorem TM(P:Program)(Y:Hp)(Z:Nat)(ts:Array TypeId)(xs:zb):yG P Y Z ts .min xs=(Nf xs).map fun y=>(y,Y,Z):=rfl
@[simp]theorem TN(P:Program)(Y:Hp)(Z:Nat)(ts:Array TypeId)(xs:zb):yG P Y Z ts .max xs=(Ng xs).map fun y=>(y,Y,Z):=rfl
@[simp]theorem zcz(P:Program)(Y:Hp)(Z:Nat)(ts:Array TypeId)(s x:O):yG P Y Z ts .append [s,x]=(do let t <-ts[0]?;let u <-ts[1]?;jF P Y Z t u s x):=by simp only[yG];cases ts[0]?<;>cases ts[1]?<;>rfl
@[simp]theorem zez(P:Program)(Y:Hp)(n:Nat)(e t u:TypeId)(i o k:Nat):lI P Y n e t u (.own i o k)=if u=t then view Y n (.own i o k)else none:=rfl
@[simp]theorem zfN(P:Program)(Y:Hp)(n:Nat)(e t u:TypeId)(k:Nat)(es:List zb):lI P Y n e t u (.sl k es)=if u=t then view Y n (.sl k es)else none:=rfl
@[simp]theorem zeA(P:Program)(Y:Hp)(n:Nat)(e t u:TypeId):lI P Y n e t u .nil=if u=t then view Y n .nil else none:=rfl
@[simp]theorem zfO(P:Program)(Y:Hp)(n:Nat)(e t u:TypeId):lI P Y n e t u .em=if u=t then view Y n .em else none:=rfl
@[simp]theorem zeB(P:Program)(Y:Hp)(n:Nat)(e t u:TypeId)(b:ByteArray):lI P Y n e t u (.v (.string b))=if Tr P u=true/\GZ P e=true then some (b.data.toList.map fun c=>[.v (.int .u8 c.toNat)])else none:=rfl
@[simp]theorem zeC(P:Program)(Y:Hp)(Z:Nat)(ts:Array TypeId)(x:O):yG P Y Z ts .clear [x]=(do let t <-ts[0]?;VQ P Y Z t x):=by simp only[yG];cases ts[0]?<;>rfl
@[simp]theorem zfP(P:Program)(Y:Hp)(Z:Nat)(ts:Array TypeId)(s x:O):yG P Y Z ts .copy [s,x]=(do let t <-ts[0]?;G3 P Y Z t s x):=by simp only[yG];cases ts[0]?<;>rfl
attribute [simp] Nf XY Ng XZ ib Nd yF xI W7
@[simp]theorem zeD(cs:zb):O.cells (.agg cs)=cs:=rfl
@[simp]theorem zeE(cs:zb):O.cells (.wL cs)=[.wL cs]:=rfl
@[simp]theorem zhI(x:Value):O.cells (.v x)=[.v x]:=rfl
@[simp]theorem zeF:O.cells .nil=[.nil]:=rfl
@[simp]theorem zfQ:O.cells .em=[.em]:=rfl
@[simp]theorem zfR(s:Nat)(es:List zb):O.cells (.sl s es)=[.sl s es]:=rfl
@[simp]theorem zeG(cs:zb):O.cells (.ptr cs)=[.ptr cs]:=rfl
@[simp]theorem zeH(i o n:Nat):O.cells (.own i o n)=[.own i o n]:=rfl
@[simp]theorem zeI(i o n:Nat):O.cells (.ref i o n)=[.ref i o n]:=rfl
@[simp]theorem zfS(f:Fn)(a b:zb):O.cells (.fn f a b)=[.fn f a b]:=rfl
@[simp]theorem zfT(x:Value):O.ye (.v x)=true:=rfl
@[simp]theorem zcA:O.ye .nil=true:=rfl
@[simp]theorem zeJ:O.ye .em=true:=rfl
@[simp]theorem zeK(s:Nat)(es:List zb):O.ye (.sl s es)=true:=rfl
@[simp]theorem zcB(cs:zb):O.ye (.ptr cs)=true:=rfl
@[simp]theorem zcC(i o n:Nat):O.ye (.own i o n)=true:=rfl
@[simp]theorem zcD(i o n:Nat):O.ye (.ref i o n)=true:=rfl
@[simp]theorem zeL(f:Fn)(a b:zb):O.ye (.fn f a b)=true:=rfl
@[simp]theorem zcE(cs:zb):O.ye (.agg cs)=false:=rfl
@[simp]theorem zcF(cs:zb):O.ye (.wL cs)=false:=rfl
attribute [simp] qp zO zH qm AM.freeze O.flat O.isV O.noOwn
@[simp]theorem TS(i o n:Nat):O.kI (.own i o n)=true:=rfl
@[simp]theorem zcG(x:Value):O.kI (.v x)=false:=rfl
@[simp]theorem TT:O.kI .nil=false:=rfl
@[simp]theorem zbG:O.kI .em=false:=rfl
@[simp]theorem zbH(s:Nat)(es:List zb):O.kI (.sl s es)=false:=rfl
@[simp]theorem TU(cs:zb):O.kI (.ptr cs)=false:=rfl
@[simp]theorem TV(i o n:Nat):O.kI (.ref i o n)=false:=rfl
@[simp]theorem zbI(f:Fn)(a b:zb):O.kI (.fn f a b)=false:=rfl
@[simp]theorem qV{α:Type}(f:Nat->α)(k:Nat)(x y:α):qf (qf f k x) k y=qf f k y:=by funext i;simp only[qf];split<;>rfl
@[simp]theorem zeM(P:Program)(Y:Hp)(t:TypeId)(id i j:Nat)(x:O):ZY P Y t (.ref id i j) x=(do
  let a <-Y id;let q <-(if a.arr=true then zO Y x else some (x,Y));let b <-q.2 id;let n <-qY P t;let c <-b.es[i]?
  if q.1.cells.length=n/\j+n<=c.length/\q.1.cells.all O.ye=true then some (qf q.2 id (some ⟨b.e,b.s,b.arr,b.es.set i (yF c j q.1.cells)⟩))else none):=by
 simp only[ZY];cases Y id with
 |none=>rfl
 |some a=>
  simp only[Option.bind_eq_bind,zW];generalize (if a.arr=true then zO Y x else some (x,Y))=o;cases o with
  |none=>rfl
  |some q=>
   obtain⟨y,d⟩:=q;simp only[zW];cases d id with
   |none=>rfl
   |some b=>
    simp only[zW];cases qY P t with
    |none=>rfl
    |some n=>simp only[zW];cases b.es[i]?<;>rfl
@[simp]theorem zhJ(x y:Value)(Y:Hp)(Z:Nat):yx (.v y) (.v x) Y Z=(x=y):=by simp[yx]
def zfU:O->Int
 | .v (.int _ n)=>n
 |_=>0
@[simp]theorem zeN(k:IntKind)(n:Int):zfU (.v (.int k n))=n:=rfl
theorem wU{n:Int}(a:-9223372036854775808<=n)(b:n<=9223372036854775807):IntKind.i64.wrap n=n:=by rw[yL];omega
variable{dr:Prop}
open Classical in
noncomputable def qW {α b:Type} (V:α->zb) (pre:α->Prop) (out:α->b):zb->Option b:=fun args=>
 if h:∃a,args=V a/\pre a then some (out (Classical.choose h))else none
theorem qX{α e:Type}{V:α->zb}{pre:α->Prop}{out:α->e}(d:∀a b,V a=V b->a=b){a:α}(h:pre a):qW V pre out (V a)=some (out a):=by have c:∃b,V a=V b/\pre b:=⟨a,rfl,h⟩;unfold qW;rw[dif_pos c];have:=yK c;rw[<-d _ _ this.1]
theorem zL{α c:Type}{V:α->zb}{pre:α->Prop}{out:α->c}{args:zb}{r:c}(h:qW V pre out args=some r):∃a,args=V a/\pre a/\r=out a:=by
 unfold qW at h;split at h
 ·rename_i b;injection h with h
  have:=yK b;exact⟨_,this.1,this.2,h.symm⟩
 ·cases h
abbrev Je:=List (Nat×AM.Spec)
def lookup:Je->Nat->Option AM.Spec
 |[],_=>none
 |(k,s)::l,g=>if g=k then some s else lookup l g
@[simp]theorem gw(k:Nat)(s:AM.Spec)(l:Je)(g:Nat):lookup ((k,s)::l) g=if g=k then some s else lookup l g:=rfl
def qj(P:Program)(l:Je):Ctx:=⟨P,lookup l,fun _=>[],fun _=>[],fun _=>false,fun _=>[],fun _=>none⟩
@[simp]theorem zeO(P:Program)(l:Je)(i:Nat):(qj P l).dyn i=[]:=rfl
@[simp]theorem Tf(P:Program)(l:Je)(i:Nat)(a:Array Oper)(d:Bool)(st:St)(K:Exit->St->Prop):Zl (qj P l) (.region i a d) st K=iV (qj P l) a a.toList st (Wr K):=ZZ _ i a d st K rfl rfl
def vS(P:Program)(l:Je)(a:Nat->List (Tmp×Tmp)):Ctx:=⟨P,lookup l,a,fun _=>[],fun _=>false,fun _=>[],fun _=>none⟩
@[simp]theorem zfV(P:Program)(l:Je)(a:Nat->List (Tmp×Tmp)):(vS P l a).P=P:=rfl
@[simp]theorem zhK(P:Program)(l:Je):(qj P l).P=P:=rfl
@[simp]theorem zhL(P:Program)(l:Je)(Y:Hp)(Z g:Nat)(a b xs:zb):jO (qj P l) Y Z (some (.fn (.func g) a b)) xs=(lookup l g).bind fun s=>s (a++xs++b) Y Z:=by unfold jO qj;simp only;cases lookup l g<;>rfl
@[simp]theorem zfW(P:Program)(l:Je)(c:Nat->List (Tmp×Tmp))(Y:Hp)(Z g:Nat)(a b xs:zb):jO (vS P l c) Y Z (some (.fn (.func g) a b)) xs=(lookup l g).bind fun s=>s (a++xs++b) Y Z:=by unfold jO vS;simp only;cases lookup l g<;>rfl
def Bx(dr:Prop)(P:Program)(q:List Nat):Je->Prop
 |[]=>True
 |(g,s)::l=>wO dr P g s/\(q.contains g=true->QQ s)/\Bx dr P q l
theorem qx{P:Program}{l:Je}{q:List Nat}(c:P.follows .mixedOrders=true)(h:Bx dr P q l):jH dr (qj P l) (fun g=>q.contains g):=by
 have a:∀(l:Je),Bx dr P q l->∀g s,lookup l g=some s->wO dr P g s/\(q.contains g=true->QQ s):=by
  intro l
  induction l with
  |nil=>intro _ g s h;cases h
  |cons x l d=>
   obtain⟨k,sp⟩:=x;rintro⟨e,f,i⟩ g s hs;simp only[gw]at hs;split at hs
   ·rename_i b;injection hs with hs
    subst hs;subst b;exact⟨e,f⟩
   ·exact d i g s hs
 exact⟨fun g s hs=>(a l h g s hs).1,fun g s j hs=>(a l h g s hs).2 j,c,(fun _ _ h=>by cases h),(fun _ _ h=>by cases h)⟩
def AllE(dr:Prop)(P:Program):Je->Prop
 |[]=>True
 |(g,s)::l=>wO dr P g s/\AllE dr P l
abbrev g0F:Nat->Bool:=fun g=>([]:List Nat).contains g
abbrev Gd(C:Ctx):Prop:=AM.Good C g0F
theorem allE{P:Program}:∀{l:Je},AllE dr P l->Bx dr P [] l
 |[],_=>trivial
 |(_,_)::_,h=>⟨h.1,by simp,allE h.2⟩
theorem qQ{P:Program}{l:Je}(a:P.follows .mixedOrders=true)(h:AllE dr P l):jH dr (qj P l) g0F:=qx (q:=[]) a (allE h)
theorem wv(k:Nat)(h:k<9223372036854775807:=by omega):IntKind.i64.wrap ((k:Int)+1)=(k:Int)+1:=wU (by omega) (by omega)
theorem wj(n:Int)(h:-9223372036854775808<=n/\n<=9223372036854775807:=by omega):IntKind.i64.wrap n=n:=wU h.1 h.2
theorem V2{P:Program}{l:Je}{q:List Nat}(a:Nat->List (Tmp×Tmp))(b:P.follows .mixedOrders=true)(h:Bx dr P q l):jH dr (vS P l a) (fun g=>q.contains g):=
 let g:=qx b h
 ⟨g.spec,g.quiet,g.mixed,(fun _ _ h=>by cases h),(fun _ _ h=>by cases h)⟩
def gx(r:O)(x:O)(Y:Hp)(_:Nat):Prop:=∃r0,(AM.freeze Y x).map (·.1)=some r0/\aX r0 r
theorem cL{C:Ctx}{fn:Func}{code:Code}{args:zb}{r:O}(a:fn.body=some code)
  (h:Zl C code ⟨km args,fun _=>none,0⟩ (KO C.P fn (gx r))):∃r0,zG C fn args=some r0/\aX r0 r:=by
 obtain⟨x,e,f,b,r0,c,d⟩:=w9 a h;exact⟨r0,by unfold zG;simp only[b];exact c,d⟩
theorem q9(x:O):aX x x:=by
 unfold aX;split
 ·exact⟨rfl,fun j x y b a=>by rw[b]at a;injection a with a;exact .inl a⟩
 ·exact .inl rfl
@[simp]theorem zhM(x y:Value)(Y:Hp)(Z:Nat):gx (.v y) (.v x) Y Z=(x=y):=by simp only[gx,AM.freeze,zO,qp,zE,zY,exists_eq_left',aX,tC];simp
theorem cM{C:Ctx}{fn:Func}{code:Code}{args:zb}{Y:Hp}{Z:Nat}{r:Option Blk}(c:fn.body=some code)
  (h:Zl C code ⟨km args,Y,Z⟩ (KO C.P fn (bD r))):∃x a b,jr C fn args Y Z=some (x,a,b)/\bD r x a b:=w9 c h
def qN(Y:Hp)(Z:Nat)(e s:Nat)(v:O)(xs:List zb):Prop:=(v=.nil/\xs=[])\/∃id,id<Z/\v=.own id 0 xs.length/\Y id=some ⟨e,s,true,xs⟩
def Ws(v:O)(Y:Hp):Hp:=match v with
 | .own id _ _=>qf Y id none
 |_=>Y
theorem qN.nil(Y:Hp)(Z e s:Nat):qN Y Z e s .nil []:=.inl ⟨rfl,rfl⟩
theorem qN.len{P:Program}{Y:Hp}{Z e s:Nat}{v:O}{xs:List zb}{t:TypeId}(h:qN Y Z e s v xs)(a:y2 P t=some e):JF P t v=some (.v (.int .i64 xs.length)):=by rcases h with⟨rfl,rfl⟩|⟨id,_,rfl,_⟩<;>simp[a]
theorem qN.view{Y:Hp}{Z e s:Nat}{v:O}{xs:List zb}(h:qN Y Z e s v xs):view Y s v=some xs:=by rcases h with⟨rfl,rfl⟩|⟨id,_,rfl,h⟩<;>simp[AM.view, *]
theorem qN.ji{P:Program}{Y:Hp}{Z e s a:Nat}{v:O}{xs:List zb}{c z:zb}{t:TypeId}(h:qN Y Z e s v xs)(i:y2 P t=some e)(hs:qY P e=some s)(j:vH P e=some a)(k:jK P e=some z)
  (b:z.length=s) (l:0<s) (d:xs.length+1<=maxLen) (f:(xs.length+1)*a<=140737488355328) :
  jF P (qf Y Z (some ⟨e,s,true,[c]⟩)) (Z+1) t t v (.own Z 0 1) =
   some (.own (Z+1) 0 (xs.length+1),qf (Ws v (qf Y Z (some ⟨e,s,true,[c]⟩))) (Z+1) (some ⟨e,s,true,xs++[c]⟩),Z+2):=by
 rcases h with⟨rfl,rfl⟩|⟨id,hid,rfl,m⟩
 ·simp at d f;simp[jF,i,hs,j,k,b,l,d,f,AM.view,Ws]
 ·have g:¬id=Z:=by omega
  simp[jF,i,hs,j,k,b,l,d,f,AM.view,Ws,g,m]
theorem qN.after{Y:Hp}{Z e s:Nat}{v:O}{xs:List zb}{c:zb}{tmp:Option Blk}:qN (qf (Ws v (qf Y Z tmp)) (Z+1) (some ⟨e,s,true,xs++[c]⟩)) (Z+2) e s (.own (Z+1) 0 (xs.length+1)) (xs++[c]):=
 .inr ⟨Z+1,by omega,by simp,by simp⟩
theorem yr{Y:Hp}{Z e s:Nat}{v:O}{xs:List zb}(h:qN Y Z e s v xs)(b:Hp)(id:Nat)(a:∀n,v≠.own id 0 n):Ws v b id=b id:=by
 rcases h with⟨rfl,rfl⟩|⟨k,c,rfl,d⟩
 ·rfl
 ·have:¬id=k:=fun e=>a _ (by rw[e])
  simp[Ws,this]
theorem qN.freeze{Y:Hp}{Z e s:Nat}{v:O}{xs:List zb}(h:qN Y Z e s v xs)(a:Nat):gx (.sl s xs) v Y a:=by
 rcases h with⟨rfl,rfl⟩|⟨id,hid,rfl,b⟩
 ·exact⟨.nil,by simp,.inr ⟨rfl,s,rfl⟩⟩
 ·exact⟨.sl s xs,by simp[b],q9 _⟩
theorem Yc{α c:Type}{f:α->c}(h:∀a b,f a=f b->a=b):∀{xs ys:List α},xs.map f=ys.map f->xs=ys
 |[],[],_=>rfl
 |[],y::ys,e=>by simp at e
 |x::xs,[],e=>by simp at e
 |x::xs,y::ys,e=>by simp at e;rw[h x y e.1,Yc h e.2]
def TW(I:Nat->(Nat->O)->Hp->Nat->Prop)(n k:Nat)(K:Exit->St->Prop)(e:Exit)(st:St):Prop:=match e with
 | .normal=>k+1<=n/\I (k+1) st.M st.Y st.Z
 |e=>K e st
@[simp]theorem zbJ(I:Nat->(Nat->O)->Hp->Nat->Prop)(n k:Nat)(K:Exit->St->Prop)(st:St):TW I n k K .normal st=(k+1<=n/\I (k+1) st.M st.Y st.Z):=rfl
@[simp]theorem zfX(I:Nat->(Nat->O)->Hp->Nat->Prop)(n k:Nat)(K:Exit->St->Prop)(st:St):TW I n k K .ret st=K .ret st:=rfl
@[simp]theorem zeP(I:Nat->(Nat->O)->Hp->Nat->Prop)(n k i:Nat)(K:Exit->St->Prop)(st:St):TW I n k K (.exit i) st=K (.exit i) st:=rfl
theorem ql{C:Ctx}{b:Code}{st:St}{K:Exit->St->Prop}(I:Nat->(Nat->O)->Hp->Nat->Prop)(n:Nat)(j:I 0 st.M st.Y st.Z)
  (a:∀k M Y Z,k<=n->I k M Y Z->Zl C b ⟨M,Y,Z⟩ (TW I n k K)):Zl C (.loop b) st K:=by
 have f:∀d k st,n-k=d->k<=n->I k st.M st.Y st.Z->Zl C (.loop b) st K:=by
  intro d
  induction d with
  |zero=>
   intro k st hd g i;rw[zJ];refine(a k st.M st.Y st.Z g i).mono fun e c h=>?_
   cases e
   case normal=>have:=h.1;omega
   all_goals exact h
  |succ d l=>
   intro k st hd g i;rw[zJ];refine(a k st.M st.Y st.Z g i).mono fun e c h=>?_
   cases e
   case normal=>exact l (k+1) c (by omega) h.1 h.2
   all_goals exact h
 exact f _ 0 st rfl (jb _) j
variable{dr:Prop}
abbrev str(l:za):O:=.v (.string ⟨l.toArray⟩)
@[simp]theorem zfY(l:za):(ByteArray.mk l.toArray).size=l.length:=by simp[ByteArray.size]
@[simp]theorem bget(l:za)(i:Nat):(ByteArray.mk l.toArray)[i]?=l[i]?:=by
 by_cases h:i<l.length
 ·rw[getElem?_pos (ByteArray.mk l.toArray) i (by simpa using h),zo h];rfl
 ·rw[getElem?_neg (ByteArray.mk l.toArray) i (by simpa using h),wq (by omega)]
@[simp]theorem NT(l:za)(a b:Nat):(ByteArray.mk l.toArray).extract a b=⟨((l.drop a).take (b-a)).toArray⟩:=by have h:=Lib.extract_data (ByteArray.mk l.toArray) a b;rw[ByteArray.ext_iff];apply Sv.1;rw[h]
@[simp]theorem zhN(a b:za):ByteArray.mk a.toArray++ByteArray.mk b.toArray=⟨(a++b).toArray⟩:=by rw[ByteArray.ext_iff];apply Sv.1;simp[ByteArray.data_append]
theorem yp{a b:za}(h:str a=str b):a=b:=by injection h with h;injection h with h;injection h with h;simpa using zp Array.toList h
@[simp]theorem zeQ(P:Program)(t:TypeId)(l:za)(k:IntKind)(i:Int)(h:P.underlying t=some .string):QU P t (.v (.string ⟨l.toArray⟩)) (.v (.int k i)) =
  if 0<=i then(l[i.toNat]?).map fun b=>.v (.int .u8 b.toNat)else none:=by
 simp only[QU,h,bget];split
 ·cases l[i.toNat]?<;>rfl
 ·rfl
@[simp]theorem zeR(P:Program)(Y:Hp)(t:TypeId)(l:za)(c d:Option (Option O))(h:P.underlying t=some .string):yZ P Y t (.v (.string ⟨l.toArray⟩)) c d =
  (kl 0 c).bind fun a=>(kl l.length d).bind fun b=>if a<=b/\b<=l.length then some (str ((l.drop a).take (b-a)))else none:=by
 simp only[yZ,h,zfY,NT];cases kl 0 c<;>(try rfl);cases kl l.length d<;>rfl
attribute [simp] kl
@[simp]theorem TX(P:Program)(t:TypeId)(a b:Bool)(h:P.underlying t=some .bool):Qi P .eql t (.v (.bool a)) (.v (.bool b))=some (.v (.bool (a==b))):=by simp[Qi,h]
@[simp]theorem TY(P:Program)(t:TypeId)(a b:Bool)(h:P.underlying t=some .bool):Qi P .neq t (.v (.bool a)) (.v (.bool b))=some (.v (.bool (!(a==b)))):=by simp[Qi,h]
@[simp]theorem zfZ(P:Program)(s d:TypeId)(k:IntKind)(n:Int):aP P s d (.v (.int k n))=(P.underlying s).bind fun _=>(P.underlying d).bind fun u=>match u with|.int k'=>some (.v (.int k' (k'.wrap n)))|_=>none:=by simp only[aP];cases P.underlying s<;>(try rfl);cases P.underlying d<;>(try rfl);rename_i u;cases u<;>rfl
theorem zbK(a b:UInt8):((a.toNat:Int)==(b.toNat:Int))=decide (a=b):=by rw[q6];simp[<-yU];omega
theorem jm{F:zb->Option O}{b:List Nat}{a:Bool}{args c:zb}{Y Y1:Hp}{Z:Nat}{r:O}(d:zH Y args=some (c,Y1))(e:F (yR b c)=some r)(f:r.flat=true\/args.all O.noOwn=true) :
  zn a b F args Y Z=some (r,Y,Z):=by
 unfold zn;simp only[d,e,f,zK]
theorem qA{k:IntKind}{a b:Int}(h:O.v (.int k a)=.v (.int k b)):a=b:=by injection h with h;injection h
theorem Yl{a b:Bool}(h:O.v (.bool a)=.v (.bool b)):a=b:=by injection h with h;injection h
def zf0{α a:Type}(f:α->a)(K:a->Prop)(x:α):Prop:=K (f x)
def zf1{α a:Type}(f:α->Option a)(K:a->Prop)(x:α):Prop:=VX (f x) K
@[simp]theorem zeS{α a:Type}(f:α->a)(K:a->Prop)(x:α):zf0 f K x=K (f x):=rfl
@[simp]theorem zeT{α a:Type}(f:α->Option a)(K:a->Prop)(x:α):zf1 f K x=VX (f x) K:=rfl
def bE(C:Ctx)(pf:FuncId->Bool)(f:FuncId)(fn:Func):Prop:=∃code,bt C pf f fn code
theorem y3{C:Ctx}{pf:FuncId->Bool}{f:FuncId}{fn:Func}(d:jH dr C pf)(b:bE C pf f fn)(a:Bool)(c:List Nat)(F:zb->Option O)(e:∀args r,F args=some r->args.length<=fn.ntmps/\∃r0,zG C fn args=some r0/\aX r0 r):wO dr C.P f (zn a c F):=
 let⟨_,b⟩:=b
 Bt d b a c F e
def kOk(pf:FuncId->Bool)(C:Ctx)(fn:Func):Bool:=!(fn.name== "runtime.NumGoroutine")&&match fn.body with
 |some c=>vJ pf C.dyn C.M6 C.bk fn.ntmps c
 |none=>false
theorem wc{C:Ctx}{pf:FuncId->Bool}{f:FuncId}{fn:Func}(h:C.P.funcs[f]?=some fn)(a:kOk pf C fn=true:=by kernel_rfl):bE C pf f fn:=by
 unfold kOk at a;split at a
 ·rename_i c b;simp only[zD,QF]at a;exact⟨c,h,a.1,b,a.2⟩
 ·simp at a
theorem VG{C:Ctx}{pf:FuncId->Bool}{f:FuncId}{fn:Func}{α:Type}{V:α->zb}{pre:α->Prop}{out:α->O}(d:jH dr C pf)(h:C.P.funcs[f]?=some fn)(b:Bool)(c:List Nat)(e:∀a,pre a->(V a).length<=fn.ntmps/\∃r0,zG C fn (V a)=some r0/\aX r0 (out a))(g:kOk pf C fn=true:=by kernel_rfl):wO dr C.P f (zn b c (qW V pre out)):=
 y3 d (wc h g) b c _ fun args r h=>by obtain⟨a,rfl,Y,rfl⟩:=zL h;exact e a Y
theorem iX{α:Type}{V:α->zb}{pre:α->Prop}{out:α->O}(a:α)(Y:Hp)(Z:Nat)(b:zH Y (V a)=some (V a,Y))(c:∀x y,V x=V y->x=y)(h:pre a)(d:(out a).flat=true\/(V a).all O.noOwn=true):zn false [] (qW V pre out) (V a) Y Z=some (out a,Y,Z):=
 jm b (by
  have e:∀l:zb,yR [] l=l:=fun l=>by cases l<;>rfl
  rw[e];exact qX c h) d
noncomputable def kX (C:Ctx) (fn:Func):AM.Spec:=fun args Y Z=>if args.length<=fn.ntmps then jr C fn args Y Z else none
theorem EX{C:Ctx}{pf:FuncId->Bool}{f:FuncId}{fn:Func}{code:Code}(b:jH dr C pf)(a:bt C pf f fn code):wO dr C.P f (kX C fn):=by
 refine⟨⟨fn,a.func,a.name,by rw[a.body];rfl⟩,?_⟩;intro args Y Z r g i h w S G vs c d;unfold kX at h;split at h
 ·rename_i e;exact mb b.spec b.quiet b.box b.iter b.mixed a.func a.body a.ok h c d e
 ·cases h
theorem J3{C:Ctx}{pf:FuncId->Bool}{f:FuncId}{fn:Func}(a:jH dr C pf)(h:C.P.funcs[f]?=some fn)(b:kOk pf C fn=true:=by kernel_rfl):wO dr C.P f (kX C fn):=let⟨_,k⟩:=wc h b;EX a k
end Go.AM
namespace Go.AM
open Go.RowKit Go.WideShapes Go.ChangeShapes
variable{dr:Prop}
section
variable{H:Type}{V:TypeId×Value->H}{P:Program}
theorem aY(i:laidOutB P=true){W j:World}(k:Below W.heap.size W j){l:Nat->Bool}:∀{ts:List TypeId} {vs:List Value} {f:List (DataW H)} {b:List MemPlace},(∀t∈ts,P.readableRec t=true/\t<P.types.size) ->
  DataW.TrodAll V P W 0 (fun _=>true) true ts vs f b->(∀p∈b,p.block<W.heap.size)->(∀p∈b,l p.block=true)->DataW.TrodAll V P j 0 l true ts vs f b
 |[],vs,f,b,_,h,_,_=>by obtain⟨rfl,rfl,rfl⟩:=trodAll_nil h;exact trodAll_mk0
 |t::ts,vs,f,b,g,h,c,e=>by
  obtain⟨v,m,d,n,p,q,rfl,rfl,rfl,o,r⟩:=trodAll_cons h;exact trodAll_cons_mk (WideElems.Trod_stays i (g t (by simp)).1 (g t (by simp)).2 o (fun x a=>k.same (c x (by simp[a]))) (fun x a=>e x (by simp[a])))
   (aY i k (fun u s=>g u (by simp[s])) r (fun x a=>c x (by simp[a])) (fun x a=>e x (by simp[a])))
theorem NU{f:Func}{s:ChangeSpec}{a i c j:Bool}{W n:World}{args:Array Value}{m E:List (DataW H)}{before:List MemPlace}(F:laidOutB P=true)(G:∀t∈f.params.toList,P.readableRec t=true/\t<P.types.size)
  (B:s.vars=[]) (w:DataW.Whole V P f.params.toList s.vars a W args.toList m E before) (k:s.fn H m={results:=[.lit (.bool true)],args:=m}) {tb:TypeId} (C:f.resultTypes=#[tb]) (o:P.underlying tb=some .bool) (x:Below W.heap.size W n) :
  s.post V P f a i c j W args (.bool true) n:=by
 have l:∀p∈before,p.block<W.heap.size:=fun p Y=>w.lt p Y
 have y:=w;obtain⟨p,q,I,D,r,J,K⟩:=w;rw[B]at D;obtain⟨rfl,rfl⟩:=trodVars_none D;simp only[jf]at r;subst r;have z:DataW.TrodAll V P W 0 (fun _=>true) true f.params.toList args.toList m before:=I;have d:∀g:Nat->Bool,(∀p∈before,g p.block=true)->DataW.TrodAll V P n 0 g true f.params.toList args.toList m before:=fun g A=>aY F x G z l A
 have u:∀p∈before,(fun b=>decide (b<W.heap.size)) p.block=true:=fun p Y=>by simpa using l p Y
 have h:∀(b:Nat) (g:Nat->Bool) (hd:Bool),DataW.TrodAll V P n b g hd f.resultTypes.toList ((Value.bool true).resultList f.resultTypes.size) [.lit (.bool true)] []:=fun b g hd=>by rw[C];exact trodAll_cons_mk (shut_bool o _) trodAll_mk0
 have e:∀g,DataW.TrodVars V P n g s.vars [] []:=fun g=>by rw[B];rfl
 refine⟨m,[],before,[],before,[],by simpa using y,?_,?_,?_,World.keptBut_mono (fun p Y=>⟨Y,.inr (.inl Y)⟩) (x.frame (·∈before)),fun _=>?_⟩
 ·rw[jf,k];exact h _ _ _
 ·rw[jf,k];exact d _ u
 ·rw[jf,k];exact e _
 ·refine⟨ok_one C rfl (okWide_bool_mk o _),_,_,([]++before)++[],⟨[]++before,[],trodAll_append (d _ (fun _ _=>rfl)) (h _ _ _),e _,rfl,?_,?_⟩,?_⟩
  ·intro b off Y;have v:MemPlace.cell b off∈before:=by simpa using Y
   rw[x.frozen (l _ v)];exact J b off (by simpa using v)
  ·intro L;have:=K L;simpa using this
  ·intro p Y _;simpa using Y
end
end Go.AM
namespace Go.AM
variable{dr:Prop}
def sX(u:O->O):Prop:=∀(w:World) (S:Nat->Prop) (y:O) (v:Value),wT w S y v->wT w S (u y) v
def I0(k:Nat):O->O
 | .nil=>.sl k []
 |x=>x
def KQ:List (O->O)->zb->zb
 |u::us,x::xs=>u x::KQ us xs
 |_,xs=>xs
def o7(us:List (O->O)):O->O
 | .agg cs=>.agg (KQ us cs)
 |x=>x
def TZ(us:List (O->O)):O->O
 | .wL cs=>.wL (KQ us cs)
 |x=>x
theorem sX.id:sX fun x=>x:=fun _ _ _ _ h=>h
theorem sX.nz(k:Nat):sX (I0 k):=fun w S y v h=>by
 cases y<;>first
  |exact h
  |exact tD h (.inr ⟨rfl,k,rfl⟩)
theorem V3:∀(us:List (O->O)) (xs:zb),(KQ us xs).length=xs.length
 |[],_=>rfl
 |_::_,[]=>rfl
 |u::us,x::xs=>by simp[KQ,V3 us xs]
theorem cN:∀(us:List (O->O)) (_:∀u∈us,sX u) (xs:zb) (w:World) (S:Nat->Prop) (j:Nat) (y:O) (v:Value),(KQ us xs)[j]?=some y->(∀x,xs[j]?=some x->wT w S x v)->wT w S y v
 |[],_,_,_,_,_,y,_,a,b=>b y a
 |_::_,_,[],_,_,_,_,_,a,_=>by simp[KQ]at a
 |u::us,c,x::xs,w,S,0,y,v,a,b=>by simp only[KQ,List.getElem?_cons_zero,zY]at a;rw[<-a];exact c u (by simp) w S x v (b x rfl)
 |u::us,c,x::xs,w,S,j+1,y,v,a,b=>cN us (fun u h=>c u (by simp[h])) xs w S j y v (by simpa[KQ]using a) (fun x d=>b x (by simpa using d))
theorem sX.agg{us:List (O->O)}(a:∀u∈us,sX u):sX (o7 us):=fun w S y v h=>by
 cases h with
 |agg b c=>exact .agg (by rw[V3];exact b) fun j d x e f=>cN us a _ w S j d x e fun z g=>c j z x g f
 |_=>first
  |exact .v (by assumption)
  |exact .nil
  |exact .em (by assumption)
  |(simp only[o7];constructor<;>assumption)
theorem sX.wL{us:List (O->O)}(a:∀u∈us,sX u):sX (TZ us):=fun w S y v h=>by
 cases h with
 |wL b c=>exact .wL (by rw[V3];exact b) fun j d x e f=>cN us a _ w S j d x e fun z g=>c j z x g f
 |_=>first
  |exact .v (by assumption)
  |exact .nil
  |exact .em (by assumption)
  |(simp only[TZ];constructor<;>assumption)
end Go.AM
namespace Go.AM
open Go.RowKit Go.Sort Go.Proofs
variable{dr:Prop}
def WM(xs:List zb)(i:Nat):zb:=xs.getD (if i<xs.length then i else 0) []
theorem kB{xs:List zb}(h:xs≠[])(i:Nat):WM xs i∈xs:=by
 have b:0<xs.length:=kc.2 h;have a:(if i<xs.length then i else 0)<xs.length:=by split<;>assumption
 unfold WM;rw[Kz,zo a];exact zw _
theorem NV{xs:List zb}{i:Nat}(h:i<xs.length):WM xs i=xs[i]:=by unfold WM;rw[zg h,Kz,zo h];rfl
def me(cf:zb->zb->Int)(xs:List zb)(i j:Nat):Int:=cf (WM xs i) (WM xs j)
def ZM(cf:zb->zb->Int)(xs:List zb):Array Nat:=pdq (ltOf (me cf xs)) (Array.range xs.length) 0 xs.length (Lib.bitLen xs.length) true true
def Zv(cf:zb->zb->Int)(xs:List zb):List zb:=if xs.length=0 then[]else(ZM cf xs).toList.map (WM xs)
structure Y9 (cf:List O->List O->Int) (xs:List (List O)):Prop where
 irrefl:∀x∈xs,0<=cf x x
 trans:∀x∈xs,∀y∈xs,∀z∈xs,cf x y<0->cf y z<0->cf x z<0
 ntrans:∀x∈xs,∀y∈xs,∀z∈xs,0<=cf x y->0<=cf y z->0<=cf x z
section
variable{cf:zb->zb->Int}{xs:List zb}
theorem Ha{i j:Nat}(h:ltOf (me cf xs) i j=true):cf (WM xs i) (WM xs j)<0:=Ig h
theorem mf{i j:Nat}(h:ltOf (me cf xs) i j=false):0<=cf (WM xs i) (WM xs j):=Int.not_lt.1 (of_decide_eq_false h)
theorem NW{i j:Nat}(h:cf (WM xs i) (WM xs j)<0):ltOf (me cf xs) i j=true:=ep h
theorem Hb{i j:Nat}(h:0<=cf (WM xs i) (WM xs j)):ltOf (me cf xs) i j=false:=decide_eq_false (Int.not_lt.2 h)
theorem Y9.swo(h:Y9 cf xs)(a:xs≠[]):SWO (ltOf (me cf xs)) where
 irrefl i:=Hb (h.irrefl _ (kB a i))
 trans i j k b c:=NW (h.trans _ (kB a i) _ (kB a j) _ (kB a k) (Ha b) (Ha c))
 ntrans i j k b c:=Hb (h.ntrans _ (kB a i) _ (kB a j) _ (kB a k) (mf b) (mf c))
theorem KR(h:Y9 cf xs)(a:xs≠[]):PermIn 0 xs.length (Array.range xs.length) (ZM cf xs)/\SortedIn (ltOf (me cf xs)) 0 xs.length (ZM cf xs):=
 pdq_sorts (ltOf (me cf xs)) (h.swo a) (Array.range xs.length) 0 xs.length (Lib.bitLen xs.length) true true (jb _) (by simp) (Or.inl rfl)
theorem KS(h:Y9 cf xs)(a:xs≠[]):(ZM cf xs).size=xs.length:=by have:=(KR h a).1.1;simpa using this
theorem YD(h:Y9 cf xs):(Zv cf xs).Perm xs:=by
 unfold Zv;split
 ·rename_i a;have:xs=[]:=qM.1 a;subst this;exact .refl _
 ·rename_i a;have c:xs≠[]:=by rintro rfl;simp at a
  obtain⟨k,_,d⟩:=(KR h c).1;have hs:=KS h c;have f:(ZM cf xs).extract 0 xs.length=ZM cf xs:=by rw[<-hs];simp
  have g:(Array.range xs.length).extract 0 xs.length=Array.range xs.length:=by
   conv=>lhs;rw[show xs.length=(Array.range xs.length).size by simp]
   simp
  rw[f,g]at d;have e:=d.map (WM xs);have j:(Array.range xs.length).toList.map (WM xs)=xs:=by
   apply List.ext_getElem
   ·simp
   ·intro i l b;simp[NV b]
  rw[j]at e;exact e
theorem KT(h:Y9 cf xs):(Zv cf xs).Pairwise (fun x y=>0<=cf y x):=by
 unfold Zv;split
 ·exact List.Pairwise.nil
 ·rename_i f;have c:xs≠[]:=by rintro rfl;simp at f
  have hs:=KS h c;have g:=(KR h c).2;rw[Ih,List.pairwise_iff_getElem];intro i j d a b;have e:=g i j (jb _) b (by simp at a;omega);simp at d a;rw[zbk _ i d,zbk _ j a]at e;simpa using mf e
theorem KU(h:Y9 cf xs):(Zv cf xs).length=xs.length:=(YD h).length_eq
end
def tJ(P:Program)(f k:Nat):Prop:=
 (∀(α:Type) [Inhabited α] (V:α->List Value) (_:∀x,(V x).length=k) (_:∀x,∀v∈V x,v.oneCell'=true) (cf:α->α->Int) (_:SWO (ltOf cf)) (g:Nat) (blk off cap:Nat) (d:Array α) (w:World)
  (_:∀args w,(callFunc g args).run P w=.ok (.enter g args) w) (_:CmpLays P g #[] V k cf blk off d.size w) (_:HoldsK V k w blk off d) (_:blk<w.heap.size) (_:d.size<4611686018427387904),
  Calls P f #[.slice (some ⟨blk,off,none⟩) d.size cap,.func (.func g) #[] #[]] w fun e a=>
   e=.returned (.tuple #[])/\∃n b,a=sortWorldK V k w blk off n (pdq (ltOf cf) d 0 d.size (Lib.bitLen d.size) true true) b) /\
 ∀(p:Option Addr) (cap:Nat) (c:Value) (w:World),Calls P f #[.slice p 0 cap,c] w fun e a=>e=.returned (.tuple #[])/\a=w
def Hc(P:Program)(g k:Nat)(cf:zb->zb->Int)(dom:zb->Prop):Prop:=
 (∀args w,(callFunc g args).run P w=.ok (.enter g args) w)/\∃a,zi P g a/\∀x y,x.length=k->y.length=k->dom x->dom y->a [.agg x,.agg y] (fun _=>none) 0=some (.v (.int .i64 (cf x y)),fun _=>none,0)
open Classical in
noncomputable def J4 (k:Nat) (g:Nat) (cf:zb->zb->Int) (dom:zb->Prop):AM.Spec:=fun args Y Z=>
 match args with
 |[.nil,.fn _ _ _]=>some (.wL [],Y,Z)
 |[.own id off n,.fn (.func a) [] []]=>if n=0 then some (.wL [],Y,Z)else match Y id with
  |some b=>if a=g/\b.arr=true/\b.s=k/\off+n<=b.es.length/\n<4611686018427387904/\Y9 cf ((b.es.drop off).take n)/\∀x∈(b.es.drop off).take n,dom x then
    some (.wL [],qf Y id (some ⟨b.e,b.s,b.arr,b.es.take off++Zv cf ((b.es.drop off).take n)++b.es.drop (off+n)⟩),Z)else none
  |none=>none
 |_=>none
theorem EY{W a:World}(h:Fr True W (fun _=>False) a):∃q d,a=grow (W.drewN q) d:=by
 refine⟨a.drawn-W.drawn,a.heap.extract W.heap.size a.heap.size,?_⟩;obtain⟨b,f,e,p,c⟩:=a;obtain⟨g,j,k,o,l,m⟩:=h;simp only at g j k o l m;unfold grow World.drewN;simp only[World.mk.injEq];refine⟨?_,j,by have:=l trivial;omega,g,k⟩;apply Array.ext_getElem?;intro i;by_cases n:i<W.heap.size
 ·rw[m i n (fun h=>h),D5 n]
 ·rw[Array.getElem?_append_right (by omega),Array.getElem?_extract];by_cases r:i<b.size
  ·rw[zg (by omega)];congr 1;omega
  ·rw[zf (by omega),Array.getElem?_eq_none (by omega)]
theorem kN.grown{P:Program}{Y:Hp}{Z:Nat}{S:Nat->Prop}{G:Nat->GI}{w d:World}(h:Inv P w S G Y Z)(c:Fr dr w (fun _=>False) d):kN dr P Y Z S G w Y Z S G d:=by
 have e:∀b,b<w.heap.size->d.heap[b]?=w.heap[b]?:=fun b a=>c.block b a (fun h=>h)
 refine⟨⟨fun b a=>yi (h.st b a) c.size,h.top,fun id b a=>?_,h.apart,h.inj,h.eC.mono fun b a=>⟨a,e b (h.st b a)⟩⟩,zk _,fun _ _=>rfl,fun _ a=>a,fun _ a=>.inl a,fun id b a=>.inl ⟨id,b,a,rfl⟩,⟨c.os,c.tape,c.output,c.size,c.drawn,fun k g _=>c.block k g (fun h=>h)⟩⟩;have f:=h.live id b a;exact f.mono (fun b a=>⟨a,e b (h.st b a)⟩) (zk _) (fun _ _=>rfl) (e _ f.lt)
theorem KV{α:Type}[Inhabited α](V:α->List Value)(k:Nat)(w:World)(blk off m:Nat)(d:Array α)(a:Array Obj):Fr dr (putRowK V k w blk off d) (fun _=>False) (sortWorldK V k w blk off m d a):=by
 refine⟨rfl,rfl,rfl,?_,fun _=>?_,fun b c _=>?_⟩
 ·show _<=(_++a).size;rw[xA];exact Nat.le_add_right _ _
 ·exact Nat.le_add_right _ _
 ·exact D5 c
theorem Wc{α:Type}[Inhabited α](V:α->List Value)(k:Nat)(w:World)(blk off:Nat)(d:Array α){a:Array Value}{e:TypeId}(h:w.heap[blk]?=some (.cells a e (0,0))) :
  putRowK V k w blk off d=w.setRow blk (putCells (fun v:Value=>v) off (flatK V k d) a):=by
 unfold putRowK putRow mapBlock World.setRow;congr 1;apply Array.ext_getElem?;intro i;simp only[ZT];by_cases b:blk=i
 ·subst b;simp only[zK,h,zE,onCells];rfl
 ·simp[b]
section
variable{P:Program}{f k g:Nat}{cf:zb->zb->Int}{dom:zb->Prop}
theorem V4(h0:0<k)(hfn:∃fn,P.funcs[f]?=some fn/\(fn.name== "runtime.NumGoroutine")=false/\fn.body.isNone=false)(hso:tJ P f k)(hco:Hc P g k cf dom):wO dr P f (J4 k g cf dom):=by
 refine⟨hfn,?_⟩;intro args Y Z r Y' Z' h w S G vs U hz;unfold J4 at h;split at h
 ·injection h with h;injection h with e1 h;injection h with e2 e3;subst e1;subst e2;subst e3;obtain⟨u,us,rfl,hu,z⟩:=hz.jX;obtain⟨v,us,rfl,hv,z⟩:=z.jX;obtain rfl:=z.Y8;obtain rfl:=hu.ZV;refine(hso.2 none 0 v w).mono fun e w' hh=>?_
  obtain⟨rfl,rfl⟩:=hh;exact⟨_,_,_,rfl,.refl U,kA⟩
 ·rename_i id off n g';obtain⟨u,us,rfl,hu,z⟩:=hz.jX;obtain⟨v,us,rfl,hv,z⟩:=z.jX;obtain rfl:=z.Y8;have o:=hu.ZW;obtain⟨cap,g1,g2,g3,g4,rfl⟩:=hu.Zk;split at h
  ·rename_i hn0;subst hn0;injection h with h
   injection h with e1 h;injection h with e2 e3;subst e1;subst e2;subst e3;refine(hso.2 _ cap v w).mono fun e w' hh=>?_
   obtain⟨rfl,rfl⟩:=hh;exact⟨_,_,_,rfl,.refl U,kA⟩
  rename_i hn0;split at h
  case h_2=>cases h
  rename_i b hb;split at h
  case isFalse=>cases h
  rename_i hc;obtain⟨rfl,harr,hbk,hfit,hn,hW,N⟩:=hc;injection h with h
  injection h with e1 h;injection h with e2 e3;subst e1;subst e2;subst e3;have d:=U.live id b hb;obtain⟨us,ts,rfl,hus,hts,_,_⟩:=hv.AO;obtain rfl:us=#[]:=Array.eq_empty_of_size_eq_zero (by simpa using hus.symm);obtain rfl:ts=#[]:=Array.eq_empty_of_size_eq_zero (by simpa using hts.symm);have A:(G id).s=k:=by rw[<-d.bs];exact hbk
  obtain⟨Q,c1,c2,c3⟩:=d.row o;rw[A]at c3 g4;obtain⟨xs,R⟩:=wM ((b.es.drop off).take n);rw[R]at hW N;have H:xs.length=n:=by rw[<-R];simp;omega
  have I:xs≠[]:=by rintro rfl;simp at H;omega
  have B:∀x∈xs,x.length=k:=fun x I=>by rw[<-A];rw[<-R]at I;exact d.len o x (List.mem_of_mem_drop (KA I))
  have hxg:∀i,i<n->xs[i]?=b.es[off+i]?:=fun i U=>by rw[<-R,zX,zg U,qI]
  let ix:Nat->Nat:=fun i=>if i<n then i else 0
  have hix:∀i,ix i<n:=fun i=>by show(if i<n then i else 0)<n;split<;>omega
  have hel:∀i,xs[ix i]?=some (WM xs i):=fun i=>by
   unfold WM;rw[Kz];show xs[if i<n then i else 0]?=_;have:(if i<n then i else 0)<xs.length:=by rw[H];exact hix i
   rw[H,zo this];rfl
  let V:Nat->List Value:=fun i=>(List.range k).map fun j=>(Q[(off+ix i)*k+j]?).getD undef
  have hek:∀x,(V x).length=k:=fun x=>by simp[V]
  have l:∀i j C,(WM xs i)[j]?=some C->∃u,Q[(off+ix i)*k+j]?=some u/\(V i)[j]?=some u/\wT w S C u/\u.oneCell'=true:=fun i j C hj=>by
   have J:j<k:=by have:=(zj.1 hj).1;rw[B _ (kB I i)]at this;exact this
   obtain⟨u,W,L⟩:=c3 (off+ix i) j (WM xs i) C (by rw[<-hxg _ (hix i)];exact hel i) hj;rw[harr]at L;refine⟨u,W,?_,L.1 rfl,L.2.2⟩;simp[V,J,W]
  have E:∀i j,j<k->∃C,(WM xs i)[j]?=some C:=fun i j hj=>by
   have:j<(WM xs i).length:=by rw[B _ (kB I i)];exact hj
   exact⟨_,zo this⟩
  have h1c:∀x,∀v∈V x,v.oneCell'=true:=fun x v hv=>by obtain⟨j,hj,rfl⟩:=qq.1 hv;obtain⟨C,hpv⟩:=E x j (xd.1 hj);obtain⟨u,W,_,_,q4⟩:=l x j C hpv;rw[W];exact q4
  have hblk:(G id).g<w.heap.size:=d.lt;have F:∀m D (p:Array Nat) K,S K->(sortWorldK V k w (G id).g (off*k) m p D).heap[K]?=w.heap[K]?:=fun m D p K a=>by
   have T:K<(putRowK V k w (G id).g (off*k) p).heap.size:=by rw[Wc V k w _ _ p c1,size_setRow];exact U.st K a
   rw[(KV (dr:=True) V k w (G id).g (off*k) m p D).block K T (fun h=>h),Wc V k w _ _ p c1];exact setRow_other _ _ _ _ fun e=>U.apart id b hb (e ▸ a)
  have zhl:∀m D (p:Array Nat),w.heap.size<=(sortWorldK V k w (G id).g (off*k) m p D).heap.size:=fun m D p=>by have:=(KV (dr:=True) V k w (G id).g (off*k) m p D).size;rw[Wc V k w _ _ p c1,size_setRow]at this;exact this
  obtain⟨eg,spec,hsp,SD⟩:=hco;have hcmp:CmpLays P g' #[] V k (me cf xs) (G id).g (off*k) n w:=by
   intro m D p hdk x y;have hagg:∀x,wT (sortWorldK V k w (G id).g (off*k) m p D) S (.agg (WM xs x)) (.agg (V x).toArray):=fun x=>by
    refine .agg (by simp[hek,B _ (kB I x)]) fun j C u hj hu=>?_
    obtain⟨u',_,L,q3,_⟩:=l x j C hj;have:u=u':=by simpa[L]using hu.symm
    subst this;exact q3.mono fun K a=>⟨a,F m D p K a⟩
   have:=hsp.2 _ _ _ _ _ _ (SD _ _ (B _ (kB I x)) (B _ (kB I y)) (N _ (kB I x)) (N _ (kB I y))) (sortWorldK V k w (G id).g (off*k) m p D) S G [.agg (V x).toArray,.agg (V y).toArray]
    ⟨fun K a=>yi (U.st K a) (zhl m D p),fun _ _ h=>(nomatch h),fun _ _ h=>(nomatch h),fun _ _ h=>(nomatch h),fun _ _ _ _ h=>(nomatch h),U.eC.mono fun K a=>⟨a,F m D p K a⟩⟩ (.cons (.c (hagg x)) (.cons (.c (hagg y)) .nil))
   refine this.mono fun e w' hh=>?_
   obtain⟨v,S',G',rfl,st,hv⟩:=hh;obtain⟨rfl,_⟩:=hv.yn;refine⟨rfl,EY ⟨st.fr.os,st.fr.tape,st.fr.output,st.fr.size,st.fr.drawn,fun k hk _=>st.fr.block k hk ?_⟩⟩;rintro⟨_,_,h,_⟩;cases h
  have hH:HoldsK V k w (G id).g (off*k) (Array.range n):=by
   intro t ht;have ht':t<n*k:=by simpa using ht
   have hd:=Nat.div_add_mod t k;have hm:=zji t h0;have hdl:t/k<n:=(Nat.div_lt_iff_lt_mul h0).2 ht';rw[get_flatK _ _ _ _ (by simpa using ht')];have hr:(Array.range n)[t/k]! = t/k:=by rw[zbk _ _ (by simpa using hdl)];simp
   obtain⟨C,hpv⟩:=E (t/k) (t % k) hm;obtain⟨u,W,L,_,_⟩:=l (t/k) (t % k) C hpv;have hixe:ix (t/k)=t/k:=zg hdl;constructor
   ·rw[cell_of_row w _ _ Q _ _ c1,hr,List.getElem!_eq_getElem?_getD,L];rw[hixe]at W;have:off*k+t=(off+t/k)*k+t % k:=by rw[yc,Yi (t/k) k];omega
    rw[this,W];rfl
   ·simp[World.frozen?,c1]
  have hsw:=hW.swo I;have key:=hso.1 Nat V hek h1c (me cf xs) hsw g' (G id).g (off*k) cap (Array.range n) w eg (by simpa using hcmp) hH hblk (by simpa using hn);have es1:(Array.range n).size=n:=by simp
  rw[es1]at key;rw[A];refine key.mono fun e w' hh=>?_
  obtain⟨rfl,m,D,rfl⟩:=hh;have hidx:pdq (ltOf (me cf xs)) (Array.range n) 0 n (Lib.bitLen n) true true=ZM cf xs:=by unfold ZM;rw[H]
  rw[hidx];have hds:(ZM cf xs).size=n:=by rw[KS hW I,H]
  have hsl:(Zv cf xs).length=n:=by rw[KU hW,H]
  have hpl:off+(Zv cf xs).length<=b.es.length:=by rw[hsl];exact hfit
  have Tn:∀i,i<n->(Zv cf xs)[i]?=some (WM xs (ZM cf xs)[i]!):=fun i hin=>by unfold Zv;rw[zf (by omega),qD,Array.getElem?_toList,zbk _ i (by omega),vF (by omega)];rfl
  refine⟨_,S,G,rfl,?_,kA⟩;rw[R];have M7:=kN.set (dr:=dr) U hb o (putCells (fun v:Value=>v) (off*k) (flatK V k (ZM cf xs)) Q) (b.es.take off++Zv cf xs++b.es.drop (off+n)) (by simp[putCells,c2])
   (fun c hc=>by
    rw[qP]at hc;rcases qO.1 hc with hc|hc
    ·exact d.len o c (KA hc)
    rcases qO.1 hc with hc|hc
    ·rw[A];exact B c ((YD hW).mem_iff.1 hc)
    ·exact d.len o c (List.mem_of_mem_drop hc))
   (by have:=Wa b.es (Zv cf xs) off hpl;rw[hsl]at this;rw[this];exact d.fit o)
   (fun i j c C q X=>by
    have hspl:=vo b.es (Zv cf xs) off i hpl;rw[hsl]at hspl;rw[hspl]at q;rw[A];split at q
    ·rename_i hin;rw[Tn _ (by omega)]at q;injection q with q
     subst q;have J:j<k:=by have:=(zj.1 X).1;rw[B _ (kB I _)]at this;exact this
     obtain⟨u,W,L,q3,q4⟩:=l _ j C X;refine⟨u,?_,fun _=>q3,.c q3,q4⟩;obtain⟨i',rfl⟩:∃i',i=off+i':=⟨i-off,by omega⟩;have e1:off+i'-off=i':=by omega
     rw[e1]at L;have e2:(off+i')*k+j=off*k+(i'*k+j):=by rw[yc];omega
     have T:i'*k+j<n*k:=xo (by omega) J;have hcl:off*k+(i'*k+j)<Q.size:=by rw[c2];have:=d.fit o;rw[A]at this;have h5:(off+n)*k<=b.es.length*k:=z7 k hfit;rw[yc]at h5;omega
     rw[e2];unfold putCells;rw[Array.getElem?_mapIdx,vF hcl];simp only[zE,size_flatK,hds];rw[zg ⟨by omega,by omega⟩,show off*k+(i'*k+j)-off*k=i'*k+j by omega,get_flatK _ _ _ _ (by rw[hds];exact T)];have e3:(i'*k+j)/k=i':=by rw[Yi,Nat.mul_add_div h0,Nat.div_eq_of_lt J];rfl
     have e4:(i'*k+j) % k=j:=by rw[Yi,Nat.mul_add_mod,Nat.mod_eq_of_lt J]
     rw[e3,e4,List.getElem!_eq_getElem?_getD,L];rfl
    ·rename_i hin;obtain⟨u,W,L⟩:=c3 i j c C q X;refine⟨u,?_,L⟩;have J:j<k:=by have:=(zj.1 X).1;rw[d.len o c (zT q),A]at this;exact this
     unfold putCells;rw[Array.getElem?_mapIdx,W];simp only[zE,size_flatK,hds];rw[zf];rintro⟨a1,a2⟩;apply hin;constructor
     ·apply Nat.not_lt.1;intro T;have:(i+1)*k<=off*k:=z7 k T;rw[yc]at this;omega
     ·apply Nat.not_le.1;intro hle;have:(off+n)*k<=i*k:=z7 k hle;rw[yc]at this;omega)
  rw[<-Wc V k w _ _ _ c1]at M7;exact M7.trans (kN.grown M7.inv (KV V k w (G id).g (off*k) m (ZM cf xs) D))
 ·cases h
end
end Go.AM
namespace Go.AM
variable{dr:Prop}
def AQ(P:Program)(f e s b:Nat):Prop:=
 (∀w,Calls P f #[.slice none 0 0,.int .i64 0] w fun r c=>r=.returned (.slice none 0 0)/\c=w) /\
 ∀(n:Nat) (w:World),0<n->n*b<=140737488355328->n<=4611686018427387904->Calls P f #[.slice none 0 0,.int .i64 n] w fun r c=>
  ∃cap a,cap<=maxLen/\a.size=cap*s/\r=.returned (.slice (some ⟨w.heap.size,0,none⟩) 0 cap)/\c=w.drew.alloc (.cells a e)
theorem AQ.of{P:Program}{c:Go.Shelf.Ren}(L:Lays8.n4 P c){s d:Nat}{z:zb}(hs:qY P (c.t 25)=some s)(e:vH P (c.t 25)=some d)(l:jK P (c.t 25)=some z)(m:z.length=s)(y:0<s):AQ P (c.f 4) (c.t 25) s d:=by
 obtain⟨i,v,g,o,p⟩:=W9 l;obtain⟨i',b,q⟩:=W8 hs;rw[g]at b;injection b with b;subst b;have j:i.bytes=d:=by unfold vH at e;rw[g]at e;simpa using e
 have k:v.cells.size=s:=by have:=(j8 (w:=default) (S:=fun _=>False) p).1;rw[m]at this;simpa using this.symm
 refine⟨fun w=>Any8.slices_Grow_room L none 0 0 0 w (by omega) (by omega) (by omega) (by omega),fun n w A e B=>?_⟩;refine(Any8.slices_Grow_grow L i v g o (by omega) none 0 0 n [] w (by omega) (by omega) (by rw[j];simpa using e) (by omega) (by simp) (fun _=>rfl) (fun a h=>(nomatch h))).mono fun r C u=>?_
 obtain⟨rfl,rfl⟩:=u;rw[zh]at *;have x:n<=grownCap w n 0 (c.t 25):=grownCap_ge _ _ _ _;refine⟨_,_,grownCap_le_maxLen w n 0 (c.t 25) (by unfold maxLen;omega),?_,rfl,rfl⟩;rw[xA,xA,XV,XV,k];simp only[wF,ze,zh,Nat.sub_zero];rw[<-yc];congr 1;omega
def rC(e s a:Nat):AM.Spec:=fun args Y Z=>match args with
 |[.nil,.v (.int .i64 n)]=>if n=0 then some (.nil,Y,Z)else if 0<n/\n*a<=140737488355328/\n<=4611686018427387904 then some (.own Z 0 0,qf Y Z (some ⟨e,s,true,[]⟩),Z+1)else none
 |_=>none
theorem Bz{P:Program}{f e s g:Nat}(l:∃fn,P.funcs[f]?=some fn/\(fn.name== "runtime.NumGoroutine")=false/\fn.body.isNone=false)(o:qY P e=some s)(j:0<s)(h:AQ P f e s g):wO dr P f (rC e s g):=by
 refine⟨l,?_⟩;intro args Y Z r Q R a w S G vs z C;unfold rC at a;split at a
 ·rename_i n;obtain⟨u,us,rfl,D,d⟩:=C.jX;obtain⟨v,us,rfl,E,d⟩:=d.jX;obtain rfl:=d.Y8;obtain rfl:=D.ZV;obtain⟨rfl,_⟩:=E.yn;split at a
  ·rename_i F;subst F;injection a with a
   injection a with p a;injection a with q t;subst p;subst q;subst t;refine(h.1 w).mono fun r H x=>?_
   obtain⟨rfl,rfl⟩:=x;exact⟨_,_,_,rfl,.refl z,.c .nil⟩
  ·split at a
   ·rename_i I A;injection a with a
    injection a with p a;injection a with q t;subst p;subst q;subst t;obtain⟨m,rfl⟩:∃m:Nat,n=m:=⟨n.toNat,by omega⟩;refine(h.2 m w (by omega) (Int.ofNat_le.1 (by rw[Int.natCast_mul];exact A.2.1)) (by have:=A.2.2;omega)).mono fun r H x=>?_
    obtain⟨cap,b,J,K,rfl,rfl⟩:=x;have B:=kN.drew (dr:=dr) z;obtain⟨i,y,k⟩:=W8 o;have L:=kN.alloc (dr:=dr) B.inv b e true [] s j (by rw[y];simp[k]) (by simp) (by simp) (by simp);refine⟨_,_,_,rfl,B.trans L,?_⟩;have:=qw.own (w:=w.drew.alloc (.cells b e)) (S:=S) (G:=qf G Z ⟨w.drew.heap.size,b.size,s⟩) (Z:=Z+1) (id:=Z) (off:=0) (n:=0) (cap:=cap) (by omega) (by omega) J (by rw[wR];show(0+cap)*s=b.size;rw[K,zh]) (by rw[wR];exact j);rw[wR]at this;have N:0*s=0:=zbm s;simp only[N]at this;exact this
   ·cases a
 ·cases a
theorem qN.Il{P:Program}{Y:Hp}{Z e s b:Nat}{v:O}{xs:List zb}{ys:List zb}{z:zb}{t:TypeId}(h:qN Y Z e s v xs)(c:y2 P t=some e)(hs:qY P e=some s)(d:vH P e=some b)(f:jK P e=some z)
  (a:z.length=s) (g:0<s) (i:xs.length+ys.length<=maxLen) (j:(xs.length+ys.length)*b<=140737488355328) :
  ∃l m k,jF P Y Z t t v (.sl s ys)=some (l,m,k)/\qN m k e s l (xs++ys)/\Z<=k:=by
 rcases h with⟨rfl,rfl⟩|⟨id,hid,rfl,o⟩
 ·simp at i j;by_cases n:ys=[]
  ·subst n;exact⟨.nil,Y,Z,by simp[jF,c,hs,d,f,a,g,AM.view,maxLen],.inl ⟨rfl,rfl⟩,zk _⟩
  ·exact⟨.own Z 0 ys.length,_,Z+1,by simp[jF,c,hs,d,f,a,g,i,j,AM.view,n];rfl,.inr ⟨Z,by omega,by simp,by simp⟩,by omega⟩
 ·exact⟨.own Z 0 (xs.length+ys.length),_,Z+1,by simp[jF,c,hs,d,f,a,g,i,j,AM.view,o];rfl,.inr ⟨Z,by omega,by simp,by simp⟩,by omega⟩
variable{dr:Prop}
section
variable{C:Ctx}{pf:FuncId->Bool}{N:Nat}
def Wp(dr:Prop)(C:Ctx)(N:Nat)(c:Code)(st:St)(K:Exit->St->Prop):Prop:=
 ∀(d:World) (g L:Nat->Prop) (h:Nat) (i:Nat->GI) (f:Nat) (a:Act) (w:World) (Q:Exit->Act->World->Prop),f<=d.heap.size->jE dr C.P d g L N h i f st a w ->
  (∀e b j k,K e b->jE dr C.P d g L N h i f b j k->Q e j k)->c.wpIn Fence.wide 0 C.P Q a w
theorem Wp.of(b:jH dr C pf){c:Code}{st:St}{K:Exit->St->Prop}(f:vJ pf C.dyn C.M6 C.bk N c=true)(h:Zl C c st K):Wp dr C N c st K:=by obtain⟨e,d,i,j⟩:=h;intro k l L m n o a w Q p hs q;exact ma b.spec b.quiet b.box b.iter b.mixed c f Fence.wide 0 (.inl rfl) (.inl rfl) k l L m n o st d e a w Q p i hs fun r s g=>q e d r s j g
theorem Wp.mono{c:Code}{st:St}{K f:Exit->St->Prop}(h:Wp dr C N c st K)(g:∀e b,K e b->f e b):Wp dr C N c st f:=
 fun i j L k l m a w Q n hs o=>h i j L k l m a w Q n hs fun e b p q d=>o e b p q (g e b d)
def Hd(dr:Prop)(C:Ctx)(N:Nat)(y:Code)(K:Exit->St->Prop)(e:Exit)(st:St):Prop:=match e with
 | .normal=>Wp dr C N y st K
 |e=>K e st
theorem Wp.seq{x y:Code}{st:St}{K:Exit->St->Prop}(h:Wp dr C N x st (Hd dr C N y K)):Wp dr C N (.seq x y) st K:=by
 intro c d L f g i a w Q j hs k;refine wpIn_seq (h c d L f g i a w _ j hs fun e m n o l b=>?_);cases e<;>first
  |exact l c d L f g i n o Q j b k
  |exact k _ _ _ _ l b
theorem Wp.block{id:Nat}{b:Code}{st:St}{K:Exit->St->Prop}(h:Wp dr C N b st (WL id K)):Wp dr C N (.block id b) st K:=by
 intro j k L l m n a w Q o hs f;refine wpIn_block (h j k L l m n a w _ o hs fun e p q r d c=>?_);cases e with
 |exit i=>
  unfold WL at d;unfold Exit.inBlock;simp only at d⊢;split at d
  ·rename_i g;rw[zg g];exact f _ _ _ _ d c
  ·rename_i g;rw[zf g];exact f _ _ _ _ d c
 |_=>exact f _ _ _ _ d c
theorem Wp.cond{c:Operand}{x y:Code}{st:St}{K:Exit->St->Prop}{b:Bool}(e:get st.M c=some (.v (.bool b)))(h:Wp dr C N (if b=true then x else y) st K):Wp dr C N (.cond c x y) st K:=by intro f g L i j k a w Q l hs m;obtain⟨S,G,d⟩:=hs;obtain⟨n,_⟩:=(Jk d.Zq e).yn;exact wpIn_cond n (h f g L i j k a w Q l ⟨S,G,d⟩ m)
def tK(I:Nat->St->Prop)(n:Nat)(K:Exit->St->Prop)(e:Exit)(st:St):Prop:=match e with
 | .normal=>∃m,m<n/\I m st
 |e=>K e st
theorem Wp.loop{b:Code}{st:St}{K:Exit->St->Prop}(I:Nat->St->Prop)(n:Nat)(q:I n st)(h:∀n st,I n st->Wp dr C N b st (tK I n K)):Wp dr C N (.loop b) st K:=by
 intro i j L l o p a w Q r hs s;refine wpIn_loop_rounds (n+1) ?_;have f:∀(k n:Nat) (st:St) (a:Act) (w:World),n<k->I n st->jE dr C.P i j L N l o p st a w->Code.roundsIn Fence.wide 0 C.P b Q k a w:=by
  intro k
  induction k with
  |zero=>intro n st a w t;omega
  |succ k u=>
   intro n st a w t v hs;rw[roundsIn_succ];refine h n st v i j L l o p a w _ r hs fun e g x y c d=>?_
   cases e with
   |normal=>obtain⟨m,A,z⟩:=c;exact u m g x y (by omega) z d
   |_=>exact s _ _ _ _ c d
 exact f _ n st a w (by omega) q hs
def Jd(dr:Prop)(C:Ctx)(N:Nat)(c:Array Oper)(l:List Nat)(st:St)(K:St->Prop):Prop:=
 ∀(d:World) (e L:Nat->Prop) (f:Nat) (g:Nat->GI) (h:Nat) (a:Act) (w:World) (Q:Exit->Act->World->Prop),jE dr C.P d e L N f g h st a w ->
  (∀b i j,K b->jE dr C.P d e L N f g h b i j->Q .normal i j)->wpOpsIn Fence.wide 0 C.P c Q l a w
theorem Wp.region{id:Nat}{b:Array Oper}{st:St}{K:Exit->St->Prop}(h:Jd dr C N b (List.range b.size) st (Wr K)):Wp dr C N (.region id b false) st K:=
 fun e f L g i j a w Q _ hs k=>wpIn_region (h e f L g i j a w Q hs fun c l m n d=>k .normal c l m n d)
theorem Jd.nil{b:Array Oper}{st:St}{K:St->Prop}(h:K st):Jd dr C N b [] st K:=fun d e L f g i a w Q hs c=>c st a w h hs
theorem Jd.cons(T:jH dr C pf){k:Array Oper}{i:Nat}{o:Oper}{l:List Nat}{st q:St}{K:St->Prop}(U:k[i]?=some o)(hd:∀d,o.dst=some d->d<N)(j:y9 C k o st=some q)(h:Jd dr C N k l q K):Jd dr C N k (i::l) st K:=by
 intro r s L t u z a w Q hs A;simp only[wpOpsIn,U];obtain⟨S,G,m⟩:=hs;unfold y9 at j;rw[cJ m.Zq];split at j
 ·rename_i B;rw[zg B];split at j
  ·rename_i x Y Z n;injection j with j
   subst j;have D:∀c,o.op≠.defer c:=by intro c E;rw[E]at n;simp[qb]at n
   refine⟨fun f _=>trivial,?_⟩;rw[Oper.semAt_eq _ _ _ D];have F:=cF T.spec m.inv (a:=a.eval) (fun y pv W=>Jk m.Zq W) (o:=o) n;rcases F with⟨v,H,I,J,p,P,R⟩|⟨g,vs,p,E⟩
   ·have b:=h r s L t u z _ H Q ⟨I,J,m.step P R hd⟩ A;rcases p with p|⟨p,rfl⟩
    ·rw[p];exact b
    ·rw[p];exact b
   ·rw[p];refine⟨fun h=>by simp[Fence.wide]at h,oO.2 (E.mono fun e H X=>?_)⟩;obtain⟨v,I,J,rfl,P,R⟩:=X;exact h r s L t u z _ H Q ⟨I,J,m.step P R hd⟩ A
  ·cases j
 ·rename_i B;rw[zf B];injection j with j
  subst j;exact⟨fun f _=>trivial,h r s L t u z _ w Q ⟨S,G,m.step (.refl m.inv) kA hd⟩ A⟩
end
section
variable{P:Program}{w:World}{S:Nat->Prop}{G:Nat->GI}{Y:Hp}{Z:Nat}
end
section
variable{C:Ctx}{pf:Nat->Bool}{f:FuncId}{fn:Func}{code:Code}
theorem BA{st:St}{a:Act}{w:World}{S:Nat->Prop}{G:Nat->GI}(l:Inv C.P w S G st.Y st.Z)(f:∀t,qw w S G st.Z (st.M t) (a.tmps.getD t undef)){r:O}(h:xI C.P fn st=some r):∃v,(results fn a.tmps).run C.P w=.ok v w/\qw w S G st.Z r v:=by
 unfold xI at h;have go:∀xs,yB (fn.results.toList.map (W7 C.P st))=some xs->r=(match xs with|[x]=>x|xs=>.wL xs)->∃v,(results fn a.tmps).run C.P w=.ok v w/\qw w S G st.Z r v:=by
  intro xs g b;obtain⟨us,m,c⟩:=JK l f g;have e:(results fn a.tmps).run C.P w=.ok (if h:us.toArray.size=1 then us.toArray[0]else .tuple us.toArray) w:=by unfold results;rw[Array.mapM_eq_mapM_toList];simp only[vO,Sem.run_map];erw [m];rfl
  refine⟨_,e,?_⟩
  match xs,c,b with
  |[],c,b=>rw[c.Y8];subst b;exact .wL rfl (by simp)
  |[y],c,b=>obtain⟨u,rfl,i⟩:=Jp c;subst b;simpa using i
  |y::z::ys,c,b=>have k:=c.1;subst b;rw[dif_neg (by simp at k⊢;omega)];exact .wL (by simpa using k) (fun j n u o i=>c.2 j n u o (by simpa using i))
 split at h
 ·rename_i y p;injection h with h
  exact go [y] p h.symm
 ·rename_i xs d g;injection h with h
  refine go xs g ?_;rw[<-h]
  match xs,d with
  |[],_=>rfl
  |[y],d=>exact(d y rfl).elim
  |y::z::ys,_=>rfl
 ·cases h
theorem V5(z:C.P.funcs[f]?=some fn)(A:fn.body=some code){args:zb}{Y:Hp}{Z:Nat}{R:O->Hp->Nat->Prop}(hW:Wp dr C fn.ntmps code ⟨km args,Y,Z⟩ (KO C.P fn R))
  {w:World} {S:Nat->Prop} {G:Nat->GI} {vs:List Value} (hi:Inv C.P w S G Y Z) (B:Zip (qw w S G Z) args vs) (hn:args.length<=fn.ntmps) :
  Calls C.P f vs.toArray w fun e k=>∃x q m v d g,R x q m/\e=.returned v/\kN dr C.P Y Z S G w q m d g k/\qw k d g m x v:=by
 refine oO.1 (callsIn_of_wp_marks (n:=0) z A trivial ?_);have s:jE dr C.P w S (kn Y G) fn.ntmps Z G w.heap.size ⟨km args,Y,Z⟩ {tmps:=vs.toArray++Array.replicate (fn.ntmps-vs.toArray.size) undef,defers:=[]} w:=by
  refine⟨S,G,hi,fun t=>?_,?_,.nil (zk _),fun _ h=>h,fun _ h=>.inl h,fun id b i=>.inl ⟨id,b,i,rfl⟩,Fr.refl _ _,zk _,fun _ _=>rfl⟩
  ·have E:vs.length=args.length:=B.1.symm;unfold km;by_cases ht:t<args.length
   ·have p:args[t]?=some args[t]:=zo ht;have X:vs[t]?=some (vs[t]'(by omega)):=zo (by omega);have h3:=B.2 t _ _ p X;have F:(vs.toArray++Array.replicate (fn.ntmps-vs.toArray.size) undef)[t]?=vs[t]?:=by rw[D5 (by simpa using(by omega:t<vs.length))];simp
    simp only[p,WJ];rw[JD,F,X];exact h3
   ·have p:args[t]?=none:=wq (by omega);have F:(vs.toArray++Array.replicate (fn.ntmps-vs.toArray.size) undef).getD t undef=undef:=by rw[JD,Array.getElem?_append_right (by simpa using(by omega:vs.length<=t)),Array.getElem?_replicate];split<;>rfl
    simp only[p,Option.getD_none];rw[F];exact kA
  ·have E:vs.length=args.length:=B.1.symm;simp;omega
 refine hW w S (kn Y G) Z G w.heap.size _ w _ (zk _) s fun e st H w1 c I=>?_
 obtain⟨d,g,a⟩:=I;obtain⟨hd0,Ds,J,K,j⟩:=a.defers;have L:(e=.normal\/e=.ret)/\∃r,xI C.P fn st=some r/\R r st.Y st.Z:=by
  cases e<;>first
   |exact⟨.inl rfl,c⟩
   |exact⟨.inr rfl,c⟩
   |exact c.elim
 obtain⟨L,r,N,hR⟩:=L;have u:LeavesInM Fence.wide 0 C.P fn H.tmps (fun e k=>∃x q m v d g,R x q m/\e=.returned v/\kN dr C.P Y Z S G w q m d g k/\qw k d g m x v) H.defers .returning w1:=by
  rw[J];refine KP (dr:=dr) Ds w1 K (fun D hD=>(j D hD).2.1) fun k o=>?_
  have y:∀b,b∈Ds->VO d g st.Y b:=fun b i=>⟨(j b i).2.2.1,(j b i).2.2.2⟩
  have l:=a.inv.frame o y;have Q:∀t,qw k d g st.Z (st.M t) (H.tmps.getD t undef):=fun t=>(a.Zq t).mono (fun b i=>⟨i,o.block b (a.inv.st b i) fun T=>(y b T).1 i⟩) (zk _) (fun _ _=>rfl)
  have hk:kN dr C.P Y Z S G w st.Y st.Z d g k:=⟨l,a.up,a.loc,a.s0,a.s1,a.own,a.fr.trans o fun b i p=>by have:=(j b p).1;omega⟩;obtain⟨v,U,W⟩:=BA l Q N;exact⟨v,U,r,_,_,v,d,g,hR,rfl,hk,W⟩
 rcases L with rfl|rfl
 ·exact u
 ·exact u
theorem cP(i:C.P.funcs[f]?=some fn)(t:(fn.name== "runtime.NumGoroutine")=false)(j:fn.body=some code)(l:Bool)(X:List Nat)(F:zb->Option O)(hF:∀args r,F args=some r->args.length<=fn.ntmps/\Wp dr C fn.ntmps code ⟨km args,fun _=>none,0⟩ (KO C.P fn (gx r))):wO dr C.P f (zn l X F):=by
 refine⟨⟨fn,i,t,by rw[j];rfl⟩,?_⟩;intro args Y Z r Y' Z' h w S G vs Q hz;unfold zn at h;split at h
 ·rename_i avs Y1 u;split at h
  ·rename_i r0 y;obtain⟨hn,hW⟩:=hF _ r0 y;obtain⟨S1,s,z,A⟩:=js (dr:=dr) Q u hz;refine(V5 i j hW (X4 (fun _=>⟨0,0,0⟩) s.inv.st s.inv.eC) (Ql z).closed hn).mono fun e R hh=>?_
   obtain⟨x,hpe,nxe,v,S',G',⟨r1,m,B⟩,T,k,hx⟩:=hh;have U:Fr dr w (fun _=>False) R:=⟨k.fr.os,k.fr.tape,k.fr.output,k.fr.size,k.fr.drawn,fun b d _=>k.fr.block b d vR⟩;obtain⟨⟨r2,hpf⟩,D,n⟩:=zU m;simp only at n;subst n;obtain⟨S2,W,E⟩:=Za (dr:=dr) k.inv D hx;have H:=tE E B;have o:∀b,S2 b->S1 b\/(w.heap.size<=b/\b<R.heap.size):=by
    intro b d;have p:=W.inv.st b d;rcases W.from_ b d with h1|⟨id,blk,h1,rfl⟩|h1
    ·rcases k.from_ b h1 with a|a|a
     ·exact .inl a
     ·exact(vR a).elim
     ·exact .inr ⟨a,p⟩
    ·rcases k.own id blk h1 with a|a
     ·exact(vR a).elim
     ·exact .inr ⟨a,p⟩
    ·exact absurd h1 (by omega)
   split at h
   ·rename_i g;injection h with h
    injection h with I h;injection h with J K;subst I;subst J;subst K;refine⟨v,_,G,T,kN.outer Q U,.c ?_⟩;rcases g with L|N
    ·exact cK H L
    ·have q:=A N;exact H.mono fun b d=>⟨by rw[<-q];exact o b d,rfl⟩
   ·split at h
    ·injection h with h;injection h with I h;injection h with J K;subst I;subst J;subst K;exact⟨v,_,G,T,s.trans (kN.outer s.inv U),.c (H.mono fun b d=>⟨o b d,rfl⟩)⟩
    ·cases h
  ·cases h
 ·cases h
theorem KW(b:bt C pf f fn code)(a:Bool)(c:List Nat)(F:zb->Option O)(d:∀args r,F args=some r->args.length<=fn.ntmps/\Wp dr C fn.ntmps code ⟨km args,fun _=>none,0⟩ (KO C.P fn (gx r))):wO dr C.P f (zn a c F):=
 cP b.func b.name b.body a c F d
end
variable{dr:Prop}
def eO:Op->Bool
 | .move _|.assign _|.pick _ _ _|.load _ _|.binOp _ _ _ _ _|.unOp _ _ _|.convert _ _ _|.fieldAddr _ _ _|.field _ _ _|.indexAddr _ _ _|.index _ _ _|.extract _ _=>true
 | .slice _ _ _ _ none=>true
 | .call c=>match c.callee with
  | .builtin .len=>true
  | .builtin .min=>true
  | .builtin .max=>true
  |_=>false
 |_=>false
def tL(C:Ctx)(st:St)(op:Op):Option O:=(qb C (get st.M) st.Y st.Z op).map (·.1)
theorem V6{o:Option O}{Y:Hp}{Z:Nat}:(o.map fun y=>(y,Y,Z))=((o.map fun y=>(y,Y,Z)).map (·.1)).map fun x=>(x,Y,Z):=by cases o<;>rfl
theorem vK{o:Option O}{Y:Hp}{Z:Nat}:(o.bind fun y=>some (y,Y,Z))=((o.bind fun y=>some (y,Y,Z)).map (·.1)).map fun x=>(x,Y,Z):=by cases o<;>rfl
theorem I1{C:Ctx}{st:St}{op:Op}(h:eO op=true):qb C (get st.M) st.Y st.Z op=(tL C st op).map fun x=>(x,st.Y,st.Z):=by
 unfold tL;generalize get st.M=ρ;cases op with
 |move x=>simp only[TC];exact V6
 |assign x=>simp only[IZ];exact V6
 |pick c a b=>simp only[TD];exact V6
 |load t a=>simp only[TF];cases ρ a<;>(try rfl);exact vK
 |binOp op t x y j=>simp only[zcx];cases ρ x<;>cases ρ y<;>(try rfl);exact vK
 |unOp op t x=>simp only[zfG];cases ρ x<;>(try rfl);exact vK
 |convert s d x=>simp only[TE];cases ρ x<;>(try rfl);exact vK
 |fieldAddr t x f=>simp only[tH];cases ρ x<;>(try rfl);exact vK
 |field t x f=>simp only[NQ];cases ρ x<;>(try rfl);exact vK
 |indexAddr t x i=>simp only[tI];cases ρ x<;>cases ρ i<;>(try rfl);exact vK
 |index t x i=>simp only[NR];cases ρ x<;>cases ρ i<;>(try rfl);exact vK
 |extract x i=>simp only[EU];cases ρ x<;>(try rfl);exact vK
 |slice t x k n g=>
  cases g with
  |none=>simp only[NS];cases ρ x<;>(try rfl);exact vK
  |some m=>simp[eO]at h
 |call c=>
  obtain⟨e,args,ts⟩:=c;cases e with
  |builtin b=>
   simp only[EV];cases yB (args.toList.map ρ)with
   |none=>rfl
   |some xs=>
    simp only[Option.bind_eq_bind,zW];cases b<;>(try (simp[eO]at h;done))
    case len=>
     cases xs with
     |nil=>rfl
     |cons x l=>
      cases l with
      |nil=>simp only[TL];cases ts[0]?<;>(try rfl);exact vK
      |cons _ _=>rfl
    case min=>simp only[TM];exact V6
    case max=>simp only[TN];exact V6
  |_=>simp[eO]at h
 |_=>simp[eO]at h
def kY(C:Ctx)(g:FuncId):Prop:=∀a,C.Γ g=some a->QQ a
def vp(C:Ctx)(op:Op):Prop:=∀st:St,qb C (get st.M) st.Y st.Z op=(tL C st op).map fun x=>(x,st.Y,st.Z)
theorem jJ{C:Ctx}{op:Op}(h:eO op=true):vp C op:=fun _=>I1 h
@[simp]theorem zhO(C:Ctx)(g:FuncId)(a:Array Operand)(ts:Array TypeId)(h:kY C g):vp C (.call ⟨.value (.func g),a,ts⟩):=by
 intro st;unfold tL;simp only[TI,NP];cases yB (a.toList.map (get st.M))with
 |none=>rfl
 |some xs=>
  simp only[Option.bind_eq_bind,zW];cases hs:C.Γ g with
  |none=>simp[jO,hs]
  |some b=>
   rw[EW C st.Y st.Z g [] [] xs b hs];cases c:b ([]++xs++[]) st.Y st.Z with
   |none=>rfl
   |some r=>obtain⟨x,d,e⟩:=r;obtain⟨⟨rfl,rfl⟩,_⟩:=h b hs _ _ _ _ _ _ c;rfl
theorem jo{P:Program}{l:Je}{g:Nat}{a:AM.Spec}(h:lookup l g=some a)(b:QQ a):kY (qj P l) g:=fun s hs=>by
 have:lookup l g=some s:=hs;rw[h]at this;injection this with this
 exact this ▸ b
@[simp]theorem zhP(C:Ctx)(x:Operand):vp C (.move x):=jJ rfl
@[simp]theorem zeU(C:Ctx)(x:Operand):vp C (.assign x):=jJ rfl
@[simp]theorem zhQ(C:Ctx)(c a b:Operand):vp C (.pick c a b):=jJ rfl
@[simp]theorem zhR(C:Ctx)(t:TypeId)(x:Operand):vp C (.load t x):=jJ rfl
@[simp]theorem zil(C:Ctx)(o:BinOp)(t a:TypeId)(x y:Operand):vp C (.binOp o t x y a):=jJ rfl
@[simp]theorem ziR(C:Ctx)(o:UnOp)(t:TypeId)(x:Operand):vp C (.unOp o t x):=jJ rfl
@[simp]theorem zhS(C:Ctx)(t u:TypeId)(x:Operand):vp C (.convert t u x):=jJ rfl
@[simp]theorem ziS(C:Ctx)(t:TypeId)(x:Operand)(f:Nat):vp C (.fieldAddr t x f):=jJ rfl
@[simp]theorem ziT(C:Ctx)(t:TypeId)(x:Operand)(f:Nat):vp C (.field t x f):=jJ rfl
@[simp]theorem ziU(C:Ctx)(t:TypeId)(x i:Operand):vp C (.indexAddr t x i):=jJ rfl
@[simp]theorem ziV(C:Ctx)(t:TypeId)(x i:Operand):vp C (.index t x i):=jJ rfl
@[simp]theorem ziW(C:Ctx)(x:Operand)(i:Nat):vp C (.extract x i):=jJ rfl
@[simp]theorem ziX(C:Ctx)(t:TypeId)(x:Operand)(a b:Option Operand):vp C (.slice t x a b none):=jJ rfl
@[simp]theorem zim(C:Ctx)(a:Array Operand)(ts:Array TypeId):vp C (.call ⟨.builtin .len,a,ts⟩):=jJ rfl
@[simp]theorem zin(C:Ctx)(a:Array Operand)(ts:Array TypeId):vp C (.call ⟨.builtin .min,a,ts⟩):=jJ rfl
@[simp]theorem zio(C:Ctx)(a:Array Operand)(ts:Array TypeId):vp C (.call ⟨.builtin .max,a,ts⟩):=jJ rfl
def bc{α:Type}(y:Bool)(a b:α):α:=match y with
 |true=>a
 |false=>b
@[simp]theorem zhT{α:Type}(a b:α):bc true a b=a:=rfl
@[simp]theorem zf2{α:Type}(a b:α):bc false a b=b:=rfl
@[simp]theorem ziq{α:Type}(y:Bool)(a b:α):bc (!y) a b=bc y b a:=by cases y<;>rfl
@[simp]theorem zhU{α:Type}(y:Bool)(a:α):bc y a a=a:=by cases y<;>rfl
def bx(y:Bool):Bool:=y
@[simp]theorem zhV:bx true=true:=rfl
@[simp]theorem zf3:bx false=false:=rfl
@[simp]theorem zir{α:Type}(y:Bool)(a b c:α):bc y (bc y a b) c=bc y a c:=by cases y<;>rfl
@[simp]theorem zis{α:Type}(y:Bool)(a b c:α):bc y a (bc y b c)=bc y a c:=by cases y<;>rfl
def o8(C:Ctx)(st:St)(op:Op)(y:Option Bool)(b:Bool):Option O:=if y=some b then tL C st op else some (.wL [])
section
variable(C:Ctx)(d:Option Tmp)(op:Op)(st:St)
theorem mg(y:Option Bool)(b:Bool)(h:vp C op):Zr C d op st y b=(o8 C st op y b).map fun x=>⟨put st.M d x,st.Y,st.Z⟩:=by
 unfold Zr o8;rw[h st];split
 ·cases tL C st op<;>rfl
 ·rfl
@[simp low] theorem zcH(y b:Bool)(h:vp C op):Zr C d op st (some y) b=(o8 C st op (some y) b).map fun x=>⟨put st.M d x,st.Y,st.Z⟩:=mg C d op st _ b h
@[simp]theorem zf4(y:Bool)(p q:Option Bool)(b:Bool)(h:vp C op):Zr C d op st (bc y p q) b=(o8 C st op (bc y p q) b).map fun x=>⟨put st.M d x,st.Y,st.Z⟩:=mg C d op st _ b h
@[simp]theorem zhW(y:Bool)(p q:Option Bool)(b:Bool):o8 C st op (bc y p q) b=bc y (o8 C st op p b) (o8 C st op q b):=by cases y<;>rfl
@[simp]theorem zeV(b:Bool):o8 C st op none b=some (.wL []):=rfl
@[simp]theorem zit(y:Bool):o8 C st op (some y) true=bc (bx y) (tL C st op) (some (.wL [])):=by cases y<;>rfl
@[simp]theorem ziu(y:Bool):o8 C st op (some y) false=bc (bx y) (some (.wL [])) (tL C st op):=by cases y<;>rfl
end
@[simp]theorem zeW(y:Bool)(a b:O):V1 (bc y a b)=bc y (V1 a) (V1 b):=by cases y<;>rfl
@[simp]theorem zhX{α:Type}(y:Bool)(a b:α):bc y (some a) (some b)=some (bc y a b):=by cases y<;>rfl
@[simp]theorem zf5(y z:Bool)(w:O):YC (some (.v (.bool y))) (some (bc (bx y) (.v (.bool z)) w)) (some (.v (.bool false)))=some (.v (.bool (y&&z))):=by cases y<;>rfl
@[simp]theorem zhY(y z:Bool)(w:O):YC (some (.v (.bool y))) (some (.v (.bool true))) (some (bc (bx y) w (.v (.bool z))))=some (.v (.bool (y||z))):=by cases y<;>rfl
@[simp]theorem zf6{α:Type}(y c:Bool)(a b d0 d:α):bc y (bc c (bc y a b) d) d0=bc y (bc c a d) d0:=by cases y<;>rfl
@[simp]theorem zf7{α:Type}(y c:Bool)(a b d0 d:α):bc y (bc c d (bc y a b)) d0=bc y (bc c d a) d0:=by cases y<;>rfl
@[simp]theorem zf8{α:Type}(y c:Bool)(a b d e:α):bc y d (bc c (bc y a b) e)=bc y d (bc c b e):=by cases y<;>rfl
@[simp]theorem zf9{α:Type}(y c:Bool)(a b d e:α):bc y d (bc c e (bc y a b))=bc y d (bc c e b):=by cases y<;>rfl
@[simp]theorem zga{α:Type}(y c d:Bool)(a b d0 e f:α):bc y (bc c (bc d (bc y a b) f) e) d0=bc y (bc c (bc d a f) e) d0:=by cases y<;>rfl
@[simp]theorem zgb{α:Type}(y c d:Bool)(a b d0 e f:α):bc y (bc c (bc d f (bc y a b)) e) d0=bc y (bc c (bc d f a) e) d0:=by cases y<;>rfl
@[simp]theorem zgc{α:Type}(y c d:Bool)(a b d0 e f:α):bc y (bc c e (bc d (bc y a b) f)) d0=bc y (bc c e (bc d a f)) d0:=by cases y<;>rfl
@[simp]theorem zgd{α:Type}(y c d:Bool)(a b d0 e f:α):bc y (bc c e (bc d f (bc y a b))) d0=bc y (bc c e (bc d f a)) d0:=by cases y<;>rfl
@[simp]theorem zge{α:Type}(y c d:Bool)(a b e f g:α):bc y e (bc c (bc d (bc y a b) g) f)=bc y e (bc c (bc d b g) f):=by cases y<;>rfl
@[simp]theorem zeX{α:Type}(y c d:Bool)(a b e f g:α):bc y e (bc c (bc d g (bc y a b)) f)=bc y e (bc c (bc d g b) f):=by cases y<;>rfl
@[simp]theorem zeY{α:Type}(y c d:Bool)(a b e f g:α):bc y e (bc c f (bc d (bc y a b) g))=bc y e (bc c f (bc d b g)):=by cases y<;>rfl
@[simp]theorem zeZ{α:Type}(y c d:Bool)(a b e f g:α):bc y e (bc c f (bc d g (bc y a b)))=bc y e (bc c f (bc d g b)):=by cases y<;>rfl
section
variable(P:Program)(C:Ctx)(Y:Hp)(Z:Nat)(t u:TypeId)(y:Bool)(a b:O)
@[simp]theorem zhZ:xn P Y t (bc y a b)=bc y (xn P Y t a) (xn P Y t b):=by cases y<;>rfl
@[simp]theorem zh0(o:BinOp)(x:O):Qi P o t (bc y a b) x=bc y (Qi P o t a x) (Qi P o t b x):=by cases y<;>rfl
@[simp]theorem zh1(o:BinOp)(x:O):Qi P o t x (bc y a b)=bc y (Qi P o t x a) (Qi P o t x b):=by cases y<;>rfl
@[simp]theorem zgf(c:Bool)(o:BinOp)(x:O):VP c P o t (bc y a b) x=bc y (VP c P o t a x) (VP c P o t b x):=by cases y<;>rfl
@[simp]theorem zgg(c:Bool)(o:BinOp)(x:O):VP c P o t x (bc y a b)=bc y (VP c P o t x a) (VP c P o t x b):=by cases y<;>rfl
@[simp]theorem ziY(o:UnOp):Tb o (bc y a b)=bc y (Tb o a) (Tb o b):=by cases y<;>rfl
@[simp]theorem zh2:aP P t u (bc y a b)=bc y (aP P t u a) (aP P t u b):=by cases y<;>rfl
@[simp]theorem T0(f:Nat):jh P t f (bc y a b)=bc y (jh P t f a) (jh P t f b):=by cases y<;>rfl
@[simp]theorem zbL(f:Nat):xg P t f (bc y a b)=bc y (xg P t f a) (xg P t f b):=by cases y<;>rfl
@[simp]theorem Tg(x:O):qS P Y t (bc y a b) x=bc y (qS P Y t a x) (qS P Y t b x):=by cases y<;>rfl
@[simp]theorem Th(x:O):qS P Y t x (bc y a b)=bc y (qS P Y t x a) (qS P Y t x b):=by cases y<;>rfl
@[simp]theorem ze0(x:O):QU P t (bc y a b) x=bc y (QU P t a x) (QU P t b x):=by cases y<;>rfl
@[simp]theorem ze1(x:O):QU P t x (bc y a b)=bc y (QU P t x a) (QU P t x b):=by cases y<;>rfl
@[simp]theorem ziv:JF P t (bc y a b)=bc y (JF P t a) (JF P t b):=by cases y<;>rfl
@[simp]theorem zfa(c d:Option (Option O)):yZ P Y t (bc y a b) c d=bc y (yZ P Y t a c d) (yZ P Y t b c d):=by cases y<;>rfl
@[simp]theorem zfb(x:O)(c:Option (Option O)):yZ P Y t x (some (some (bc y a b))) c=bc y (yZ P Y t x (some (some a)) c) (yZ P Y t x (some (some b)) c):=by cases y<;>rfl
@[simp]theorem zfc(x:O)(c:Option (Option O)):yZ P Y t x c (some (some (bc y a b)))=bc y (yZ P Y t x c (some (some a))) (yZ P Y t x c (some (some b))):=by cases y<;>rfl
@[simp]theorem zcI(i:Nat):J2 i (bc y a b)=bc y (J2 i a) (J2 i b):=by cases y<;>rfl
@[simp]theorem zgh(p q:Option O):YC (some (bc y a b)) p q=bc y (YC (some a) p q) (YC (some b) p q):=by cases y<;>rfl
@[simp low] theorem zgi(p q:Option O):YC p (some (bc y a b)) q=bc y (YC p (some a) q) (YC p (some b) q):=by cases y<;>rfl
@[simp low] theorem zgj(p q:Option O):YC p q (some (bc y a b))=bc y (YC p q (some a)) (YC p q (some b)):=by cases y<;>rfl
@[simp]theorem zgk(c:Bool)(d:List Nat)(F:zb->Option O)(l:zb):zn c d F (bc y a b::l) Y Z=bc y (zn c d F (a::l) Y Z) (zn c d F (b::l) Y Z):=by cases y<;>rfl
@[simp]theorem zgl(c:Bool)(d:List Nat)(F:zb->Option O)(x:O)(l:zb):zn c d F (x::bc y a b::l) Y Z=bc y (zn c d F (x::a::l) Y Z) (zn c d F (x::b::l) Y Z):=by cases y<;>rfl
@[simp]theorem zgm(c:Bool)(d:List Nat)(F:zb->Option O)(x z:O)(l:zb):zn c d F (x::z::bc y a b::l) Y Z=bc y (zn c d F (x::z::a::l) Y Z) (zn c d F (x::z::b::l) Y Z):=by cases y<;>rfl
end
@[simp]theorem ziw{α c:Type}(y:Bool)(f:α->c)(a b:Option α):(bc y a b).map f=bc y (a.map f) (b.map f):=by cases y<;>rfl
@[simp]theorem zh3{α c:Type}(y:Bool)(f:α->Option c)(a b:Option α):(bc y a b).bind f=bc y (a.bind f) (b.bind f):=by cases y<;>rfl
attribute [simp] tL
variable{dr:Prop}
def rD(k:Nat)(D:List (Tmp×Tmp))(i:Nat):List (Tmp×Tmp):=if i=k then D else[]
@[simp]theorem zcJ(P:Program)(l:Je)(k:Nat)(D:List (Tmp×Tmp))(i:Nat):(vS P l (rD k D)).dyn i=if i=k then D else[]:=rfl
@[simp]theorem NX(P:Program)(l:Je)(k:Nat)(D:List (Tmp×Tmp))(i:Nat)(a:Array Oper)(d:Bool)(st:St)(K:Exit->St->Prop)(h:¬i=k):Zl (vS P l (rD k D)) (.region i a d) st K=iV (vS P l (rD k D)) a a.toList st (Wr K):=ZZ _ i a d st K (by simp[h]) rfl
theorem mh{a b:Tmp}{st:St}{id i j id' i' j':Nat}{blk:Blk}(d:st.M a=.ref id i j)(e:st.M b=.ref id' i' j')(f:id≠id')(g:st.Y id'=some blk)(h:blk.arr=false):Qg [(a,b)] st:=by
 intro p Y;obtain rfl:=wA.1 Y;intro k l m c;rw[d]at c;injection c with c _ _
 subst c;exact⟨id',i',j',blk,e,f,g,h⟩
theorem mi{w:World}{S:Nat->Prop}{G:Nat->GI}{Z:Nat}:∀{us vs:List Value},(∀u∈us,lit u=true)->Zip (qw w S G Z) (us.map O.v) vs->vs=us
 |[],vs,_,h=>by have:=h.1;simp at this;exact qM.1 this.symm
 |u::us,vs,a,h=>by
  obtain⟨v,b,rfl,d,e⟩:=h.jX;rw[mi (fun x f=>a x (by simp[f])) e];congr 1;cases d with
  |c g=>exact g.yn.1
theorem tM{P:Program}{g:FuncId}{F:zb->Option O}(j:∃fn,P.funcs[g]?=some fn/\(fn.name== "runtime.NumGoroutine")=false/\fn.body.isNone=false)
  (h:∀args r,F args=some r->∃us:List Value,args=us.map O.v/\(∀u∈us,lit u=true)/\∃v,r=.v v/\lit v=true/\∀w,Calls P g us.toArray w fun e q=>e=.returned v/\q=w):wO dr P g (zn false [] F):=by
 refine⟨j,?_⟩;intro args Y Z r J K hs w S G vs s t;unfold zn at hs;split at hs
 ·rename_i k Y1 m;split at hs
  ·rename_i r0 z;obtain⟨us,e,A,v,rfl,B,C⟩:=h _ _ z;have D:yR [] k=k:=by cases k<;>rfl
   rw[D]at e;subst e;have d:args=us.map O.v:=by
    have n:∀(args:zb) (us:List Value) (Y1:Hp),zH Y args=some (us.map O.v,Y1)->args=us.map O.v:=by
     intro args
     induction args with
     |nil=>intro us Y1 b;simp only[zH]at b;injection b with b;injection b with b _
     |cons x l E=>
      intro us Y1 b;simp only[zH]at b;split at b
      ·rename_i y Y2 a;split at b
       ·rename_i L o p;injection b with b
        injection b with b _;cases us with
        |nil=>simp at b
        |cons u us=>
         simp only[wK,zq]at b;obtain⟨rfl,rfl⟩:=b;have H:x=.v u/\Y2=Y:=by
          unfold zO at a;split at a
          ·split at a
           ·injection a with a;injection a with a _;cases a
           ·cases a
          ·unfold qp at a;split at a<;>first
            |(split at a<;>first|(split at a<;>first|(injection a with a;injection a with a _;cases a;done)|cases a)|cases a)
            |(injection a with a;injection a with i f;first|(exact⟨by rw[<-i],f.symm⟩)|cases i)
            |cases a
         obtain⟨rfl,rfl⟩:=H;rw[E us o p];rfl
       ·cases b
      ·cases b
    exact n args us Y1 m
   subst d;simp only[O.flat,true_or,zK]at hs;injection hs with hs
   injection hs with i f;injection f with f I;subst i;subst f;subst I;rw[mi A t];refine(C w).mono fun e q b=>?_
   obtain⟨rfl,rfl⟩:=b;exact⟨v,S,G,rfl,kN.refl s,.c (.v B)⟩
  ·cases hs
 ·cases hs
theorem V7:∀(l cs:zb) (off:Nat),off+l.length<=cs.length->yF cs off l=cs.take off++l++cs.drop (off+l.length)
 |[],cs,off,_=>by simp
 |x::l,cs,off,h=>by
  simp only[zd]at h;rw[yF,V7 l (cs.set off x) (off+1) (by simp;omega)];have b:(cs.set off x).take (off+1)=cs.take off++[x]:=by
   rw[qE (by simp;omega)];have c:(cs.set off x).take off=cs.take off:=by
    apply List.ext_getElem?;intro j;simp only[zX,List.getElem?_set];by_cases a:j<off
    ·simp[a,show¬off=j by omega]
    ·simp[a]
   rw[c];simp
  have d:(cs.set off x).drop (off+1+l.length)=cs.drop (off+(x::l).length):=by rw[List.drop_set_of_lt (by omega)];simp only[zd];congr 1;omega
  rw[b,d];simp
@[simp]theorem NY(z cs:zb)(h:cs.length=z.length):yF z 0 cs=cs:=by rw[V7 cs z 0 (by omega)];simp[h]
@[simp]theorem Ti(x:O)(z cs:zb)(h:cs.length=z.length):yF (x::z) 1 cs=x::cs:=by rw[V7 cs (x::z) 1 (by simp;omega)];simp[show 1+cs.length=z.length+1 by omega]
@[simp]theorem SE(M:Nat->O):AM.get M (.const .nilIface)=some (.v .nilIface):=rfl
section
variable(C:Ctx)(ρ:Operand->Option O)(Y:Hp)(Z:Nat)
def EZ:O->Option O
 | .ref id i j=>some (.ref id i j)
 | .ptr cs=>some (.ptr cs)
 |_=>none
@[simp]theorem zcK(id i j:Nat):EZ (.ref id i j)=some (.ref id i j):=rfl
@[simp]theorem zcL(cs:zb):EZ (.ptr cs)=some (.ptr cs):=rfl
@[simp]theorem zbM(x:Operand):qb C ρ Y Z (.nilCheck x)=(do let p <-ρ x;let r <-EZ p;some (r,Y,Z)):=by
 simp only[qb];cases ρ x with
 |none=>rfl
 |some p=>cases p<;>rfl
end
@[simp]theorem zgn(i:Nat):O.cells (.mp i)=[.mp i]:=rfl
@[simp]theorem zfd(i:Nat):O.ye (.mp i)=true:=rfl
variable{dr:Prop}
def Eo(c:UInt8):zb:=[.v (.int .u8 c.toNat)]
def unBy:List zb->Option za
 |[]=>some []
 |[.v (.int .u8 z)]::l=>if z=(UInt8.ofNat z.toNat).toNat then(unBy l).map (UInt8.ofNat z.toNat::·)else none
 |_=>none
def zcM(U:TypeId)(Y:Hp)(m n:Nat)(c:Blk):Option (za×Hp):=
 if c.e=U/\c.s=1/\c.arr=true then(unBy c.es).bind fun l=>if n=l.length then some (l,qf Y m none)else none else none
def zgo(T U:TypeId)(Y:Hp)(id:Nat)(b:Blk):Option (za×Hp):=
 if b.e=T/\b.s=2/\b.arr=false then match b.es with
  |[[.v (.pointer none),.nil]]=>some ([],Y)
  |[[.ref i 0 0,.own m 0 n]]=>if i=id/\m≠id then(Y m).bind (zcM U Y m n)else none
  |_=>none
 else none
section
variable{P:Program}{w w':World}{S S':Nat->Prop}{G G':Nat->GI}{Y Y':Hp}{Z Z':Nat}
theorem kN.zep{n:World}{j:Nat->Prop}{d:Nat->GI}{Y2:Hp}{e:Nat}(h:kN dr P Y Z S G w Y2 e j d n){id:Nat}{r b:Blk}(u:Y id=some r)(hid:id<Z)(v:kr P n j d e (d id) b)(x:¬j (d id).g)
  (hd:∀k c,Y2 k=some c->k≠id->(d k).g≠(d id).g):kN dr P Y Z S G w (qf Y2 id (some b)) e j d n:=by
 have i:∀k c,qf Y2 id (some b) k=some c->(k=id/\c=b)\/(k≠id/\Y2 k=some c):=by
  intro k c a;by_cases f:k=id
  ·subst f;simp at a;exact .inl ⟨rfl,a.symm⟩
  ·rw[zc _ _ _ _ f]at a;exact .inr ⟨f,a⟩
 have y:=h.up;refine⟨⟨h.inv.st,fun k c a=>?_,fun k c a=>?_,fun k c a=>?_,fun k k' c o a p q=>?_,h.inv.eC⟩,h.up,h.loc,h.Ji,h.from_,fun k c a=>?_,h.fr⟩
 ·rcases i k c a with⟨rfl,_⟩|⟨_,a⟩
  ·omega
  ·exact h.inv.top k c a
 ·rcases i k c a with⟨rfl,rfl⟩|⟨_,a⟩
  ·exact v
  ·exact h.inv.live k c a
 ·rcases i k c a with⟨rfl,rfl⟩|⟨_,a⟩
  ·exact x
  ·exact h.inv.apart k c a
 ·rcases i k c a with⟨l,_⟩|⟨l,s⟩<;>rcases i k' o p with⟨m,_⟩|⟨m,t⟩
  ·rw[l,m]
  ·exact(hd k' o t m (by rw[<-q,l])).elim
  ·exact(hd k c s l (by rw[q,m])).elim
  ·exact h.inv.inj k k' c o s t q
 ·rcases i k c a with⟨rfl,rfl⟩|⟨_,a⟩
  ·exact .inl ⟨k,r,u,by rw[h.loc k hid]⟩
  ·exact h.own k c a
end
structure ziO (T U:TypeId) (Y:Hp) (Z:Nat) (l:List UInt8) (b0:Blk) (K:Hp->Hp):Prop where
 pos:0<Z
 top:∀j b,Y j=some b->j<Z
 at0:Y 0=some b0
 ok:∀h:Hp,(∀j,j<Z->h j=Y j)->zgo T U h 0 b0=some (l,K h)
 Ji:∀(h:Hp) (j:Nat),Z<=j->K h j=h j
section
variable{C:Ctx}{pf:FuncId->Bool}{f:FuncId}{fn:Func}{code:Code}
end
variable{dr:Prop}
def zz(T:TypeId)(cs:zb):Blk:=⟨T,cs.length,false,[cs]⟩
def cellsOf(T:TypeId)(b:Blk):Option zb:=match b.es with
 |[cs]=>if b.e=T/\b.s=cs.length/\b.arr=false/\cs.all O.isV=true then some cs else none
 |_=>none
theorem V8{T:TypeId}{b:Blk}{cs:zb}(h:cellsOf T b=some cs):b=zz T cs/\cs.all O.isV=true:=by
 obtain⟨e,s,a,es⟩:=b;unfold cellsOf at h;simp only at h;split at h
 ·split at h
  ·rename_i c;obtain⟨d,f,g,i⟩:=c;injection h with h
   subst h;subst d;subst f;subst g;exact⟨rfl,i⟩
  ·cases h
 ·cases h
@[simp]theorem gy(T:TypeId)(cs:zb)(h:cs.all O.isV=true):cellsOf T (zz T cs)=some cs:=by simp only[cellsOf,zz];rw[zg ⟨trivial,trivial,trivial,h⟩]
def ie(T:TypeId)(F:zb->zb->Option (zb×O)):AM.Spec:=fun args Y Z=>match args with
 | .ref id 0 0::a=>if a.all O.isV=true then(Y id).bind fun b=>(cellsOf T b).bind fun cs=>(F cs a).bind fun q=>if q.1.length=cs.length/\q.1.all O.isV=true then some (q.2,qf Y id (some (zz T q.1)),Z)else none else none
 |_=>none
theorem cQ{T:TypeId}{F:zb->zb->Option (zb×O)}{id:Nat}{a cs cs':zb}{Y:Hp}{Z:Nat}{r:O}(b:a.all O.isV=true)(c:Y id=some (zz T cs))(d:cs.all O.isV=true)(e:F cs a=some (cs',r))(f:cs'.length=cs.length)(g:cs'.all O.isV=true) :
  ie T F (.ref id 0 0::a) Y Z=some (r,qf Y id (some (zz T cs')),Z):=by
 simp only[ie,zg b,c,zW,gy T cs d,e];rw[zg ⟨f,g⟩]
def ig(T:TypeId)(cs':zb)(r x:O)(a:Hp)(_:Nat):Prop:=∃r0 Y2,AM.freeze a x=some (r0,Y2)/\Y2 0=some (zz T cs')/\∀(w:World) (S:Nat->Prop) (v:Value),wT w S r0 v->wT w S r v
theorem qR{T:TypeId}{cs':zb}{Y:Hp}{Z:Nat}{r:O}(a:AM.freeze Y r=some (r,Y))(h:Y 0=some (zz T cs')):ig T cs' r r Y Z:=⟨r,Y,a,h,fun _ _ _ h=>h⟩
theorem qc{T:TypeId}{cs':zb}{Y Y2:Hp}{Z:Nat}{x r0 r:O}(a:AM.freeze Y x=some (r0,Y2))(h:Y2 0=some (zz T cs')){u:O->O}(b:sX u)(c:u r0=r):ig T cs' r x Y Z:=⟨r0,Y2,a,h,fun w S v d=>c ▸ b w S r0 v d⟩
theorem Zw{e x:Int}(h:¬e=x):(e==x)=false:=by simpa using h
def zZ(T:TypeId)(cs:zb):Hp:=qf (fun _=>none) 0 (some (zz T cs))
theorem T1{x:O}(h:x.isV=true):∃v,x=.v v:=by
 cases x<;>first
  |exact⟨_,rfl⟩
  |cases h
theorem He{w a:World}{S b:Nat->Prop}{G d:Nat->GI}{Z e:Nat}{x:O}{u:Value}(f:x.isV=true)(h:qw w S G Z x u):qw a b d e x u:=by obtain⟨v,rfl⟩:=T1 f;obtain⟨rfl,g⟩:=h.yn;exact .c (.v g)
theorem Hf{P:Program}{w:World}{S n:Nat->Prop}{G o:Nat->GI}{Z p:Nat}{b:GI}{T:TypeId}{cs:zb}(a:0<b.s)(q:cs.all O.isV=true)(h:kr P w S G Z b (zz T cs)):kr P w n o p b (zz T cs):=by
 refine kr.vk a h.bs ⟨h.size a,h.len a,h.fit a,?_⟩;obtain⟨d,r,t,v⟩:=h.row a;refine⟨d,r,t,fun i j c g k l=>?_⟩;obtain⟨u,x,m⟩:=v i j c g k l;have y:c=cs:=by have z:=zT k;simpa[zz]using z
 subst y;have f:=qB.1 q g (zT l);exact⟨u,x,fun e=>by simp[zz]at e,He f m.2.1,m.2.2⟩
section
variable{C:Ctx}{f:FuncId}{fn:Func}{code:Code}
theorem ya(B:C.P.funcs[f]?=some fn)(hkn:(fn.name== "runtime.NumGoroutine")=false)(D:fn.body=some code)(T:TypeId)(F:zb->zb->Option (zb×O))
  (hF:∀cs az cs' r,F cs az=some (cs',r)->az.length+1<=fn.ntmps/\Wp dr C fn.ntmps code ⟨km (.ref 0 0 0::az),zZ T cs,1⟩ (KO C.P fn (ig T cs' r))):wO dr C.P f (ie T F):=by
 refine⟨⟨fn,B,hkn,by rw[D];rfl⟩,?_⟩;intro args Y Z r Y' Z' h w S G vs i hz;unfold ie at h;split at h
 case h_2=>cases h
 rename_i id o;obtain⟨u,us,rfl,hu,E⟩:=hz.jX;split at h
 case isFalse=>cases h
 rename_i t;obtain⟨b,H,h⟩:=yO.1 h;obtain⟨cs,hcs,h⟩:=yO.1 h;obtain⟨⟨cs',r0⟩,hF0,h⟩:=yO.1 h;simp only at h;split at h
 case isFalse=>cases h
 rename_i I;injection h with h
 injection h with e1 h;injection h with e2 e3;subst e1;subst e2;subst e3;obtain⟨rfl,hcv⟩:=V8 hcs;obtain⟨hn,hW⟩:=hF cs o cs' r0 hF0;have z:=hu.aB;obtain⟨hid,rfl⟩:=hu.Wn;have hbr:=i.live id _ H;have W:∀k c,zZ T cs k=some c->k=0/\c=zz T cs:=by
  intro k c a;unfold zZ qf at a;split at a
  ·injection a with a;exact⟨by assumption,a.symm⟩
  ·cases a
 have J:Inv C.P w S (fun _=>G id) (zZ T cs) 1:=⟨i.st,fun k c a=>by rw[(W k c a).1];omega,fun k c a=>by rw[(W k c a).2];exact Hf z hcv hbr,fun k c a=>i.apart id _ H,fun k k' c c' a A _=>by rw[(W k c a).1,(W k' c' A).1],i.eC⟩
 have hz2:Zip (qw w S (fun _=>G id) 1) (.ref 0 0 0::o) (.pointer (some ⟨(G id).g,0*(G id).s+0,none⟩)::us):=
  .cons (qw.ref (G:=fun _=>G id) (id:=0) (by omega) z) ⟨E.1,fun j x u h1 h2=>He (qB.1 t x (zT h1)) (E.2 j x u h1 h2)⟩
 refine(V5 B D hW J hz2 (by simpa using hn)).mono fun e w' hh=>?_
 obtain⟨x,K,nxe,v,S',G',⟨y,Y2,hfz,h0,hup⟩,L,k,hxr⟩:=hh;obtain⟨X,k2,hc⟩:=Za (dr:=dr) k.inv hfz hxr;have d:=k.trans k2;have N:G' 0=G id:=d.loc 0 (by omega);have l:∀b,kn (zZ T cs) (fun _=>G id) b->b=(G id).g:=by rintro b ⟨k,c,a,e⟩;exact e.symm
 have Q:¬X (G id).g:=by rw[<-N];exact d.inv.apart 0 _ h0
 have m:∀b,X b->S b\/w.heap.size<=b:=fun b n=>by
  rcases d.from_ b n with h1|h1|h1
  ·exact .inl h1
  ·rw[l b h1]at n;exact(Q n).elim
  ·exact .inr h1
 have hS:=d.same J;have p:∀k c,qf Y id none k=some c->(G k).g≠(G id).g:=fun k c a L=>by
  have hne:k≠id:=by rintro rfl;simp at a
  exact hne (i.inj k id c _ (vI a) H L)
 have R:kN dr C.P Y Z S G w (qf Y id none) Z X G w':=by
  refine⟨⟨d.inv.st,fun k c a=>i.top k c (vI a),fun k c a=>?_,fun k c a hs2=>?_,fun k k' c c' a A L=>i.inj k k' c c' (vI a) (vI A) L,i.eC.mono hS⟩,zk _,fun _ _=>rfl,d.Ji,fun b n=>?_,fun k c a=>.inl ⟨k,c,vI a,rfl⟩,?_⟩
  ·have hl:=i.live k c (vI a);exact hl.mono hS (zk _) (fun _ _=>rfl) (d.fr.block _ hl.lt fun h=>p k c a (l _ h))
  ·rcases m _ hs2 with h1|h1
   ·exact i.apart k c (vI a) h1
   ·have:=(i.live k c (vI a)).lt;omega
  ·rcases m b n with h1|h1
   ·exact .inl h1
   ·exact .inr (.inr h1)
  ·exact⟨d.fr.os,d.fr.tape,d.fr.output,d.fr.size,d.fr.drawn,fun b oQ hnl=>d.fr.block b oQ fun h=>hnl ⟨id,_,H,(l b h).symm⟩⟩
 have U:=d.inv.live 0 _ h0;rw[N]at U;have q:=R.zep (id:=id) (b:=zz T cs') H hid (Hf z I.2 U) Q fun k c a _=>p k c a
 have K:qf (qf Y id none) id (some (zz T cs'))=qf Y id (some (zz T cs')):=by
  funext j;by_cases h1:j=id
  ·subst h1;simp
  ·rw[zc _ _ _ _ h1,zc _ _ _ _ h1,zc _ _ _ _ h1]
 rw[K]at q;exact⟨v,X,G,L,q,.c (hup _ _ _ hc)⟩
theorem wi{pf:FuncId->Bool}(d:jH dr C pf)(b:bt C pf f fn code)(T:TypeId)(F:zb->zb->Option (zb×O))
  (c:∀cs a cs' r,F cs a=some (cs',r)->a.length+1<=fn.ntmps/\Zl C code ⟨km (.ref 0 0 0::a),zZ T cs,1⟩ (KO C.P fn (ig T cs' r))):wO dr C.P f (ie T F):=
 ya b.func b.name b.body T F fun cs a cs' r h=>⟨(c cs a cs' r h).1,Wp.of d b.ok (c cs a cs' r h).2⟩
end
open Classical in
noncomputable def gz {α:Type} (encC encA:α->zb) (pre:α->Prop) (out:α->zb×O):zb->zb->Option (zb×O):=fun cs b=>
 if h:∃a,cs=encC a/\b=encA a/\pre a then some (out (Classical.choose h))else none
theorem V9{α:Type}{encC encA:α->zb}{pre:α->Prop}{out:α->zb×O}(d:∀a b,encC a=encC b->encA a=encA b->a=b){a:α}(h:pre a):gz encC encA pre out (encC a) (encA a)=some (out a):=by have c:∃b,encC a=encC b/\encA a=encA b/\pre b:=⟨a,rfl,rfl,h⟩;unfold gz;rw[dif_pos c];have:=yK c;rw[<-d _ _ this.1 this.2.1]
theorem X5{α:Type}{encC encA:α->zb}{pre:α->Prop}{out:α->zb×O}{cs c:zb}{r:zb×O}(h:gz encC encA pre out cs c=some r):∃a,cs=encC a/\c=encA a/\pre a/\r=out a:=by
 unfold gz at h;split at h
 ·rename_i b;injection h with h
  have:=yK b;exact⟨_,this.1,this.2.1,this.2.2,h.symm⟩
 ·cases h
def a6(T:TypeId)(F:zb->zb->Option O):AM.Spec:=fun args Y Z=>match args with
 | .ref id 0 0::a=>if a.all O.isV=true then(Y id).bind fun b=>(cellsOf T b).bind fun cs=>(F cs a).map fun r=>(r,Y,Z)else none
 |_=>none
theorem mj{T:TypeId}{F:zb->zb->Option O}{id:Nat}{a cs:zb}{Y:Hp}{Z:Nat}{r:O}(b:a.all O.isV=true)(c:Y id=some (zz T cs))(d:cs.all O.isV=true)(e:F cs a=some r) :
  a6 T F (.ref id 0 0::a) Y Z=some (r,Y,Z):=by
 simp only[a6,zg b,c,zW,gy T cs d,e,zE]
theorem ym(T:TypeId)(F:zb->zb->Option O):QQ (a6 T F):=by
 intro args Y Z r m n h;unfold a6 at h;split at h
 case h_2=>cases h
 rename_i id d;split at h
 case isFalse=>cases h
 rename_i e;obtain⟨b,a,h⟩:=yO.1 h;obtain⟨cs,f,h⟩:=yO.1 h;obtain⟨r0,g,h⟩:=zU h;injection h with i h
 injection h with j k;subst i;subst j;subst k;refine⟨⟨rfl,rfl⟩,fun o l=>?_⟩;have c:id≠Z:=by rintro rfl;rw[l]at a;cases a
 simp only[a6,zg e,zc _ _ _ _ c,a,zW,f,g,zE]
theorem Xa{P:Program}{f:FuncId}{T:TypeId}{F:zb->zb->Option O}(h:wO dr P f (ie T fun cs i=>(F cs i).map fun r=>(cs,r))):wO dr P f (a6 T F):=by
 refine⟨h.1,fun args Y Z r k l e w S G vs m n=>?_⟩;refine h.2 args Y Z r k l ?_ w S G vs m n;unfold a6 at e;split at e
 case h_2=>cases e
 rename_i id a;split at e
 case isFalse=>cases e
 rename_i o;obtain⟨b,c,e⟩:=yO.1 e;obtain⟨cs,p,e⟩:=yO.1 e;obtain⟨r0,q,e⟩:=zU e;injection e with s e
 injection e with t u;subst s;subst t;subst u;obtain⟨rfl,d⟩:=V8 p;rw[cQ (cs':=cs) (r:=r0) o c d (by simp[q]) rfl d];have:qf Y id (some (zz T cs))=Y:=by
  funext j;by_cases g:j=id
  ·subst g;rw[wR,c]
  ·rw[zc _ _ _ _ g]
 rw[this]
theorem NZ{P:Program}{w:World}{S:Nat->Prop}{G:Nat->GI}{Y:Hp}{Z:Nat}(B:Inv P w S G Y Z){d dst e:TypeId}(hs:P.underlying d=some (.slice e))(C:P.underlying e=some (.int .u8))(hd:P.underlying dst=some .string){p:O}{u:Value}{l:za}(D:AM.view Y 1 p=some (l.map Eo))(E:qw w S G Z p u) :
  (convert d dst u).run P w=.ok (.string ⟨l.toArray⟩) w:=by
 obtain⟨A,c,f,rfl,Q,F⟩:=bu B D E;have a:∀i,i<l.length->∃b,A=some b/\w.cell? (b.add i)=some (.int .u8 ((l.getD i 0).toNat:Int)):=fun i k=>by obtain⟨b,H,t,I⟩:=F i 0 (Eo l[i]) (.v (.int .u8 l[i].toNat)) (by simp[k]) rfl;obtain⟨z,_⟩:=I.2.1.yn;refine⟨b,H,?_⟩;rw[Nat.mul_one,Zi]at t z;rw[t,z];simp[List.getD,k]
 rw[yj,run_convert_bytes_string w d dst e _ _ _ hs C hd];cases l with
 |nil=>
  cases A with
  |none=>simp[Conv.bytesToString];rfl
  |some b=>simp[Conv.bytesToString,loadCells,loadCellsFrom];rfl
 |cons x l=>
  obtain⟨b,rfl,_⟩:=a 0 (by simp);have J:(loadCells b (x::l).length).run P w=.ok (((x::l).map fun y=>((y.toNat:Nat):Int)).map (Value.int .u8)).toArray w:=by
   have:=run_loadCells_list (P:=P) w b (((x::l).map fun y=>((y.toNat:Nat):Int)).map (Value.int .u8)) (fun j v o=>by
    have g:j<(x::l).length:=by have:=(zj.1 o).1;simpa using this
    obtain⟨K,q,L⟩:=a j g;injection q with q;subst q;rw[L];rw[qD,qD,zo g]at o;simp only[zE,zY]at o;rw[<-o,List.getD,zo g];rfl)
   simpa using this
  have h:∀(m:za) (s:ByteArray),(m.map fun y=>((y.toNat:Nat):Int)).foldl (fun r n=>r.push (UInt8.ofNat n.toNat)) s=⟨s.data++m.toArray⟩:=by
   intro m
   induction m with
   |nil=>intro s;simp
   |cons n m N=>intro s;rw[wK,ju,N];simp[ByteArray.push]
  rw[run_bytesToString w _ _ _ _ J,h];simp[ByteArray.empty,ByteArray.emptyWithCapacity];rfl
section
variable{C:Ctx}{N:Nat}{pf:FuncId->Bool}
theorem Jd.zch{g:Array Oper}{i:Nat}{d:Tmp}{x:Operand}{b dst e ty:TypeId}{p:String}{r:Array Edge}{l:List Nat}{st:St}{K:St->Prop}{q:O}{s:za}
  (t:g[i]?=some ⟨some d,.convert b dst x,ty,p,r,none⟩) (hd:d<N) (u:get st.M x=some q) (y:AM.view st.Y 1 q=some (s.map Eo)) (hs:C.P.underlying b=some (.slice e)) (z:C.P.underlying e=some (.int .u8)) (A:C.P.underlying dst=some .string)
  (h:Jd dr C N g l ⟨qf st.M d (str s),st.Y,st.Z⟩ K):Jd dr C N g (i::l) st K:=by
 intro B D L E F H a w Q n I;simp only[wpOpsIn,t];obtain⟨S,G,j⟩:=n;rw[cJ j.Zq,zg (VY _ _ _ _ _ _)];have o:∀c,(Op.convert b dst x:Op)≠.defer c:=fun c J=>by cases J
 refine⟨fun f _=>trivial,?_⟩;rw[Oper.semAt_eq _ _ _ o];have R:=NZ j.inv hs z A y (Jk j.Zq u);have k:=h B D L E F H (a.put (some d) (.string ⟨s.toArray⟩)) w Q ⟨S,G,j.step (dst:=some d) (.refl j.inv) (.c (.v rfl)) (fun _ e=>by cases e;exact hd)⟩ I;have m:(execOp a.eval ⟨some d,.convert b dst x,ty,p,r,none⟩).run C.P w=.ok (.value (.string ⟨s.toArray⟩)) w:=by simp[execOp,R,-bind_pure_comp]
 rw[m];exact k
end
end Go.AM
namespace Go.Proofs
open Go.Shelf
def Tryz.D9:Go.Shelf.Ren:=⟨fun|213=>128|265=>185|n=>n,fun|9=>9|3=>3|n=>n,fun|n=>n⟩
theorem Tryz.zbo:Go.Proofs.Lays.n213 prog Tryz.D9:={
 mixed:=by kernel_rfl
 f213:=func128.trans (zp some (by kernel_rfl))
 f265:=func185.trans (zp some (by kernel_rfl))
 t3:=underlying3
 a3:=isAgg3
 z3:=sizeOf3
 v3:=zeroValue3
 t9:=underlying9
 a9:=isAgg9
 z9:=sizeOf9
 v9:=zeroValue9}
open Go.RowKit in
theorem Tryz.bytealg_CompareString(a b:ByteArray)(w:World) :
  Calls prog 128 #[.string a,.string b] w fun e c=>e=.returned (.int .i64 (Lib.compareBytes a.data.toList b.data.toList))/\c=w:=Any.bytealg_CompareString Tryz.zbo a b w
end Go.Proofs
