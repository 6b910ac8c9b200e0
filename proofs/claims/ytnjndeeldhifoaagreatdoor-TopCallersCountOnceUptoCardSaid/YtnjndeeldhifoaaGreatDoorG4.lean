/- Lemmas. -/
import Derived.ProofKit
import Derived.Lib.Strings
import Derived.Carry
import Derived.ChangeSame
import Derived.OpenShut
import Derived.Shelf.Small.Strs
import Derived.Shelf.Strconv.Itoa0
import Derived.Ground.Names2Prog
import Derived.Test.YtnjndeeldhifoaaGreatDoorProg
import Derived.Test.YtnjndeeldhifoaaGreatDoorG3
set_option maxRecDepth 8000
open Go Proofs Proofs.YtnjndeeldhifoaaGreatDoor Proofs.Tryz RowKit AM SpanLaw Q Zz
namespace Go.AM
variable{dr:Prop}
section
variable{C:Ctx}{pf:FuncId->Bool}
theorem QY{w:World}{S:Nat->Prop}{G:Nat->GI}{st:St}{a:Act}(B:Inv C.P w S G st.Y st.Z)(hs:∀t,zW w S G st.Z (st.U t) (a.tmps.getD t undef)) :
  ∀{l:List ResultVar} {xs:zb},wH (l.map (ZN C.P st))=some xs->∃vs,(l.mapM (m:=Sem) fun r=>match r with
   | .tmp t=>pure (a.tmps.getD t undef)
   | .cell p t=>do loadVar t (<-asAddr (a.tmps.getD p undef))).run C.P w=.ok vs w/\Zip (zW w S G st.Z) xs vs
 |[],xs,h=>by
  simp only[NW,wH]at h;injection h with h
  subst h;exact⟨[],by simp,.nil⟩
 |r::l,xs,h=>by
  simp only[z6]at h;cases d:ZN C.P st r with
  |none=>rw[d]at h;simp[wH]at h
  |some p=>
   rw[d]at h;simp only[wH]at h;cases D:wH (l.map (ZN C.P st))with
   |none=>rw[D]at h;simp at h
   |some ys=>
    rw[D]at h;simp at h;subst h;obtain⟨vs,J,K⟩:=QY B hs D;cases r with
    |tmp t=>
     simp only[ZN]at d;injection d with d
     subst d;refine⟨a.tmps.getD t undef::vs,?_,.cons (hs t) K⟩;simp only[List.mapM_cons,kp,Zt,jq,J]
    |cell q t=>
     simp only[ZN]at d;obtain⟨v,w',S',G',N,k,hx⟩:=gp (dr:=True) B d (hs q);have y:=hs q;have E:∃v,(do loadVar t (<-asAddr (a.tmps.getD q undef)):Sem Value).run C.P w=.ok v w/\zW w S G st.Z p v:=by
      unfold kO at d;split at d
      ·rename_i cs f;rw[f]at y;have F:=y.Yx;generalize a.tmps.getD q undef=u at *;cases F with
       |ptr us Q R=>obtain⟨v,z,n⟩:=JB (G:=G) (Z:=st.Z) (w:=w) (S:=S) d _ us (fun j A L=>⟨(Q j A L).2,.c (R j A L)⟩);exact⟨v,by simp[asAddr,z],n⟩
      ·rename_i id i j f;rw[f]at y;have H:=y.V6;obtain⟨hid,T⟩:=y.Zg;rw[T]at N⊢;split at d
       ·rename_i b W;split at d
        ·rename_i c F;obtain⟨o,X,h4,h5⟩:=(B.live id b W).row H;have x:∀k:Nat,w.cell? ((⟨(G id).g,i*(G id).s+j,none⟩:Addr).add k)=o[i*(G id).s+j+k]?:=by intro k;rw[fh,cell_of_row w _ _ o _ _ X]
         obtain⟨v,z,n⟩:=JB (G:=G) (Z:=st.Z) (w:=w) (S:=S) d ⟨(G id).g,i*(G id).s+j,none⟩ (fun k=>(o[i*(G id).s+j+k]?).getD undef) (fun k A M=>by
          rw[wB]at M;obtain⟨u,h6,h7⟩:=h5 i (j+k) c A F M;rw[x];have e:i*(G id).s+j+k=i*(G id).s+(j+k):=by omega
          rw[e,h6];exact⟨rfl,h7.2.1⟩)
         exact⟨v,by simp[asAddr,z],n⟩
        ·cases d
       ·cases d
      ·cases d
     obtain⟨v,z,I⟩:=E;refine⟨v::vs,?_,.cons I K⟩;simp only[List.mapM_cons,kp,z,jq,J,Zt]
theorem WU{P:Program}{fn:Func}{a:Array Value}{R:Ending->World->Prop}:∀(c:List Nat) (w:World),c.Nodup->(∀D∈c,w.heap[D]?=some (.deferred (some [])))->(∀f,Fr dr w (fun b=>b∈c) f->LeavesIn Fence.wide 0 P fn a R [] .returning f)->LeavesInM Fence.wide 0 P fn a R (c.map aR) .returning w
 |[],w,_,_,h=>h w (Fr.refl _ _)
 |D::c,w,i,hd,h=>by
  obtain⟨j,l⟩:=gj.1 i;refine⟨by simp,.inl ⟨D,_,rfl,run_takeDeferred (hd D (by simp)),WU c _ l (fun g d=>?_) fun f m=>h f ?_⟩⟩
  ·exact(zbx (k:=g) (r:=D) fun e=>j (by rw[<-e];exact d)).trans (hd g (by simp[d]))
  ·exact(sQ (.deferred none) (fun b=>b∈D::c) (by simp)).trans m (fun b _ n=>by simp[n])
theorem cK(N:∀g a,C.Γ g=some a->kF dr C.P g a)(Q:∀g a,pf g=true->C.Γ g=some a->Zk a)(R:∀g a,C.bk g=true->C.Γ g=some a->Zb a)(hit:∀g it,C.it g=some it->nI dr C.P g it)(hm:C.P.follows .mixedOrders=true)
  {f:FuncId} {fn:Func} {code:Code} (hf:C.P.funcs[f]?=some fn) (k:fn.body=some code) (T:kj pf C.dyn C.Ey C.bk fn.ntmps code=true)
  {args:zb} {Y M:Hp} {Z Z':Nat} {x:O} (h:jG C fn args Y Z=some (x,M,Z')) {w:World} {S:Nat->Prop} {G:Nat->GI} {vs:List Value} (hi:Inv C.P w S G Y Z) (W:Zip (zW w S G Z) args vs) (hn:args.length<=fn.ntmps) :
  Calls C.P f vs.toArray w fun e w'=>∃v S' G',e=.returned v/\j6 dr C.P Y Z S G w M Z' S' G' w'/\zW w' S' G' Z' x v:=by
 unfold jG at h;simp only[k]at h;refine fk.1 (callsIn_of_wp_marks (n:=0) hf k trivial ?_);have F:b4 dr C.P w S (yP Y G) fn.ntmps Z G w.heap.size ⟨jX args,Y,Z⟩ {tmps:=vs.toArray++Array.replicate (fn.ntmps-vs.toArray.size) undef,defers:=[]} w:=by
  refine⟨S,G,hi,fun t=>?_,?_,.nil (zi _),fun _ h=>h,fun _ h=>.inl h,fun id b k=>.inl ⟨id,b,k,rfl⟩,Fr.refl _ _,zi _,fun _ _=>rfl⟩
  ·have X:vs.length=args.length:=W.1.symm;unfold jX;by_cases ht:t<args.length
   ·have p:args[t]?=some args[t]:=zn ht;have l:vs[t]?=some (vs[t]'(by omega)):=zn (by omega);have h3:=W.2 t _ _ p l;have h4:(vs.toArray++Array.replicate (fn.ntmps-vs.toArray.size) undef)[t]?=vs[t]?:=by rw[WG (by simpa using(by omega:t<vs.length))];simp
    simp only[p,bE];rw[QQ,h4,l];exact h3
   ·have p:args[t]?=none:=qS (by omega);have h4:(vs.toArray++Array.replicate (fn.ntmps-vs.toArray.size) undef).getD t undef=undef:=by rw[QQ,Array.getElem?_append_right (by simpa using(by omega:vs.length<=t)),Array.getElem?_replicate];split<;>rfl
    simp only[p,Option.getD_none];rw[h4];exact yY
  ·have X:vs.length=args.length:=W.1.symm;simp;omega
 have H:∀(e:Exit) (st:St),(e=.normal\/e=.ret)->qB C code ⟨jX args,Y,Z⟩=some (e,st)->(kZ C.P fn st).map (fun x=>(x,st.Y,st.Z))=some (x,M,Z') ->
   code.wpIn Fence.wide 0 C.P (bodyPostM Fence.wide 0 C.P fn fun e w'=>∃v S' G',e=.returned v/\j6 dr C.P Y Z S G w M Z' S' G' w'/\zW w' S' G' Z' x v) {tmps:=vs.toArray++Array.replicate (fn.ntmps-vs.toArray.size) undef,defers:=[]} w:=by
  intro e st he m hr;obtain⟨r,d,s⟩:=zH hr;injection s with e1 s
  injection s with e2 e3;subst e1;subst e2;subst e3;refine cJ N Q R hit hm code T Fence.wide 0 (.inl rfl) (.inl rfl) w S (yP Y G) Z G w.heap.size _ st e _ w _ (zi _) m F fun E w1 hs'=>?_
  obtain⟨S',G',c⟩:=hs';obtain⟨hd0,Ds,hd1,hd2,o⟩:=c.defers;have I:LeavesInM Fence.wide 0 C.P fn E.tmps (fun e w'=>∃v S' G',e=.returned v/\j6 dr C.P Y Z S G w st.Y st.Z S' G' w'/\zW w' S' G' st.Z r v) E.defers .returning w1:=by
   rw[hd1];refine WU (dr:=dr) Ds w1 hd2 (fun D hD=>(o D hD).2.1) fun w' A=>?_
   have J:∀b,b∈Ds->YN S' G' st.Y b:=fun b k=>⟨(o b k).2.2.1,(o b k).2.2.2⟩
   have q:=c.inv.frame A J;have O4:∀t,zW w' S' G' st.Z (st.U t) (E.tmps.getD t undef):=fun t=>(c.kb t).mono (fun b k=>⟨k,A.block b (c.inv.st b k) fun hb'=>(J b hb').1 k⟩) (zi _) (fun _ _=>rfl)
   have hk:j6 dr C.P Y Z S G w st.Y st.Z S' G' w':=⟨q,c.up,c.loc,c.s0,c.s1,c.own,c.fr.trans A fun b k p=>by have:=(o b p).1;omega⟩;have K:∃v,(results fn E.tmps).run C.P w'=.ok v w'/\zW w' S' G' st.Z r v:=by
    unfold kZ at d;have go:∀xs,wH (fn.results.toList.map (ZN C.P st))=some xs->r=(match xs with|[x]=>x|xs=>.q8 xs)->∃v,(results fn E.tmps).run C.P w'=.ok v w'/\zW w' S' G' st.Z r v:=by
     intro xs hx i;obtain⟨us,p,l⟩:=QY q O4 hx;have L:(results fn E.tmps).run C.P w'=.ok (if h:us.toArray.size=1 then us.toArray[0]else .tuple us.toArray) w':=by unfold results;rw[Array.mapM_eq_mapM_toList];simp only[kp,Sem.run_map];erw [p];rfl
     refine⟨_,L,?_⟩
     match xs,l,i with
     |[],l,i=>rw[l.Qs];subst i;exact .q8 rfl (by simp)
     |[y],l,i=>obtain⟨u,rfl,hu⟩:=WR l;subst i;simpa using hu
     |y::z::ys,l,i=>have hl:=l.1;subst i;rw[dif_neg (by simp at hl⊢;omega)];exact .q8 (by simpa using hl) (fun j pv u hj hu=>l.2 j pv u hj (by simpa using hu))
    split at d
    ·rename_i y hy;injection d with d
     exact go [y] hy d.symm
    ·rename_i xs B hx;injection d with d
     refine go xs hx ?_;rw[<-d]
     match xs,B with
     |[],_=>rfl
     |[y],B=>exact(B y rfl).elim
     |y::z::ys,_=>rfl
    ·cases d
   obtain⟨v,hv1,O2⟩:=K;exact⟨v,hv1,v,S',G',rfl,hk,O2⟩
  rcases he with rfl|rfl
  ·exact I
  ·exact I
 split at h
 ·rename_i st m;exact H _ st (.inl rfl) m h
 ·rename_i st m;exact H _ st (.inr rfl) m h
 ·cases h
end
variable{dr:Prop}
def O.isV:O->Bool
 | .v _=>true
 |_=>false
def O.flat:O->Bool
 | .v _=>true
 | .q8 cs=>cs.all O.isV
 |_=>false
def E7(s:Nat):O->O
 | .nil=>.sl s []
 |x=>x
def yr:List Nat->zb->zb
 |s::a,x::l=>E7 s x::yr a l
 |_,l=>l
def iZ(x y:O):Prop:=x=y\/(x=.nil/\∃s,y=.sl s [])
def YY:O->O->Prop
 | .q8 xs,.q8 ys=>xs.length=ys.length/\∀(j:Nat) (x y:O),xs[j]?=some x->ys[j]?=some y->iZ x y
 |x,y=>iZ x y
def zg(a:Bool)(b:List Nat)(F:zb->Option O):AM.Spec:=fun args Y Z=>
 match zy Y args with
 |some (c,Y1)=>match F (yr b c)with
  |some r=>if r.flat=true\/args.all O.noOwn=true then some (r,Y,Z)else if a=true then some (r,Y1,Z)else none
  |none=>none
 |none=>none
def km(a:List Nat)(F:zb->Option (Option jV)):AM.Spec:=fun args Y Z=>
 match zy Y args with
 |some (c,Y1)=>match F (yr a c)with
  |some none=>some (.nil,Y1,Z)
  |some (some b)=>some (.own Z 0 b.es.length,ql Y1 Z (some b),Z+1)
  |none=>none
 |none=>none
theorem E8{α:Type}(f:Nat->α){i j:Nat}(h:i≠j)(x y:α):ql (ql f i x) j y=ql (ql f j y) i x:=by
 funext k;unfold ql;by_cases a:k=i
 ·subst a;simp[h]
 ·simp[a]
theorem YZ{Y Y1:Hp}{x y:O}{Z:Nat}(f:Y Z=none)(b:Option jV)(h:wg Y x=some (y,Y1)):wg (ql Y Z b) x=some (y,ql Y1 Z b)/\Y1 Z=none:=by
 unfold wg at h;split at h
 ·rename_i id off n;split at h
  ·rename_i j g;have a:id≠Z:=fun e=>by rw[e,f]at g;cases g
   split at h
   ·rename_i i;injection h with h
    injection h with c d;subst c;subst d;refine⟨?_,by rw[qu _ _ _ _ a.symm];exact f⟩;unfold wg;simp only[qu Y Z id b a,g,i,and_self,qI];rw[E8 Y a.symm]
   ·cases h
  ·cases h
 all_goals first
  |(injection h with h;injection h with c d;subst c;subst d;exact⟨rfl,f⟩)
  |(split at h
    ·rename_i i;injection h with h;injection h with c d;subst c;subst d
     exact⟨by unfold wg;simp only[i,and_self,qI],f⟩
    ·cases h)
  |cases h
theorem YE{Z:Nat}(b:Option jV):∀{xs ys:zb} {Y Y1:Hp},Y Z=none->qJ Y xs=some (ys,Y1)->qJ (ql Y Z b) xs=some (ys,ql Y1 Z b)/\Y1 Z=none
 |[],ys,Y,Y1,a,h=>by
  simp only[qJ]at h;injection h with h;injection h with c d;subst c;subst d
  exact⟨rfl,a⟩
 |x::l,ys,Y,Y1,a,h=>by
  simp only[qJ]at h;split at h
  ·rename_i y Y2 e;split at h
   ·rename_i r f g;injection h with h;injection h with c d;subst c;subst d
    obtain⟨i,j⟩:=YZ a b e;obtain⟨k,m⟩:=YE b j g;exact⟨by simp only[qJ,i,k],m⟩
   ·cases h
  ·cases h
theorem fu{Y Y1:Hp}{x y:O}{Z:Nat}(a:Y Z=none)(b:Option jV)(h:qe Y x=some (y,Y1)):qe (ql Y Z b) x=some (y,ql Y1 Z b)/\Y1 Z=none:=by
 cases x with
 |agg cs=>
  simp only[qe]at h⊢;split at h
  ·rename_i l i c;injection h with h;injection h with d e;subst d;subst e
   obtain⟨f,g⟩:=YE b a c;exact⟨by simp only[f],g⟩
  ·cases h
 |_=>simp only[qe]at h⊢;exact YZ a b h
theorem Y3{Z:Nat}(b:Option jV):∀{xs ys:zb} {Y Y1:Hp},Y Z=none->zy Y xs=some (ys,Y1)->zy (ql Y Z b) xs=some (ys,ql Y1 Z b)/\Y1 Z=none
 |[],ys,Y,Y1,a,h=>by
  simp only[zy]at h;injection h with h;injection h with c d;subst c;subst d
  exact⟨rfl,a⟩
 |x::l,ys,Y,Y1,a,h=>by
  simp only[zy]at h;split at h
  ·rename_i y Y2 e;split at h
   ·rename_i r f g;injection h with h;injection h with c d;subst c;subst d
    obtain⟨i,j⟩:=fu a b e;obtain⟨k,m⟩:=Y3 b j g;exact⟨by simp only[zy,i,k],m⟩
   ·cases h
  ·cases h
theorem zr(a:List Nat)(F:zb->Option O):Zk (zg false a F):=by
 intro args Y Z r k Z' h;unfold zg at h;split at h
 ·rename_i c Y1 d;split at h
  ·rename_i l hF;split at h
   ·rename_i e;injection h with h
    injection h with f h;injection h with g i;subst f;refine⟨⟨g.symm,i.symm⟩,fun b j=>?_⟩;unfold zg;simp only[(Y3 b j d).1,hF];rw[ze e]
   ·simp at h
  ·cases h
 ·cases h
structure V7 (C:Ctx) (pf:FuncId->Bool) (f:FuncId) (fn:Func) (code:Code):Prop where
 func:C.P.funcs[f]?=some fn
 name:(fn.name== "runtime.NumGoroutine")=false
 body:fn.body=some code
 ok:kj pf C.dyn C.Ey C.bk fn.ntmps code=true
structure kV (dr:Prop) (C:Ctx) (pf:FuncId->Bool):Prop where
 spec:∀g spec,C.Γ g=some spec->kF dr C.P g spec
 quiet:∀g spec,pf g=true->C.Γ g=some spec->Zk spec
 mixed:C.P.follows .mixedOrders=true
 box:∀g spec,C.bk g=true->C.Γ g=some spec->Zb spec:=by intro _ _ h;cases h
 iter:∀g it,C.it g=some it->nI dr C.P g it:=by intro _ _ h;cases h
abbrev Good:=kV True
section
variable{C:Ctx}{pf:FuncId->Bool}{f:FuncId}{fn:Func}{code:Code}
theorem j6.outer{P:Program}{Y:Hp}{Z:Nat}{S:Nat->Prop}{G:Nat->GI}{w w':World}(h:Inv P w S G Y Z)(k:Fr dr w (fun _=>False) w') :
  j6 dr P Y Z S G w Y Z (fun b=>S b\/(w.heap.size<=b/\b<w'.heap.size)) G w':=by
 have c:∀b,b<w.heap.size->w'.heap[b]?=w.heap[b]?:=fun b a=>k.block b a fun h=>h
 have d:∀b,S b->(S b\/(w.heap.size<=b/\b<w'.heap.size))/\w'.heap[b]?=w.heap[b]?:=fun b a=>⟨.inl a,c b (h.st b a)⟩
 refine⟨⟨fun b a=>?_,h.top,fun id b a=>(h.live id b a).mono d (zi _) (fun _ _=>rfl) (c _ (h.live id b a).lt),fun id b a hs=>?_,h.inj,h.bF.mono d⟩,zi _,fun _ _=>rfl,fun _ a=>.inl a,fun b a=>?_,fun id b a=>.inl ⟨id,b,a,rfl⟩,⟨k.os,k.tape,k.output,k.size,k.drawn,fun b a _=>c b a⟩⟩
 ·rcases a with a|a
  ·exact wA (h.st b a) k.size
  ·exact a.2
 ·rcases hs with hs|hs
  ·exact h.apart id b a hs
  ·have:=(h.live id b a).lt;omega
 ·rcases a with a|a
  ·exact .inl a
  ·exact .inr (.inr a.1)
theorem JF{P:Program}{w:World}{S:Nat->Prop}(G:Nat->GI)(a:∀b,S b->b<w.heap.size)(c:Bz P w S):Inv P w S G (fun _=>none) 0:=
 ⟨a,fun _ _ h=>(by cases h),fun _ _ h=>(by cases h),fun _ _ h=>(by cases h),fun _ _ _ _ h=>(by cases h),c⟩
theorem vX{G:Nat->GI}{b:Nat}(h:yP (fun _=>none) G b):False:=by obtain⟨_,_,h,_⟩:=h;cases h
theorem Zip.closed{w:World}{S:Nat->Prop}{G:Nat->GI}{Z:Nat}{xs:zb}{us:List Value}(h:Zip (q9 w S) xs us):Zip (zW w S G Z) xs us:=h.imp fun _ _ h=>.c h
theorem cL{w w':World}{S S':Nat->Prop}{r:O}{v:Value}(h:q9 w S r v)(a:r.flat=true):q9 w' S' r v:=by
 cases h with
 |v h=>exact .v h
 |q8 b e=>
  refine .q8 b fun j c u d f=>?_
  simp only[O.flat,zQ]at a;have:=a c (zD d);have g:=e j c u d f;cases c<;>simp[O.isV]at this;obtain⟨rfl,b⟩:=g.wF;exact .v b
 |_=>simp[O.flat]at a
theorem xQ(c:kV dr C pf)(i:V7 C pf f fn code){args:zb}{x:O}{Y1:Hp}{a:Nat}(h:jG C fn args (fun _=>none) 0=some (x,Y1,a))(l:args.length<=fn.ntmps)
  {w:World} {S:Nat->Prop} {vs:List Value} (m:∀b,S b->b<w.heap.size) (j:Bz C.P w S) (n:Zip (q9 w S) args vs) :
  Calls C.P f vs.toArray w fun e w'=>∃v S' G',e=.returned v/\Fr dr w (fun _=>False) w'/\Inv C.P w' S' G' Y1 a/\zW w' S' G' a x v/\(∀b,S b->S' b)/\(∀b,S' b->S b\/w.heap.size<=b)/\(∀id blk,Y1 id=some blk->w.heap.size<=(G' id).g):=by
 refine(cK c.spec c.quiet c.box c.iter c.mixed i.func i.body i.ok h (JF (fun _=>⟨0,0,0⟩) m j) n.closed l).mono fun e w' o=>?_
 obtain⟨v,S',G',p,k,q⟩:=o;refine⟨v,S',G',p,⟨k.fr.os,k.fr.tape,k.fr.output,k.fr.size,k.fr.drawn,fun b d _=>k.fr.block b d vX⟩,k.inv,q,k.keep,fun b d=>?_,fun id blk d=>?_⟩
 ·rcases k.from_ b d with h|h|h
  ·exact .inl h
  ·exact(vX h).elim
  ·exact .inr h
 ·rcases k.own id blk d with h|h
  ·exact(vX h).elim
  ·exact h
theorem gC{w:World}{S:Nat->Prop}{x:O}{u:Value}(h:q9 w S x u)(s:Nat):q9 w S (E7 s x) u:=by
 unfold E7;split
 ·cases h;exact .sl (es:=[]) (fun _ _=>undef) (by simp) (by simp) (by simp[maxLen]) (by simp) (by simp) (by simp)
 ·exact h
theorem Zm{w:World}{S:Nat->Prop}:∀{a:List Nat} {xs:zb} {us:List Value},Zip (q9 w S) xs us->Zip (q9 w S) (yr a xs) us
 |[],xs,us,h=>by unfold yr;exact h
 |s::a,[],us,h=>by unfold yr;exact h
 |s::a,x::xs,us,h=>by obtain⟨u,b,rfl,c,d⟩:=h.jy;simp only[yr];exact .cons (gC c s) (Zm d)
theorem Aq{w:World}{S:Nat->Prop}{x y:O}{u:Value}(h:q9 w S x u)(a:iZ x y):q9 w S y u:=by
 rcases a with rfl|⟨rfl,s,rfl⟩
 ·exact h
 ·exact gC h s
theorem cM{w:World}{S:Nat->Prop}{x y:O}{u:Value}(h:q9 w S x u)(a:YY x y):q9 w S y u:=by
 unfold YY at a;split at a
 ·cases h with
  |q8 g d=>
   rename_i xs ys us;refine .q8 (by omega) fun j e v c f=>?_
   have b:j<xs.length:=by rw[a.1];exact(zh.1 c).1
   exact Aq (d j xs[j] v (zn b) f) (a.2 j xs[j] e (zn b) c)
 ·exact Aq h a
theorem nJ(hg:kV dr C pf)(q:V7 C pf f fn code)(j:Bool)(ns:List Nat)(F:zb->Option O)(hF:∀args r,F args=some r->args.length<=fn.ntmps/\∃s,zt C fn args=some s/\YY s r):kF dr C.P f (zg j ns F):=by
 refine⟨⟨fn,q.func,q.name,by rw[q.body];rfl⟩,?_⟩;intro args Y Z r Y' Z' h w S G vs T hz;unfold zg at h;split at h
 ·rename_i aZ Y1 u;split at h
  ·rename_i s y;obtain⟨hn,rr,a,z⟩:=hF _ s y;unfold zt at a;split at a
   ·rename_i x hpe nxe A;obtain⟨⟨r1,W⟩,B,k⟩:=zH a;simp only at k;subst k;obtain⟨S1,t,D,E⟩:=yZ (dr:=dr) T u hz;refine(xQ hg q A hn t.inv.st t.inv.bF (Zm D)).mono fun e w' hh=>?_
    obtain⟨v,S',G',X,fr,l,hx,hs0,H,_⟩:=hh;obtain⟨S2,k2,I⟩:=ZO (dr:=dr) l B hx;have J:=cM I z;have m:∀b,S2 b->S1 b\/(w.heap.size<=b/\b<w'.heap.size):=by
     intro b i;have n:=k2.inv.st b i;rcases k2.from_ b i with h1|⟨id,blk,h1,rfl⟩|h1
     ·rcases H b h1 with K|K
      ·exact .inl K
      ·exact .inr ⟨K,n⟩
     ·rcases Nat.lt_or_ge (G' id).g w.heap.size with h3|h3
      ·rename_i o;have:=o id blk h1;omega
      ·exact .inr ⟨h3,n⟩
     ·exact absurd h1 (by omega)
    split at h
    ·rename_i d;injection h with h
     injection h with L h;injection h with M N;subst L;subst M;subst N;refine⟨v,_,G,X,j6.outer T fr,.c ?_⟩;rcases d with Q|R
     ·exact cL J Q
     ·have p:=E R;exact J.mono fun b i=>⟨by rw[<-p];exact m b i,rfl⟩
    ·split at h
     ·injection h with h;injection h with L h;injection h with M N;subst L;subst M;subst N;exact⟨v,_,G,X,t.trans (j6.outer t.inv fr),.c (J.mono fun b i=>⟨m b i,rfl⟩)⟩
     ·cases h
   ·cases a
  ·cases h
 ·cases h
end
variable{dr:Prop}
section
variable{P:Program}{Y1 Y2 hpe:Hp}{Z nxe:Nat}{S1 S':Nat->Prop}{G G':Nat->GI}{w w':World}{D:Nat->Prop}
theorem Xl(f:Inv P w S1 G Y1 Z)(a:∀id b,Y2 id=some b->Y1 id=some b/\¬D (G id).g)(m:∀b,D b->yP Y1 G b)(d:Fr dr w D w')(e:Inv P w' S' G' hpe nxe)(i:∀b,S1 b->S' b)(j:∀b,S' b->S1 b\/D b\/w.heap.size<=b) :
  j6 dr P Y1 Z S1 G w Y2 Z S' G w':=by
 have n:∀b,S1 b->¬D b:=fun b c hd=>by obtain⟨id,blk,q,rfl⟩:=m b hd;exact f.apart id blk q c
 have r:∀b,S1 b->S' b/\w'.heap[b]?=w.heap[b]?:=fun b c=>⟨i b c,d.block b (f.st b c) (n b c)⟩
 refine⟨⟨e.st,fun id b c=>f.top id b (a id b c).1,fun id b c=>?_,fun id b c hs=>?_,fun id id' b p c o s=>f.inj id id' b p (a id b c).1 (a id' p o).1 s,e.bF⟩,zi _,fun _ _=>rfl,i,fun b c=>?_,fun id b c=>.inl ⟨id,b,(a id b c).1,rfl⟩,⟨d.os,d.tape,d.output,d.size,d.drawn,fun k t u=>d.block k t fun hd=>u (m k hd)⟩⟩
 ·have l:=f.live id b (a id b c).1;exact l.mono r (zi _) (fun _ _=>rfl) (d.block _ l.lt (a id b c).2)
 ·have l:=f.live id b (a id b c).1;rcases j _ hs with h|h|h
  ·exact f.apart id b (a id b c).1 h
  ·exact(a id b c).2 h
  ·have:=l.lt;omega
 ·rcases j b c with h|h|h
  ·exact .inl h
  ·exact .inr (.inl (m b h))
  ·exact .inr (.inr h)
theorem nK(B:Inv P w S1 G Y1 Z)(f:∀id b,Y2 id=some b->Y1 id=some b/\¬D (G id).g)(M:∀b,D b->yP Y1 G b)(Q:Fr dr w D w')(l:Inv P w' S' G' hpe nxe)(F:∀b,S1 b->S' b)(H:∀b,S' b->S1 b\/D b\/w.heap.size<=b)
  {id:Nat} {b:jV} (C:hpe id=some b) (v:b.arr=true) (s:D (G' id).g\/w.heap.size<=(G' id).g) :
  j6 dr P Y1 Z S1 G w (ql Y2 Z (some b)) (Z+1) S' (ql G Z (G' id)) w':=by
 have x:=Xl B f M Q l F H;have y:∀id' z,Y2 id'=some z->(G id').g≠(G' id).g:=fun id' z N q=>by
  rcases s with h|h
  ·exact(f id' z N).2 (q ▸ h)
  ·have:=(B.live id' z (f id' z N).1).lt;omega
 have r:∀k,k<Z->ql G Z (G' id) k=G k:=fun k a=>qu _ _ _ _ (by omega)
 have m:∀k,k≠Z->ql Y2 Z (some b) k=Y2 k:=fun k a=>qu _ _ _ _ a
 have I:∀b,S' b->S' b/\w'.heap[b]?=w'.heap[b]?:=fun b C=>⟨C,rfl⟩
 have e:∀k c,Y2 k=some c->k<Z:=fun k c a=>B.top k c (f k c a).1
 refine⟨⟨l.st,fun k c a=>?_,fun k c a=>?_,fun k c a=>?_,fun k n c A a o q=>?_,l.bF⟩,by omega,r,x.keep,x.from_,fun n c a=>?_,x.fr⟩
 ·by_cases d:k=Z
  ·omega
  ·rw[m k d]at a;have:=e k c a;omega
 ·by_cases d:k=Z
  ·subst d;simp only[wQ]at a⊢;injection a with a
   subst a;have t:=l.live id _ C;refine⟨t.bs,fun E=>⟨t.size E,t.len E,t.fit E,?_⟩,t.Ld⟩;obtain⟨J,R,S,T⟩:=t.row E;refine⟨J,R,S,fun i j c W K X=>?_⟩;obtain⟨u,h4,L⟩:=T i j c W K X;exact⟨u,h4,L.1,.c (L.1 v),L.2.2⟩
  ·rw[m k d]at a;rw[r k (e k c a)];exact(x.inv.live k c a).mono I (by omega) r rfl
 ·by_cases d:k=Z
  ·subst d;simp only[wQ];exact l.apart id b C
  ·rw[m k d]at a;rw[r k (e k c a)];exact x.inv.apart k c a
 ·by_cases d:k=Z<;>by_cases p:n=Z
  ·omega
  ·subst d;rw[m n p]at o;rw[r n (e n A o)]at q;simp only[wQ]at q;exact(y n A o q.symm).elim
  ·subst p;rw[m k d]at a;rw[r k (e k c a)]at q;simp only[wQ]at q;exact(y k c a q).elim
  ·rw[m k d]at a;rw[m n p]at o;rw[r k (e k c a),r n (e n A o)]at q;exact B.inj k n c A (f k c a).1 (f n A o).1 q
 ·by_cases d:n=Z
  ·subst d;simp only[wQ];rcases s with h|h
   ·exact .inl (M _ h)
   ·exact .inr h
  ·rw[m n d]at a;rw[r n (e n c a)];exact .inl ⟨n,c,(f n c a).1,rfl⟩
theorem nL{id n:Nat}{v:Value}(h:zW w' S' G' nxe (.own id 0 n) v):zW w' S' (ql G Z (G' id)) (Z+1) (.own Z 0 n) v:=by have a:=h.xB;obtain⟨cap,e,b,c,d,rfl⟩:=h.vT;have:=zW.own (w:=w') (S:=S') (G:=ql G Z (G' id)) (Z:=Z+1) (id:=Z) (off:=0) (n:=n) (cap:=cap) (by omega) b c (by simpa using d) (by simpa using a);simpa using this
end
section
variable{C:Ctx}{pf:FuncId->Bool}{f:FuncId}{fn:Func}{code:Code}
def cN(r:Option jV)(x:O)(Y:Hp)(_:Nat):Prop:=match r with
 |none=>x=.nil
 |some b=>∃id,x=.own id 0 b.es.length/\Y id=some b/\b.arr=true
theorem WV(K:kV dr C pf)(n:V7 C pf f fn code)(L:List Nat)(F:zb->Option (Option jV))(hF:∀args r,F args=some r->args.length<=fn.ntmps/\∃x Y Z,jG C fn args (fun _=>none) 0=some (x,Y,Z)/\cN r x Y Z) :
  kF dr C.P f (km L F):=by
 refine⟨⟨fn,n.func,n.name,by rw[n.body];rfl⟩,?_⟩;intro args Y Z r Q Z' h w S G vs M N;unfold km at h;split at h
 ·rename_i R Y1 s;obtain⟨S1,g,o,_⟩:=yZ (dr:=dr) M s N;have i:∀id b,Y1 id=some b->Y1 id=some b/\¬False:=fun id b h=>⟨h,fun h=>h⟩
  split at h
  ·rename_i j;obtain⟨t,x,hpe,nxe,k,d⟩:=hF _ none j;injection h with h
   injection h with u h;injection h with y z;subst u;subst y;subst z;simp only[cN]at d;subst d;refine(xQ K n k t g.inv.st g.inv.bF (Zm o)).mono fun e w' A=>?_
   obtain⟨v,S',G',B,E,a,H,l,m,_⟩:=A;have I:=Xl (dr:=dr) (D:=fun _=>False) (Y2:=Y1) g.inv i (fun _ h=>h.elim) E a l (fun b J=>(m b J).imp (fun h=>h) .inr);have:=H.vS;subst this;exact⟨_,_,_,B,g.trans I,.c .nil⟩
  ·rename_i b j;obtain⟨t,x,hpe,nxe,k,d⟩:=hF _ (some b) j;injection h with h
   injection h with u h;injection h with y z;subst u;subst y;subst z;obtain⟨id,rfl,hid,p⟩:=d;refine(xQ K n k t g.inv.st g.inv.bF (Zm o)).mono fun e w' A=>?_
   obtain⟨v,S',G',B,E,a,H,l,m,q⟩:=A;have I:=nK (dr:=dr) (D:=fun _=>False) (Y2:=Y1) g.inv i (fun _ h=>h.elim) E a l (fun b J=>(m b J).imp (fun h=>h) .inr) hid p (.inr (q id b hid));exact⟨_,_,_,B,g.trans I,nL H⟩
  ·cases h
 ·cases h
end
end Go.AM
namespace Go.AM
open Go.RowKit Go.WideShapes Go.ChangeShapes
variable{dr:Prop}
def nM(P:Program):Nat->List Field->Option Nat
 |o,[]=>some o
 |o,f::a=>if f.offset=o then nM P (o+P.cellsOf f.type) a else none
def bH(P:Program)(T:List TypeId):Bool:=T.all fun t=>match P.underlying t with
 |some .bool|some (.int _)|some .string=>P.cellsOf t==1
 |some (.slice e)=>P.cellsOf t==1&&T.contains e&&decide (0<P.cellsOf e)
 |some (.struct a)=>nM P 0 a.toList==some (P.cellsOf t)&&a.toList.all fun f=>T.contains f.type
 |_=>false
structure Bounds (H:Type) (Bl:Nat->Prop) (Bd:DataW H->Prop):Prop where
 slice:∀es sp,Bd (.slice es sp)->Bl es.length/\∀d∈es,Bd d
 nil:Bl 0
 agg:∀l,Bd (.agg l)->∀d∈l,Bd d
 str:∀b,Bd (.lit (.string b))->Bl b.length
section
variable{H:Type}{V:TypeId×Value->H}{P:Program}{w:World}{sp:Nat->Bool}{held:Bool}{Bl:Nat->Prop}{Bd:DataW H->Prop}
theorem fv{α:Type}{l:List α}{o n j:Nat}(a:j<n):((l.drop o).take n)[j]?=l[o+j]?:=by rw[wM,ze a,wB]
theorem gD{R:O->Value->Prop}{Q:Field->zb->Prop}:∀(e:List Field) (o n:Nat) (cs:List Value),nM P o e=some n->cs.length=n ->
  (∀f∈e,∃a,Zip R a ((cs.drop f.offset).take (P.cellsOf f.type))/\Q f a) ->
  ∃a:zb,a.length+o=n/\(∀(j:Nat) (g:O) (u:Value),a[j]?=some g->cs[o+j]?=some u->R g u)/\∀f∈e,o<=f.offset/\Q f ((a.drop (f.offset-o)).take (P.cellsOf f.type))
 |[],o,n,cs,c,p,_=>by
  simp only[nM]at c;injection c with c
  subst c;exact⟨[],by simp,by simp,by simp⟩
 |f::e,o,n,cs,c,p,h=>by
  simp only[nM]at c;split at c
  ·rename_i s;obtain⟨d,q,t⟩:=h f (by simp);obtain⟨i,y,v,w⟩:=gD e (o+P.cellsOf f.type) n cs c p (fun f' b=>h f' (by simp[b]));have l:d.length=P.cellsOf f.type:=by have:=q.1;simp only[bD,List.length_drop]at this;omega
   refine⟨d++i,by simp;omega,fun j g u k r=>?_,fun f' b=>?_⟩
   ·by_cases m:j<d.length
    ·rw[wU m]at k;refine q.2 j g u k ?_;rw[fv (by omega),s];exact r
    ·rw[qZ (by omega)]at k;refine v (j-d.length) g u k ?_;rw[show o+P.cellsOf f.type+(j-d.length)=o+j from by omega];exact r
   ·rcases zC.1 b with rfl|b
    ·refine⟨by omega,?_⟩;have:((d++i).drop (f'.offset-o)).take (P.cellsOf f'.type)=d:=by rw[show f'.offset-o=0 from by omega,wZ,<-l,List.take_left]
     rw[this];exact t
    ·obtain⟨z,x⟩:=w f' b;refine⟨by omega,?_⟩;have:(d++i).drop (f'.offset-o)=i.drop (f'.offset-(o+P.cellsOf f.type)):=by rw[List.drop_append,vw (by omega),yW];congr 1;omega
     rw[this];exact x
  ·cases c
end
section
variable{C:Ctx}{pf:FuncId->Bool}{f:FuncId}{fn:Func}{code:Code}
end
end Go.AM
namespace Go.AM
variable{dr:Prop}
attribute [congr] nw ny
attribute [simp] nA nB Lp B8 iW E1 B9 Lq E4 E3 sL sM nz iV B7 sN fq sO Xk
 ft sP nD nE E5
@[simp]theorem E9(K:Exit->St->Prop)(st:St):Wg K st=K .normal st:=rfl
@[simp]theorem zk{α:Type}(f:Nat->α)(k i:Nat)(x:α)(h:¬i=k):ql f k x i=f i:=by simp[ql,h]
@[simp]theorem UC(U:Nat->O)(d:Nat)(x:O):put U (some d) x=ql U d x:=rfl
@[simp]theorem UD(U:Nat->O)(x:O):put U none x=U:=rfl
@[simp]theorem Tc(args:zb)(t:Nat):jX args t=(args[t]?).getD (.q8 []):=rfl
@[simp]theorem zbF(U:Nat->O)(t:Nat):get U (.tmp t)=some (U t):=rfl
@[simp]theorem Fa(U:Nat->O)(f:Nat):get U (.func f)=some (.fn (.func f) [] []):=rfl
@[simp]theorem zbG(U:Nat->O)(k:IntKind)(n:Int):get U (.const (.int k n))=some (.v (.int k n)):=rfl
@[simp]theorem UE(U:Nat->O)(b:Bool):get U (.const (.bool b))=some (.v (.bool b)):=rfl
@[simp]theorem zbH(U:Nat->O)(s:ByteArray):get U (.const (.string s))=some (.v (.string s)):=rfl
@[simp]theorem zbI(U:Nat->O):get U (.const (.slice none 0 0))=some .nil:=rfl
@[simp]theorem Oe(U:Nat->O):get U (.const .nilFunc)=some (.v .nilFunc):=rfl
@[simp]theorem zbJ(U:Nat->O)(cs:Array Value):get U (.const (.agg cs))=(kh cs.toList).map .agg:=rfl
@[simp]theorem Pp(C:Ctx)(a:Array Oper)(d:Option Tmp)(op:Op)(t:TypeId)(p:String)(b:Array Edge)(st:St):yb C a ⟨d,op,t,p,b,none⟩ st =
  (zF C (get st.U) st.Y st.Z op).map fun r=>⟨put st.U d r.1,r.2.1,r.2.2⟩:=nG C a d op t p b st
def vC(C:Ctx)(d:Option Tmp)(op:Op)(st:St)(y:Option Bool)(b:Bool):Option St:=
 if y=some b then(zF C (get st.U) st.Y st.Z op).map fun r=>⟨put st.U d r.1,r.2.1,r.2.2⟩else some ⟨put st.U d (.q8 []),st.Y,st.Z⟩
theorem la{C:Ctx}{d:Option Tmp}{op:Op}{st:St}{y a:Option Bool}{b:Bool}(h:y=a):vC C d op st y b=vC C d op st a b:=by rw[h]
@[simp]theorem Pq(C:Ctx)(a:Array Oper)(d:Option Tmp)(op:Op)(t:TypeId)(p:String)(c:Array Edge)(j:Nat)(b:Bool)(st:St):yb C a ⟨d,op,t,p,c,some (j,b)⟩ st =
  vC C d op st (vW a st.U j) b:=by
 unfold yb vC Region.wanted;simp only[jh];split
 ·cases zF C (get st.U) st.Y st.Z op<;>rfl
 ·rfl
@[simp]theorem Td(C:Ctx)(d:Option Tmp)(op:Op)(st:St)(b:Bool):vC C d op st (some b) b=(zF C (get st.U) st.Y st.Z op).map fun r=>⟨put st.U d r.1,r.2.1,r.2.2⟩:=by simp[vC]
@[simp]theorem UF(C:Ctx)(d:Option Tmp)(op:Op)(st:St):vC C d op st (some true) false=some ⟨put st.U d (.q8 []),st.Y,st.Z⟩:=by simp[vC]
@[simp]theorem UG(C:Ctx)(d:Option Tmp)(op:Op)(st:St):vC C d op st (some false) true=some ⟨put st.U d (.q8 []),st.Y,st.Z⟩:=by simp[vC]
@[simp]theorem Pr(C:Ctx)(d:Option Tmp)(op:Op)(st:St)(b:Bool):vC C d op st none b=some ⟨put st.U d (.q8 []),st.Y,st.Z⟩:=by simp[vC]
attribute [congr] la
def Y4:O->Option Bool
 | .v (.bool b)=>some b
 |_=>none
@[simp]theorem Of(b:Bool):Y4 (.v (.bool b))=some b:=rfl
@[simp]theorem Ps(l:zb):Y4 (.q8 l)=none:=rfl
def sR(U:Nat->O):Option Nat->Option Bool
 |some d=>Y4 (U d)
 |none=>none
@[simp]theorem Og(U:Nat->O)(d:Nat):sR U (some d)=Y4 (U d):=rfl
@[simp]theorem Te(a:Array Oper)(U:Nat->O)(j:Nat):vW a U j=sR U ((a[j]?).bind (·.dst)):=by
 unfold vW sR Y4;cases (a[j]?).bind (·.dst)with
 |none=>rfl
 |some d=>rfl
section
variable(C:Ctx)(ρ:Operand->Option O)(Y:Hp)(Z:Nat)
@[simp]theorem Lt(x:Operand):zF C ρ Y Z (.move x)=(ρ x).map fun y=>(y,Y,Z):=rfl
@[simp]theorem Ce(x:Operand):zF C ρ Y Z (.assign x)=(ρ x).map fun y=>(y,Y,Z):=rfl
def Z8(c a b:Option O):Option O:=match c with
 |some (.v (.bool true))=>a
 |some (.v (.bool false))=>b
 |_=>none
@[simp]theorem Pt(a b:Option O):Z8 (some (.v (.bool true))) a b=a:=rfl
@[simp]theorem Oh(a b:Option O):Z8 (some (.v (.bool false))) a b=b:=rfl
@[simp]theorem Lu(c a b:Operand):zF C ρ Y Z (.pick c a b)=(Z8 (ρ c) (ρ a) (ρ b)).map fun y=>(y,Y,Z):=by
 unfold Z8;simp only[zF];generalize ρ c=o;cases o with
 |none=>rfl
 |some p=>cases p<;>(try rfl);rename_i x;cases x<;>(try rfl);rename_i t;cases t<;>rfl
@[simp]theorem Pu(op:BinOp)(t a:TypeId)(x y:Operand):zF C ρ Y Z (.binOp op t x y a)=(do let p <-ρ x;let q <-ρ y;let r <-YO (Ob y) C.P op t p q;some (r,Y,Z)):=by simp only[zF];cases ρ x<;>cases ρ y<;>(try rfl);simp;cases YO (Ob y) C.P op t _ _<;>rfl
@[simp]theorem UH(op:UnOp)(t:TypeId)(x:Operand):zF C ρ Y Z (.unOp op t x)=(do let p <-ρ x;let r <-IZ op p;some (r,Y,Z)):=by simp only[zF];cases ρ x<;>(try rfl);simp;cases IZ op _<;>rfl
@[simp]theorem Lv(s d:TypeId)(x:Operand):zF C ρ Y Z (.convert s d x)=(do let p <-ρ x;let r <-J2 C.P s d p;some (r,Y,Z)):=by simp only[zF];cases ρ x<;>(try rfl);simp;cases J2 C.P s d _<;>rfl
@[simp]theorem Lw(t:TypeId)(x:Operand):zF C ρ Y Z (.load t x)=(do let p <-ρ x;let r <-kO C.P Y t p;some (r,Y,Z)):=by simp only[zF];cases ρ x<;>(try rfl);simp;cases kO C.P Y t _<;>rfl
@[simp]theorem UI(t:TypeId)(a x:Operand):zF C ρ Y Z (.store t a x)=(do let p <-ρ a;let q <-ρ x;let h <-xM C.P Y t p q;some (.q8 [],h,Z)):=by simp only[zF];cases ρ a<;>cases ρ x<;>(try rfl);simp;cases xM C.P Y t _ _<;>rfl
@[simp]theorem lb(t:TypeId)(x:Operand)(f:Nat):zF C ρ Y Z (.fieldAddr t x f)=(do let p <-ρ x;let r <-yl C.P t f p;some (r,Y,Z)):=by simp only[zF];cases ρ x<;>(try rfl);simp;cases yl C.P t f _<;>rfl
@[simp]theorem Fb(t:TypeId)(x:Operand)(f:Nat):zF C ρ Y Z (.field t x f)=(do let p <-ρ x;let r <-xg C.P t f p;some (r,Y,Z)):=by simp only[zF];cases ρ x<;>(try rfl);simp;cases xg C.P t f _<;>rfl
@[simp]theorem lf(t:TypeId)(x i:Operand):zF C ρ Y Z (.indexAddr t x i)=(do let p <-ρ x;let q <-ρ i;let r <-qi C.P Y t p q;some (r,Y,Z)):=by simp only[zF];cases ρ x<;>cases ρ i<;>(try rfl);simp;cases qi C.P Y t _ _<;>rfl
@[simp]theorem Fc(t:TypeId)(x i:Operand):zF C ρ Y Z (.index t x i)=(do let p <-ρ x;let q <-ρ i;let r <-xN C.P t p q;some (r,Y,Z)):=by simp only[zF];cases ρ x<;>cases ρ i<;>(try rfl);simp;cases xN C.P t _ _<;>rfl
@[simp]theorem Fe(t:TypeId)(x:Operand)(lo a:Option Operand):zF C ρ Y Z (.slice t x lo a none)=(do let p <-ρ x;let r <-yX C.P Y t p (lo.map ρ) (a.map ρ);some (r,Y,Z)):=by simp only[zF];cases ρ x<;>(try rfl);simp;cases yX C.P Y t _ _ _<;>rfl
@[simp]theorem Lx(t:TypeId)(l c:Operand):zF C ρ Y Z (.makeSlice t l c)=(do let p <-ρ l;let q <-ρ c;xL C.P Y Z t p q):=by simp only[zF];cases ρ l<;>cases ρ c<;>rfl
def Wi(i:Nat):O->Option O
 | .q8 vs=>vs[i]?
 |_=>none
@[simp]theorem Ly(i:Nat)(vs:zb):Wi i (.q8 vs)=vs[i]?:=rfl
@[simp]theorem sS(x:Operand)(i:Nat):zF C ρ Y Z (.extract x i)=(do let p <-ρ x;let r <-Wi i p;some (r,Y,Z)):=by
 simp only[zF];cases ρ x with
 |none=>rfl
 |some p=>cases p<;>(try rfl);simp[Wi];rename_i vs;cases vs[i]?<;>rfl
@[simp]theorem UJ(t:TypeId):zF C ρ Y Z (.alloc t)=(do let n <-qj C.P t;let z <-yn C.P t;if 0<n/\z.length=n then some (.ref Z 0 0,ql Y Z (some ⟨t,n,false,[z]⟩),Z+1)else none):=by simp only[zF];cases qj C.P t<;>cases yn C.P t<;>rfl
@[simp]theorem zcn(t:TypeId)(x:Operand):zF C ρ Y Z (.box t x)=(do let n <-qj C.P t;let y <-ρ x;if 0<n/\y.cells.length=n/\y.cells.all O.wz=true then some (.ref Z 0 0,ql Y Z (some ⟨t,n,false,[y.cells]⟩),Z+1)else none):=by simp only[zF];cases qj C.P t<;>cases ρ x<;>rfl
@[simp]theorem UK(t:TypeId)(a:Array (Nat×Operand)):zF C ρ Y Z (.build t a)=(do let q <-jW ρ a.toList;let r <-qg C.P t q;some (r,Y,Z)):=by simp only[zF];cases jW ρ a.toList<;>(try rfl);simp;cases qg C.P t _<;>rfl
@[simp]theorem I0(t:TypeId)(n:Nat)(a:Array (Nat×Operand)):zF C ρ Y Z (.buildSlice t n a)=(do let q <-jW ρ a.toList;zu C.P Y Z t n q):=by simp only[zF];cases jW ρ a.toList<;>rfl
@[simp]theorem Oi(f:Fn)(a b:Array Operand):zF C ρ Y Z (.makeFunc f a b)=(do let p <-wH (a.toList.map ρ);let q <-wH (b.toList.map ρ);some (.fn f p q,Y,Z)):=by simp only[zF];cases wH (a.toList.map ρ)<;>cases wH (b.toList.map ρ)<;>rfl
@[simp]theorem LA(f:Operand)(args:Array Operand)(ts:Array TypeId):zF C ρ Y Z (.call {callee:=.value f,args:=args,argTypes:=ts})=(do let xs <-wH (args.toList.map ρ);yR C Y Z (ρ f) xs):=by simp only[zF,kY];cases wH (args.toList.map ρ)<;>rfl
@[simp]theorem sT(b:Builtin)(args:Array Operand)(ts:Array TypeId):zF C ρ Y Z (.call {callee:=.builtin b,args:=args,argTypes:=ts})=(do let xs <-wH (args.toList.map ρ);wL C.P Y Z ts b xs):=by simp only[zF,kY];cases wH (args.toList.map ρ)<;>rfl
end
@[simp]theorem Oj{α:Type}:wH ([]:List (Option α))=some []:=rfl
@[simp]theorem LB{α:Type}(x:α)(l:List (Option α)):wH (some x::l)=(wH l).map (x::·):=rfl
@[simp]theorem Tf(ρ:Operand->Option O):jW ρ []=some []:=rfl
@[simp]theorem Pv(ρ:Operand->Option O)(i:Nat)(x:Operand)(l:List (Nat×Operand)):jW ρ ((i,x)::l)=(do let p <-ρ x;let r <-jW ρ l;some ((i,p)::r)):=by simp only[jW];cases ρ x<;>cases jW ρ l<;>rfl
theorem sU(C:Ctx)(Y:Hp)(Z g:Nat)(first a xs:zb)(b:AM.Spec)(h:C.Γ g=some b):yR C Y Z (some (.fn (.func g) first a)) xs=b (first++xs++a) Y Z:=by simp[yR,h]
section
variable(P:Program)(Y:Hp)(Z:Nat)(t:TypeId)
@[simp]theorem zbK(op:BinOp)(k:IntKind)(a b:Int):ZM P op t (.v (.int k a)) (.v (.int k b))=EC op k a b:=by simp[ZM]
@[simp]theorem zbL(op:BinOp)(a b:ByteArray):ZM P op t (.v (.string a)) (.v (.string b))=ED op a b:=rfl
@[simp]theorem zco(b:Bool):IZ .not (.v (.bool b))=some (.v (.bool !b)):=rfl
@[simp]theorem zcp(k:IntKind)(n:Int):IZ .neg (.v (.int k n))=some (.v (.int k (k.wrap (0-n)))):=rfl
@[simp]theorem UL(cs:zb):kO P Y t (.ptr cs)=zR P t cs:=rfl
@[simp]theorem UM(id i j:Nat):kO P Y t (.ref id i j)=(do let b <-Y id;let c <-b.es[i]?;zR P t (c.drop j)):=by
 simp only[kO];cases Y id with
 |none=>rfl
 |some b=>simp;cases b.es[i]?<;>rfl
@[simp]theorem I1(f:Nat)(cs:zb):yl P t f (.ptr cs)=(do let q <-z7 P t f;if q.2.1=0 then none else some (.ptr (cs.drop q.1))):=by simp only[yl];cases z7 P t f<;>rfl
@[simp]theorem I2(f id i j:Nat):yl P t f (.ref id i j)=(do let q <-z7 P t f;if q.2.1=0 then none else some (.ref id i (j+q.1))):=by simp only[yl];cases z7 P t f<;>rfl
@[simp]theorem zbM(s:ByteArray):YJ P t (.v (.string s))=match P.underlying t with|some .string=>some (.v (.int .i64 s.size))|_=>none:=rfl
@[simp]theorem zcq(s:Nat)(es:List zb):YJ P t (.sl s es)=(wC P t).map fun _=>.v (.int .i64 es.length):=rfl
@[simp]theorem zbN:YJ P t .nil=(wC P t).map fun _=>.v (.int .i64 0):=rfl
@[simp]theorem zbO(id off n:Nat):YJ P t (.own id off n)=(wC P t).map fun _=>.v (.int .i64 n):=rfl
theorem gE(i:Int)(x:O)(d:∀cs,x≠.ptr cs)(e:∀a b c,x≠.ref a b c):vn P t i x=none:=by
 unfold vn;split
 ·split
  ·split
   ·split
    ·exact absurd rfl (d _)
    ·exact absurd rfl (e _ _ _)
    ·rfl
   ·rfl
  ·rfl
 ·rfl
@[simp]theorem UN(s:Nat)(es:List zb)(k:IntKind)(i:Int):qi P Y t (.sl s es) (.v (.int k i))=(do let e <-wC P t;let n <-qj P e;if s=n/\0<n/\0<=i then(es[i.toNat]?).map .ptr else none):=by
 simp only[qi];cases wC P t with
 |none=>exact(gE P t i _ (fun _=>by simp) (fun _ _ _=>by simp)).trans rfl
 |some e=>simp;cases qj P e<;>rfl
@[simp]theorem Tg(id off n:Nat)(k:IntKind)(i:Int):qi P Y t (.own id off n) (.v (.int k i))=(do let e <-wC P t;let m <-qj P e;let b <-Y id;if b.e=e/\0<m/\0<=i/\i.toNat<n then some (.ref id (off+i.toNat) 0)else none):=by
 simp only[qi];cases wC P t with
 |none=>exact(gE P t i _ (fun _=>by simp) (fun _ _ _=>by simp)).trans rfl
 |some e=>simp;cases qj P e<;>(try rfl);simp;cases Y id<;>rfl
end
@[simp]theorem LC(P:Program)(Y:Hp)(Z:Nat)(ts:Array TypeId)(x:O):wL P Y Z ts .len [x]=(do let t <-ts[0]?;let y <-YJ P t x;some (y,Y,Z)):=by
 simp only[wL];cases ts[0]? with
 |none=>rfl
 |some t=>simp;cases YJ P t x<;>rfl
@[simp]theorem LD(P:Program)(Y:Hp)(Z:Nat)(ts:Array TypeId)(xs:zb):wL P Y Z ts .min xs=(EE xs).map fun y=>(y,Y,Z):=rfl
@[simp]theorem LF(P:Program)(Y:Hp)(Z:Nat)(ts:Array TypeId)(xs:zb):wL P Y Z ts .max xs=(EF xs).map fun y=>(y,Y,Z):=rfl
@[simp]theorem Pw(P:Program)(Y:Hp)(Z:Nat)(ts:Array TypeId)(s x:O):wL P Y Z ts .append [s,x]=(do let t <-ts[0]?;let u <-ts[1]?;kA P Y Z t u s x):=by simp only[wL];cases ts[0]?<;>cases ts[1]?<;>rfl
@[simp]theorem Th(P:Program)(Y:Hp)(n:Nat)(e t u:TypeId)(i o k:Nat):b9 P Y n e t u (.own i o k)=if u=t then view Y n (.own i o k)else none:=rfl
@[simp]theorem UO(P:Program)(Y:Hp)(n:Nat)(e t u:TypeId)(k:Nat)(es:List zb):b9 P Y n e t u (.sl k es)=if u=t then view Y n (.sl k es)else none:=rfl
@[simp]theorem Ti(P:Program)(Y:Hp)(n:Nat)(e t u:TypeId):b9 P Y n e t u .nil=if u=t then view Y n .nil else none:=rfl
@[simp]theorem UP(P:Program)(Y:Hp)(n:Nat)(e t u:TypeId):b9 P Y n e t u .em=if u=t then view Y n .em else none:=rfl
@[simp]theorem Tj(P:Program)(Y:Hp)(n:Nat)(e t u:TypeId)(b:ByteArray):b9 P Y n e t u (.v (.string b))=if Lj P u=true/\Ai P e=true then some (b.data.toList.map fun c=>[.v (.int .u8 c.toNat)])else none:=rfl
@[simp]theorem Tk(P:Program)(Y:Hp)(Z:Nat)(ts:Array TypeId)(x:O):wL P Y Z ts .clear [x]=(do let t <-ts[0]?;Xd P Y Z t x):=by simp only[wL];cases ts[0]?<;>rfl
@[simp]theorem UQ(P:Program)(Y:Hp)(Z:Nat)(ts:Array TypeId)(s x:O):wL P Y Z ts .copy [s,x]=(do let t <-ts[0]?;Aj P Y Z t s x):=by simp only[wL];cases ts[0]?<;>rfl
attribute [simp] EE Jz EF JA EC ED yi kZ ZN
@[simp]theorem Tl(cs:zb):O.cells (.agg cs)=cs:=rfl
@[simp]theorem Tm(cs:zb):O.cells (.q8 cs)=[.q8 cs]:=rfl
@[simp]theorem zbP(x:Value):O.cells (.v x)=[.v x]:=rfl
@[simp]theorem Tn:O.cells .nil=[.nil]:=rfl
@[simp]theorem UR:O.cells .em=[.em]:=rfl
@[simp]theorem US(s:Nat)(es:List zb):O.cells (.sl s es)=[.sl s es]:=rfl
@[simp]theorem To(cs:zb):O.cells (.ptr cs)=[.ptr cs]:=rfl
@[simp]theorem Tp(i o n:Nat):O.cells (.own i o n)=[.own i o n]:=rfl
@[simp]theorem Tq(i o n:Nat):O.cells (.ref i o n)=[.ref i o n]:=rfl
@[simp]theorem UT(f:Fn)(a b:zb):O.cells (.fn f a b)=[.fn f a b]:=rfl
@[simp]theorem UU(x:Value):O.wz (.v x)=true:=rfl
@[simp]theorem Px:O.wz .nil=true:=rfl
@[simp]theorem Tr:O.wz .em=true:=rfl
@[simp]theorem Ts(s:Nat)(es:List zb):O.wz (.sl s es)=true:=rfl
@[simp]theorem Py(cs:zb):O.wz (.ptr cs)=true:=rfl
@[simp]theorem Pz(i o n:Nat):O.wz (.own i o n)=true:=rfl
@[simp]theorem PA(i o n:Nat):O.wz (.ref i o n)=true:=rfl
@[simp]theorem Tt(f:Fn)(a b:zb):O.wz (.fn f a b)=true:=rfl
@[simp]theorem PB(cs:zb):O.wz (.agg cs)=false:=rfl
@[simp]theorem PC(cs:zb):O.wz (.q8 cs)=false:=rfl
attribute [simp] wg qe zy qJ AM.freeze O.flat O.isV O.noOwn
@[simp]theorem LG(i o n:Nat):O.jS (.own i o n)=true:=rfl
@[simp]theorem PD(x:Value):O.jS (.v x)=false:=rfl
@[simp]theorem LH:O.jS .nil=false:=rfl
@[simp]theorem Ol:O.jS .em=false:=rfl
@[simp]theorem Om(s:Nat)(es:List zb):O.jS (.sl s es)=false:=rfl
@[simp]theorem LI(cs:zb):O.jS (.ptr cs)=false:=rfl
@[simp]theorem LJ(i o n:Nat):O.jS (.ref i o n)=false:=rfl
@[simp]theorem On(f:Fn)(a b:zb):O.jS (.fn f a b)=false:=rfl
@[simp]theorem zbQ{α:Type}(f:Nat->α)(k:Nat)(x y:α):ql (ql f k x) k y=ql f k y:=by funext i;simp only[ql];split<;>rfl
@[simp]theorem Tu(P:Program)(Y:Hp)(t:TypeId)(id i j:Nat)(x:O):xM P Y t (.ref id i j) x=(do
  let a <-Y id;let q <-(if a.arr=true then qe Y x else some (x,Y));let b <-q.2 id;let n <-qj P t;let c <-b.es[i]?
  if q.1.cells.length=n/\j+n<=c.length/\q.1.cells.all O.wz=true then some (ql q.2 id (some ⟨b.e,b.s,b.arr,b.es.set i (yi c j q.1.cells)⟩))else none):=by
 simp only[xM];cases Y id with
 |none=>rfl
 |some a=>
  simp only[Option.bind_eq_bind,zV];generalize (if a.arr=true then qe Y x else some (x,Y))=o;cases o with
  |none=>rfl
  |some q=>
   obtain⟨y,d⟩:=q;simp only[zV];cases d id with
   |none=>rfl
   |some b=>
    simp only[zV];cases qj P t with
    |none=>rfl
    |some n=>simp only[zV];cases b.es[i]?<;>rfl
@[simp]theorem zbR(x y:Value)(Y:Hp)(Z:Nat):qU (.v y) (.v x) Y Z=(x=y):=by simp[qU]
def k7:O->Int
 | .v (.int _ n)=>n
 |_=>0
@[simp]theorem Tv(k:IntKind)(n:Int):k7 (.v (.int k n))=n:=rfl
theorem qE{n:Int}(a:-9223372036854775808<=n)(b:n<=9223372036854775807):IntKind.i64.wrap n=n:=by rw[IntKind.wrap_i64];omega
variable{dr:Prop}
open Classical in
noncomputable def zS {α b:Type} (V:α->zb) (pre:α->Prop) (out:α->b):zb->Option b:=fun args=>
 if h:∃a,args=V a/\pre a then some (out (Classical.choose h))else none
theorem qx{α e:Type}{V:α->zb}{pre:α->Prop}{out:α->e}(d:∀a b,V a=V b->a=b){a:α}(h:pre a):zS V pre out (V a)=some (out a):=by have c:∃b,V a=V b/\pre b:=⟨a,rfl,h⟩;unfold zS;rw[zcl c];have:=yD c;rw[<-d _ _ this.1]
theorem qd{α c:Type}{V:α->zb}{pre:α->Prop}{out:α->c}{args:zb}{r:c}(h:zS V pre out args=some r):∃a,args=V a/\pre a/\r=out a:=by
 unfold zS at h;split at h
 ·rename_i b;injection h with h
  have:=yD b;exact⟨_,this.1,this.2,h.symm⟩
 ·cases h
abbrev kW:=List (Nat×AM.Spec)
def lookup:kW->Nat->Option AM.Spec
 |[],_=>none
 |(k,s)::l,g=>if g=k then some s else lookup l g
@[simp]theorem ah(k:Nat)(s:AM.Spec)(l:kW)(g:Nat):lookup ((k,s)::l) g=if g=k then some s else lookup l g:=rfl
def zG(P:Program)(l:kW):Ctx:=⟨P,lookup l,fun _=>[],fun _=>[],fun _=>false,fun _=>[],fun _=>none⟩
@[simp]theorem Tw(P:Program)(l:kW)(i:Nat):(zG P l).dyn i=[]:=rfl
@[simp]theorem I3(P:Program)(l:kW)(i:Nat)(a:Array Oper)(d:Bool)(st:St)(K:Exit->St->Prop):vU (zG P l) (.region i a d) st K=cH (zG P l) a a.toList st (Wg K):=Z7 _ i a d st K rfl rfl
def WW(P:Program)(l:kW)(a:Nat->List (Tmp×Tmp)):Ctx:=⟨P,lookup l,a,fun _=>[],fun _=>false,fun _=>[],fun _=>none⟩
@[simp]theorem UW(P:Program)(l:kW)(a:Nat->List (Tmp×Tmp)):(WW P l a).P=P:=rfl
@[simp]theorem zbS(P:Program)(l:kW):(zG P l).P=P:=rfl
@[simp]theorem zbT(P:Program)(l:kW)(Y:Hp)(Z g:Nat)(a b xs:zb):yR (zG P l) Y Z (some (.fn (.func g) a b)) xs=(lookup l g).bind fun s=>s (a++xs++b) Y Z:=by unfold yR zG;simp only;cases lookup l g<;>rfl
@[simp]theorem UX(P:Program)(l:kW)(c:Nat->List (Tmp×Tmp))(Y:Hp)(Z g:Nat)(a b xs:zb):yR (WW P l c) Y Z (some (.fn (.func g) a b)) xs=(lookup l g).bind fun s=>s (a++xs++b) Y Z:=by unfold yR WW;simp only;cases lookup l g<;>rfl
def YK(dr:Prop)(P:Program)(q:List Nat):kW->Prop
 |[]=>True
 |(g,s)::l=>kF dr P g s/\(q.contains g=true->Zk s)/\YK dr P q l
theorem qc{P:Program}{l:kW}{q:List Nat}(c:P.follows .mixedOrders=true)(h:YK dr P q l):kV dr (zG P l) (fun g=>q.contains g):=by
 have a:∀(l:kW),YK dr P q l->∀g s,lookup l g=some s->kF dr P g s/\(q.contains g=true->Zk s):=by
  intro l
  induction l with
  |nil=>intro _ g s h;cases h
  |cons x l d=>
   obtain⟨k,sp⟩:=x;rintro⟨e,f,i⟩ g s hs;simp only[ah]at hs;split at hs
   ·rename_i b;injection hs with hs
    subst hs;subst b;exact⟨e,f⟩
   ·exact d i g s hs
 exact⟨fun g s hs=>(a l h g s hs).1,fun g s j hs=>(a l h g s hs).2 j,c,(fun _ _ h=>by cases h),(fun _ _ h=>by cases h)⟩
def PE(dr:Prop)(P:Program):kW->Prop
 |[]=>True
 |(g,s)::l=>kF dr P g s/\PE dr P l
abbrev UY:Nat->Bool:=fun g=>([]:List Nat).contains g
abbrev Gd(C:Ctx):Prop:=AM.Good C UY
theorem UZ{P:Program}:∀{l:kW},PE dr P l->YK dr P [] l
 |[],_=>trivial
 |(_,_)::_,h=>⟨h.1,by simp,UZ h.2⟩
theorem zM{P:Program}{l:kW}(a:P.follows .mixedOrders=true)(h:PE dr P l):kV dr (zG P l) UY:=qc (q:=[]) a (UZ h)
theorem qz(k:Nat)(h:k<9223372036854775807:=by omega):IntKind.i64.wrap ((k:Int)+1)=(k:Int)+1:=qE (by omega) (by omega)
theorem wo(n:Int)(h:-9223372036854775808<=n/\n<=9223372036854775807:=by omega):IntKind.i64.wrap n=n:=qE h.1 h.2
theorem nN{P:Program}{l:kW}{q:List Nat}(a:Nat->List (Tmp×Tmp))(b:P.follows .mixedOrders=true)(h:YK dr P q l):kV dr (WW P l a) (fun g=>q.contains g):=
 let g:=qc b h
 ⟨g.spec,g.quiet,g.mixed,(fun _ _ h=>by cases h),(fun _ _ h=>by cases h)⟩
def J9(r:O)(x:O)(Y:Hp)(_:Nat):Prop:=∃a,(AM.freeze Y x).map (·.1)=some a/\YY a r
theorem lg{C:Ctx}{fn:Func}{code:Code}{args:zb}{r:O}(b:fn.body=some code)
  (h:vU C code ⟨jX args,fun _=>none,0⟩ (YX C.P fn (J9 r))):∃a,zt C fn args=some a/\YY a r:=by
 obtain⟨x,f,Z',c,a,d,e⟩:=zY b h;exact⟨a,by unfold zt;simp only[c];exact d,e⟩
theorem qa(x:O):YY x x:=by
 unfold YY;split
 ·exact⟨rfl,fun j x y b a=>by rw[b]at a;injection a with a;exact .inl a⟩
 ·exact .inl rfl
@[simp]theorem zbU(x y:Value)(Y:Hp)(Z:Nat):J9 (.v y) (.v x) Y Z=(x=y):=by simp only[J9,AM.freeze,qe,wg,zL,wb,exists_eq_left',YY,iZ];simp
theorem Vb{C:Ctx}{fn:Func}{code:Code}{args:zb}{Y:Hp}{Z:Nat}{r:Option jV}(b:fn.body=some code)
  (h:vU C code ⟨jX args,Y,Z⟩ (YX C.P fn (cN r))):∃x a Z',jG C fn args Y Z=some (x,a,Z')/\cN r x a Z':=zY b h
def wD(Y:Hp)(Z:Nat)(e s:Nat)(v:O)(xs:List zb):Prop:=(v=.nil/\xs=[])\/∃id,id<Z/\v=.own id 0 xs.length/\Y id=some ⟨e,s,true,xs⟩
def Z9(v:O)(Y:Hp):Hp:=match v with
 | .own id _ _=>ql Y id none
 |_=>Y
theorem wD.nil(Y:Hp)(Z e s:Nat):wD Y Z e s .nil []:=.inl ⟨rfl,rfl⟩
theorem wD.len{P:Program}{Y:Hp}{Z e s:Nat}{v:O}{xs:List zb}{t:TypeId}(h:wD Y Z e s v xs)(a:wC P t=some e):YJ P t v=some (.v (.int .i64 xs.length)):=by rcases h with⟨rfl,rfl⟩|⟨id,_,rfl,_⟩<;>simp[a]
theorem wD.jb{P:Program}{Y:Hp}{Z e s a:Nat}{v:O}{xs:List zb}{c z:zb}{t:TypeId}(h:wD Y Z e s v xs)(i:wC P t=some e)(hs:qj P e=some s)(j:vV P e=some a)(k:yn P e=some z)
  (b:z.length=s) (l:0<s) (d:xs.length+1<=maxLen) (f:(xs.length+1)*a<=140737488355328) :
  kA P (ql Y Z (some ⟨e,s,true,[c]⟩)) (Z+1) t t v (.own Z 0 1) =
   some (.own (Z+1) 0 (xs.length+1),ql (Z9 v (ql Y Z (some ⟨e,s,true,[c]⟩))) (Z+1) (some ⟨e,s,true,xs++[c]⟩),Z+2):=by
 rcases h with⟨rfl,rfl⟩|⟨id,hid,rfl,m⟩
 ·simp at d f;simp[kA,i,hs,j,k,b,l,d,f,AM.view,Z9]
 ·have g:¬id=Z:=by omega
  simp[kA,i,hs,j,k,b,l,d,f,AM.view,Z9,g,m]
theorem wD.after{Y:Hp}{Z e s:Nat}{v:O}{xs:List zb}{c:zb}{tmp:Option jV}:wD (ql (Z9 v (ql Y Z tmp)) (Z+1) (some ⟨e,s,true,xs++[c]⟩)) (Z+2) e s (.own (Z+1) 0 (xs.length+1)) (xs++[c]):=
 .inr ⟨Z+1,by omega,by simp,by simp⟩
theorem yo{Y:Hp}{Z e s:Nat}{v:O}{xs:List zb}(h:wD Y Z e s v xs)(b:Hp)(id:Nat)(a:∀n,v≠.own id 0 n):Z9 v b id=b id:=by
 rcases h with⟨rfl,rfl⟩|⟨k,c,rfl,d⟩
 ·rfl
 ·have:¬id=k:=fun e=>a _ (by rw[e])
  simp[Z9,this]
theorem wD.freeze{Y:Hp}{Z e s:Nat}{v:O}{xs:List zb}(h:wD Y Z e s v xs)(Z':Nat):J9 (.sl s xs) v Y Z':=by
 rcases h with⟨rfl,rfl⟩|⟨id,hid,rfl,a⟩
 ·exact⟨.nil,by simp,.inr ⟨rfl,s,rfl⟩⟩
 ·exact⟨.sl s xs,by simp[a],qa _⟩
theorem yF{α c:Type}{f:α->c}(h:∀a b,f a=f b->a=b):∀{xs ys:List α},xs.map f=ys.map f->xs=ys
 |[],[],_=>rfl
 |[],y::ys,e=>by simp at e
 |x::xs,[],e=>by simp at e
 |x::xs,y::ys,e=>by simp at e;rw[h x y e.1,yF h e.2]
def LK(I:Nat->(Nat->O)->Hp->Nat->Prop)(n k:Nat)(K:Exit->St->Prop)(e:Exit)(st:St):Prop:=match e with
 | .normal=>k+1<=n/\I (k+1) st.U st.Y st.Z
 |e=>K e st
@[simp]theorem Oo(I:Nat->(Nat->O)->Hp->Nat->Prop)(n k:Nat)(K:Exit->St->Prop)(st:St):LK I n k K .normal st=(k+1<=n/\I (k+1) st.U st.Y st.Z):=rfl
@[simp]theorem U0(I:Nat->(Nat->O)->Hp->Nat->Prop)(n k:Nat)(K:Exit->St->Prop)(st:St):LK I n k K .ret st=K .ret st:=rfl
@[simp]theorem Tx(I:Nat->(Nat->O)->Hp->Nat->Prop)(n k i:Nat)(K:Exit->St->Prop)(st:St):LK I n k K (.exit i) st=K (.exit i) st:=rfl
theorem zP{C:Ctx}{b:Code}{st:St}{K:Exit->St->Prop}(I:Nat->(Nat->O)->Hp->Nat->Prop)(n:Nat)(j:I 0 st.U st.Y st.Z)
  (a:∀k U Y Z,k<=n->I k U Y Z->vU C b ⟨U,Y,Z⟩ (LK I n k K)):vU C (.loop b) st K:=by
 have f:∀d k st,n-k=d->k<=n->I k st.U st.Y st.Z->vU C (.loop b) st K:=by
  intro d
  induction d with
  |zero=>
   intro k st hd g i;rw[zO];refine(a k st.U st.Y st.Z g i).mono fun e c h=>?_
   cases e
   case normal=>have:=h.1;omega
   all_goals exact h
  |succ d l=>
   intro k st hd g i;rw[zO];refine(a k st.U st.Y st.Z g i).mono fun e c h=>?_
   cases e
   case normal=>exact l (k+1) c (by omega) h.1 h.2
   all_goals exact h
 exact f _ 0 st rfl (ka _) j
variable{dr:Prop}
abbrev str(l:za):O:=.v (.string ⟨l.toArray⟩)
@[simp]theorem U1(l:za):(ByteArray.mk l.toArray).size=l.length:=by simp[ByteArray.size]
@[simp]theorem bget(l:za)(i:Nat):(ByteArray.mk l.toArray)[i]?=l[i]?:=by
 by_cases h:i<l.length
 ·rw[getElem?_pos (ByteArray.mk l.toArray) i (by simpa using h),zn h];rfl
 ·rw[getElem?_neg (ByteArray.mk l.toArray) i (by simpa using h),qS (by omega)]
@[simp]theorem Ff(l:za)(a b:Nat):(ByteArray.mk l.toArray).extract a b=⟨((l.drop a).take (b-a)).toArray⟩:=by have h:=Lib.extract_data (ByteArray.mk l.toArray) a b;rw[ByteArray.ext_iff];apply Array.toList_inj.1;rw[h]
theorem qv{a b:za}(h:str a=str b):a=b:=by injection h with h;injection h with h;injection h with h;simpa using zo Array.toList h
@[simp]theorem Ty(P:Program)(t:TypeId)(l:za)(k:IntKind)(i:Int)(h:P.underlying t=some .string):xN P t (.v (.string ⟨l.toArray⟩)) (.v (.int k i)) =
  if 0<=i then(l[i.toNat]?).map fun b=>.v (.int .u8 b.toNat)else none:=by
 simp only[xN,h,bget];split
 ·cases l[i.toNat]?<;>rfl
 ·rfl
@[simp]theorem Tz(P:Program)(Y:Hp)(t:TypeId)(l:za)(lo c:Option (Option O))(h:P.underlying t=some .string):yX P Y t (.v (.string ⟨l.toArray⟩)) lo c =
  (js 0 lo).bind fun a=>(js l.length c).bind fun b=>if a<=b/\b<=l.length then some (str ((l.drop a).take (b-a)))else none:=by
 simp only[yX,h,U1,Ff];cases js 0 lo<;>(try rfl);cases js l.length c<;>rfl
attribute [simp] js
@[simp]theorem LL(P:Program)(t:TypeId)(a b:Bool)(h:P.underlying t=some .bool):ZM P .eql t (.v (.bool a)) (.v (.bool b))=some (.v (.bool (a==b))):=by simp[ZM,h]
@[simp]theorem U2(P:Program)(s d:TypeId)(k:IntKind)(n:Int):J2 P s d (.v (.int k n))=(P.underlying s).bind fun _=>(P.underlying d).bind fun u=>match u with|.int a=>some (.v (.int a (a.wrap n)))|_=>none:=by simp only[J2];cases P.underlying s<;>(try rfl);cases P.underlying d<;>(try rfl);rename_i u;cases u<;>rfl
theorem Ar(a b:UInt8):((a.toNat:Int)==(b.toNat:Int))=decide (a=b):=by rw[yg];simp[<-O0];omega
theorem wR{F:zb->Option O}{b:List Nat}{a:Bool}{args c:zb}{Y Y1:Hp}{Z:Nat}{r:O}(d:zy Y args=some (c,Y1))(e:F (yr b c)=some r)(f:r.flat=true\/args.all O.noOwn=true) :
  zg a b F args Y Z=some (r,Y,Z):=by
 unfold zg;simp only[d,e,f,qI]
theorem zT{k:IntKind}{a b:Int}(h:O.v (.int k a)=.v (.int k b)):a=b:=by injection h with h;injection h
theorem Z1{a b:Bool}(h:O.v (.bool a)=.v (.bool b)):a=b:=by injection h with h;injection h
def U3{α a:Type}(f:α->a)(K:a->Prop)(x:α):Prop:=K (f x)
def Oq{α a:Type}(f:α->Option a)(K:a->Prop)(x:α):Prop:=QE (f x) K
@[simp]theorem TA{α a:Type}(f:α->a)(K:a->Prop)(x:α):U3 f K x=K (f x):=rfl
@[simp]theorem TB{α a:Type}(f:α->Option a)(K:a->Prop)(x:α):Oq f K x=QE (f x) K:=rfl
@[simp]theorem PF{α a:Type}(f:α->Option a)(o:Option α)(K:a->Prop):QE (o.bind f) K=QE o (Oq f K):=by cases o<;>simp[QE]
def Zy(C:Ctx)(pf:FuncId->Bool)(f:FuncId)(fn:Func):Prop:=∃code,V7 C pf f fn code
theorem yt{C:Ctx}{pf:FuncId->Bool}{f:FuncId}{fn:Func}(e:kV dr C pf)(b:Zy C pf f fn)(a:Bool)(c:List Nat)(F:zb->Option O)(hF:∀args r,F args=some r->args.length<=fn.ntmps/\∃d,zt C fn args=some d/\YY d r):kF dr C.P f (zg a c F):=
 let⟨_,b⟩:=b
 nJ e b a c F hF
def kOk(pf:FuncId->Bool)(C:Ctx)(fn:Func):Bool:=!(fn.name== "runtime.NumGoroutine")&&match fn.body with
 |some c=>kj pf C.dyn C.Ey C.bk fn.ntmps c
 |none=>false
theorem qW{C:Ctx}{pf:FuncId->Bool}{f:FuncId}{fn:Func}(h:C.P.funcs[f]?=some fn)(a:kOk pf C fn=true:=by kernel_rfl):Zy C pf f fn:=by
 unfold kOk at a;split at a
 ·rename_i c b;simp only[zx,kU]at a;exact⟨c,h,a.1,b,a.2⟩
 ·simp at a
theorem kL{C:Ctx}{pf:FuncId->Bool}{f:FuncId}{fn:Func}{α:Type}{V:α->zb}{pre:α->Prop}{out:α->O}(e:kV dr C pf)(h:C.P.funcs[f]?=some fn)(b:Bool)(c:List Nat)(hF:∀a,pre a->(V a).length<=fn.ntmps/\∃d,zt C fn (V a)=some d/\YY d (out a))(g:kOk pf C fn=true:=by kernel_rfl):kF dr C.P f (zg b c (zS V pre out)):=
 yt e (qW h g) b c _ fun args r h=>by obtain⟨a,rfl,Y,rfl⟩:=qd h;exact hF a Y
theorem Zc{α:Type}{V:α->zb}{pre:α->Prop}{out:α->O}(a:α)(Y:Hp)(Z:Nat)(b:zy Y (V a)=some (V a,Y))(c:∀x y,V x=V y->x=y)(h:pre a)(d:(out a).flat=true\/(V a).all O.noOwn=true):zg false [] (zS V pre out) (V a) Y Z=some (out a,Y,Z):=
 wR b (by
  have e:∀l:zb,yr [] l=l:=fun l=>by cases l<;>rfl
  rw[e];exact qx c h) d
noncomputable def qq (C:Ctx) (fn:Func):AM.Spec:=fun args Y Z=>if args.length<=fn.ntmps then jG C fn args Y Z else none
theorem sV{C:Ctx}{pf:FuncId->Bool}{f:FuncId}{fn:Func}{code:Code}(b:kV dr C pf)(a:V7 C pf f fn code):kF dr C.P f (qq C fn):=by
 refine⟨⟨fn,a.func,a.name,by rw[a.body];rfl⟩,?_⟩;intro args Y Z r g Z' h w S G vs c d;unfold qq at h;split at h
 ·rename_i e;exact cK b.spec b.quiet b.box b.iter b.mixed a.func a.body a.ok h c d e
 ·cases h
theorem w8{C:Ctx}{pf:FuncId->Bool}{f:FuncId}{fn:Func}(a:kV dr C pf)(h:C.P.funcs[f]?=some fn)(b:kOk pf C fn=true:=by kernel_rfl):kF dr C.P f (qq C fn):=let⟨_,k⟩:=qW h b;sV a k
end Go.AM
namespace Go.AM
open Go.RowKit Go.WideShapes Go.ChangeShapes
variable{dr:Prop}
section
variable{H:Type}{V:TypeId×Value->H}{P:Program}
theorem Ka(g:laidOutB P=true){W i:World}(j:Below W.heap.size W i){sp:Nat->Bool}:∀{ts:List TypeId} {vs:List Value} {ds:List (DataW H)} {b:List MemPlace},(∀t∈ts,P.readableRec t=true/\t<P.types.size) ->
  DataW.TrodAll V P W 0 (fun _=>true) true ts vs ds b->(∀p∈b,p.block<W.heap.size)->(∀p∈b,sp p.block=true)->DataW.TrodAll V P i 0 sp true ts vs ds b
 |[],vs,ds,b,_,h,_,_=>by obtain⟨rfl,rfl,rfl⟩:=trodAll_nil h;exact trodAll_mk0
 |t::ts,vs,ds,b,f,h,c,e=>by
  obtain⟨v,k,d,l,p,q,rfl,rfl,rfl,m,n⟩:=trodAll_cons h;exact trodAll_cons_mk (WideElems.Trod_stays g (f t (by simp)).1 (f t (by simp)).2 m (fun x a=>j.same (c x (by simp[a]))) (fun x a=>e x (by simp[a])))
   (Ka g j (fun u o=>f u (by simp[o])) n (fun x a=>c x (by simp[a])) (fun x a=>e x (by simp[a])))
theorem Fg{f:Func}{s:ChangeSpec}{a h c i:Bool}{W l:World}{args:Array Value}{ds C:List (DataW H)}{before:List MemPlace}(D:laidOutB P=true)(E:∀t∈f.params.toList,P.readableRec t=true/\t<P.types.size)
  (z:s.vars=[]) (u:DataW.Whole V P f.params.toList s.vars a W args.toList ds C before) (j:s.fn H ds={results:=[.lit (.bool true)],args:=ds}) {tb:TypeId} (A:f.resultTypes=#[tb]) (m:P.underlying tb=some .bool) (v:Below W.heap.size W l) :
  s.post V P f a h c i W args (.bool true) l:=by
 have k:∀p∈before,p.block<W.heap.size:=fun p Y=>u.lt p Y
 have w:=u;obtain⟨p,q,F,B,n,G,I⟩:=u;rw[z]at B;obtain⟨rfl,rfl⟩:=trodVars_none B;simp only[yh]at n;subst n;have x:DataW.TrodAll V P W 0 (fun _=>true) true f.params.toList args.toList ds before:=F;have d:∀sp:Nat->Bool,(∀p∈before,sp p.block=true)->DataW.TrodAll V P l 0 sp true f.params.toList args.toList ds before:=fun sp y=>Ka D v E x k y
 have o:∀p∈before,(fun b=>decide (b<W.heap.size)) p.block=true:=fun p Y=>by simpa using k p Y
 have g:∀(b:Nat) (sp:Nat->Bool) (hd:Bool),DataW.TrodAll V P l b sp hd f.resultTypes.toList ((Value.bool true).resultList f.resultTypes.size) [.lit (.bool true)] []:=fun b sp hd=>by rw[A];exact trodAll_cons_mk (shut_bool m _) trodAll_mk0
 have e:∀sp,DataW.TrodVars V P l sp s.vars [] []:=fun sp=>by rw[z];rfl
 refine⟨ds,[],before,[],before,[],by simpa using w,?_,?_,?_,World.keptBut_mono (fun p Y=>⟨Y,.inr (.inl Y)⟩) (v.frame (·∈before)),fun _=>?_⟩
 ·rw[yh,j];exact g _ _ _
 ·rw[yh,j];exact d _ o
 ·rw[yh,j];exact e _
 ·refine⟨ok_one A rfl (okWide_bool_mk m _),_,_,([]++before)++[],⟨[]++before,[],trodAll_append (d _ (fun _ _=>rfl)) (g _ _ _),e _,rfl,?_,?_⟩,?_⟩
  ·intro b off Y;have r:MemPlace.cell b off∈before:=by simpa using Y
   rw[v.frozen (k _ r)];exact G b off (by simpa using r)
  ·intro J;have:=I J;simpa using this
  ·intro p Y _;simpa using Y
end
end Go.AM
namespace Go.AM
variable{dr:Prop}
def Xm:Op->Bool
 | .move _|.assign _|.pick _ _ _|.load _ _|.binOp _ _ _ _ _|.unOp _ _ _|.convert _ _ _|.fieldAddr _ _ _|.field _ _ _|.indexAddr _ _ _|.index _ _ _|.extract _ _=>true
 | .slice _ _ _ _ none=>true
 | .call c=>match c.callee with
  | .builtin .len=>true
  | .builtin .min=>true
  | .builtin .max=>true
  |_=>false
 |_=>false
def lh(C:Ctx)(st:St)(op:Op):Option O:=(zF C (get st.U) st.Y st.Z op).map (·.1)
theorem Y5{o:Option O}{Y:Hp}{Z:Nat}:(o.map fun y=>(y,Y,Z))=((o.map fun y=>(y,Y,Z)).map (·.1)).map fun x=>(x,Y,Z):=by cases o<;>rfl
theorem kn{o:Option O}{Y:Hp}{Z:Nat}:(o.bind fun y=>some (y,Y,Z))=((o.bind fun y=>some (y,Y,Z)).map (·.1)).map fun x=>(x,Y,Z):=by cases o<;>rfl
theorem Cf{C:Ctx}{st:St}{op:Op}(h:Xm op=true):zF C (get st.U) st.Y st.Z op=(lh C st op).map fun x=>(x,st.Y,st.Z):=by
 unfold lh;generalize get st.U=ρ;cases op with
 |move x=>simp only[Lt];exact Y5
 |assign x=>simp only[Ce];exact Y5
 |pick c a b=>simp only[Lu];exact Y5
 |load t a=>simp only[Lw];cases ρ a<;>(try rfl);exact kn
 |binOp op t x y j=>simp only[Pu];cases ρ x<;>cases ρ y<;>(try rfl);exact kn
 |unOp op t x=>simp only[UH];cases ρ x<;>(try rfl);exact kn
 |convert s d x=>simp only[Lv];cases ρ x<;>(try rfl);exact kn
 |fieldAddr t x f=>simp only[lb];cases ρ x<;>(try rfl);exact kn
 |field t x f=>simp only[Fb];cases ρ x<;>(try rfl);exact kn
 |indexAddr t x i=>simp only[lf];cases ρ x<;>cases ρ i<;>(try rfl);exact kn
 |index t x i=>simp only[Fc];cases ρ x<;>cases ρ i<;>(try rfl);exact kn
 |extract x i=>simp only[sS];cases ρ x<;>(try rfl);exact kn
 |slice t x lo k g=>
  cases g with
  |none=>simp only[Fe];cases ρ x<;>(try rfl);exact kn
  |some m=>simp[Xm]at h
 |call c=>
  obtain⟨e,args,ts⟩:=c;cases e with
  |builtin b=>
   simp only[sT];cases wH (args.toList.map ρ)with
   |none=>rfl
   |some xs=>
    simp only[Option.bind_eq_bind,zV];cases b<;>(try (simp[Xm]at h;done))
    case len=>
     cases xs with
     |nil=>rfl
     |cons x l=>
      cases l with
      |nil=>simp only[LC];cases ts[0]?<;>(try rfl);exact kn
      |cons _ _=>rfl
    case min=>simp only[LD];exact Y5
    case max=>simp only[LF];exact Y5
  |_=>simp[Xm]at h
 |_=>simp[Xm]at h
def jJ(C:Ctx)(g:FuncId):Prop:=∀a,C.Γ g=some a->Zk a
def jY(C:Ctx)(op:Op):Prop:=∀st:St,zF C (get st.U) st.Y st.Z op=(lh C st op).map fun x=>(x,st.Y,st.Z)
theorem yM{C:Ctx}{op:Op}(h:Xm op=true):jY C op:=fun _=>Cf h
@[simp]theorem zbV(C:Ctx)(g:FuncId)(a:Array Operand)(ts:Array TypeId)(h:jJ C g):jY C (.call ⟨.value (.func g),a,ts⟩):=by
 intro st;unfold lh;simp only[LA,Fa];cases wH (a.toList.map (get st.U))with
 |none=>rfl
 |some xs=>
  simp only[Option.bind_eq_bind,zV];cases hs:C.Γ g with
  |none=>simp[yR,hs]
  |some b=>
   rw[sU C st.Y st.Z g [] [] xs b hs];cases c:b ([]++xs++[]) st.Y st.Z with
   |none=>rfl
   |some r=>obtain⟨x,d,Z'⟩:=r;obtain⟨⟨rfl,rfl⟩,_⟩:=h b hs _ _ _ _ _ _ c;rfl
theorem yA{P:Program}{l:kW}{g:Nat}{a:AM.Spec}(h:lookup l g=some a)(b:Zk a):jJ (zG P l) g:=fun s hs=>by
 have:lookup l g=some s:=hs;rw[h]at this;injection this with this
 exact this ▸ b
@[simp]theorem zbW(C:Ctx)(x:Operand):jY C (.move x):=yM rfl
@[simp]theorem TC(C:Ctx)(x:Operand):jY C (.assign x):=yM rfl
@[simp]theorem zbX(C:Ctx)(c a b:Operand):jY C (.pick c a b):=yM rfl
@[simp]theorem zbY(C:Ctx)(t:TypeId)(x:Operand):jY C (.load t x):=yM rfl
@[simp]theorem zcr(C:Ctx)(o:BinOp)(t a:TypeId)(x y:Operand):jY C (.binOp o t x y a):=yM rfl
@[simp]theorem zcU(C:Ctx)(o:UnOp)(t:TypeId)(x:Operand):jY C (.unOp o t x):=yM rfl
@[simp]theorem zbZ(C:Ctx)(t u:TypeId)(x:Operand):jY C (.convert t u x):=yM rfl
@[simp]theorem zcV(C:Ctx)(t:TypeId)(x:Operand)(f:Nat):jY C (.fieldAddr t x f):=yM rfl
@[simp]theorem zcW(C:Ctx)(t:TypeId)(x:Operand)(f:Nat):jY C (.field t x f):=yM rfl
@[simp]theorem zcX(C:Ctx)(t:TypeId)(x i:Operand):jY C (.indexAddr t x i):=yM rfl
@[simp]theorem zcY(C:Ctx)(t:TypeId)(x i:Operand):jY C (.index t x i):=yM rfl
@[simp]theorem zcZ(C:Ctx)(x:Operand)(i:Nat):jY C (.extract x i):=yM rfl
@[simp]theorem zc0(C:Ctx)(t:TypeId)(x:Operand)(lo a:Option Operand):jY C (.slice t x lo a none):=yM rfl
@[simp]theorem zcs(C:Ctx)(a:Array Operand)(ts:Array TypeId):jY C (.call ⟨.builtin .len,a,ts⟩):=yM rfl
@[simp]theorem zct(C:Ctx)(a:Array Operand)(ts:Array TypeId):jY C (.call ⟨.builtin .min,a,ts⟩):=yM rfl
@[simp]theorem zcu(C:Ctx)(a:Array Operand)(ts:Array TypeId):jY C (.call ⟨.builtin .max,a,ts⟩):=yM rfl
def bc{α:Type}(y:Bool)(a b:α):α:=match y with
 |true=>a
 |false=>b
@[simp]theorem zb0{α:Type}(a b:α):bc true a b=a:=rfl
@[simp]theorem U4{α:Type}(a b:α):bc false a b=b:=rfl
@[simp]theorem zcv{α:Type}(y:Bool)(a b:α):bc (!y) a b=bc y b a:=by cases y<;>rfl
@[simp]theorem zb1{α:Type}(y:Bool)(a:α):bc y a a=a:=by cases y<;>rfl
def bx(y:Bool):Bool:=y
@[simp]theorem zb2:bx true=true:=rfl
@[simp]theorem U5:bx false=false:=rfl
@[simp]theorem zcw{α:Type}(y:Bool)(a b c:α):bc y (bc y a b) c=bc y a c:=by cases y<;>rfl
@[simp]theorem zcx{α:Type}(y:Bool)(a b c:α):bc y a (bc y b c)=bc y a c:=by cases y<;>rfl
def fw(C:Ctx)(st:St)(op:Op)(y:Option Bool)(b:Bool):Option O:=if y=some b then lh C st op else some (.q8 [])
section
variable(C:Ctx)(d:Option Tmp)(op:Op)(st:St)
theorem cO(y:Option Bool)(b:Bool)(h:jY C op):vC C d op st y b=(fw C st op y b).map fun x=>⟨put st.U d x,st.Y,st.Z⟩:=by
 unfold vC fw;rw[h st];split
 ·cases lh C st op<;>rfl
 ·rfl
@[simp low] theorem PG(y b:Bool)(h:jY C op):vC C d op st (some y) b=(fw C st op (some y) b).map fun x=>⟨put st.U d x,st.Y,st.Z⟩:=cO C d op st _ b h
@[simp]theorem U6(y:Bool)(p q:Option Bool)(b:Bool)(h:jY C op):vC C d op st (bc y p q) b=(fw C st op (bc y p q) b).map fun x=>⟨put st.U d x,st.Y,st.Z⟩:=cO C d op st _ b h
@[simp]theorem zb3(y:Bool)(p q:Option Bool)(b:Bool):fw C st op (bc y p q) b=bc y (fw C st op p b) (fw C st op q b):=by cases y<;>rfl
@[simp]theorem TD(b:Bool):fw C st op none b=some (.q8 []):=rfl
@[simp]theorem zcy(y:Bool):fw C st op (some y) true=bc (bx y) (lh C st op) (some (.q8 [])):=by cases y<;>rfl
@[simp]theorem zcz(y:Bool):fw C st op (some y) false=bc (bx y) (some (.q8 [])) (lh C st op):=by cases y<;>rfl
end
@[simp]theorem TE(y:Bool)(a b:O):Y4 (bc y a b)=bc y (Y4 a) (Y4 b):=by cases y<;>rfl
@[simp]theorem zb4{α:Type}(y:Bool)(a b:α):bc y (some a) (some b)=some (bc y a b):=by cases y<;>rfl
@[simp]theorem U7(y z:Bool)(w:O):Z8 (some (.v (.bool y))) (some (bc (bx y) (.v (.bool z)) w)) (some (.v (.bool false)))=some (.v (.bool (y&&z))):=by cases y<;>rfl
@[simp]theorem zb5(y z:Bool)(w:O):Z8 (some (.v (.bool y))) (some (.v (.bool true))) (some (bc (bx y) w (.v (.bool z))))=some (.v (.bool (y||z))):=by cases y<;>rfl
@[simp]theorem U8{α:Type}(y c:Bool)(a b d0 d:α):bc y (bc c (bc y a b) d) d0=bc y (bc c a d) d0:=by cases y<;>rfl
@[simp]theorem U9{α:Type}(y c:Bool)(a b d0 d:α):bc y (bc c d (bc y a b)) d0=bc y (bc c d a) d0:=by cases y<;>rfl
@[simp]theorem zaa{α:Type}(y c:Bool)(a b d e:α):bc y d (bc c (bc y a b) e)=bc y d (bc c b e):=by cases y<;>rfl
@[simp]theorem zab{α:Type}(y c:Bool)(a b d e:α):bc y d (bc c e (bc y a b))=bc y d (bc c e b):=by cases y<;>rfl
@[simp]theorem zac{α:Type}(y c d:Bool)(a b d0 e f:α):bc y (bc c (bc d (bc y a b) f) e) d0=bc y (bc c (bc d a f) e) d0:=by cases y<;>rfl
@[simp]theorem zad{α:Type}(y c d:Bool)(a b d0 e f:α):bc y (bc c (bc d f (bc y a b)) e) d0=bc y (bc c (bc d f a) e) d0:=by cases y<;>rfl
@[simp]theorem zae{α:Type}(y c d:Bool)(a b d0 e f:α):bc y (bc c e (bc d (bc y a b) f)) d0=bc y (bc c e (bc d a f)) d0:=by cases y<;>rfl
@[simp]theorem zaf{α:Type}(y c d:Bool)(a b d0 e f:α):bc y (bc c e (bc d f (bc y a b))) d0=bc y (bc c e (bc d f a)) d0:=by cases y<;>rfl
@[simp]theorem zag{α:Type}(y c d:Bool)(a b e f g:α):bc y e (bc c (bc d (bc y a b) g) f)=bc y e (bc c (bc d b g) f):=by cases y<;>rfl
@[simp]theorem TF{α:Type}(y c d:Bool)(a b e f g:α):bc y e (bc c (bc d g (bc y a b)) f)=bc y e (bc c (bc d g b) f):=by cases y<;>rfl
@[simp]theorem TG{α:Type}(y c d:Bool)(a b e f g:α):bc y e (bc c f (bc d (bc y a b) g))=bc y e (bc c f (bc d b g)):=by cases y<;>rfl
@[simp]theorem TH{α:Type}(y c d:Bool)(a b e f g:α):bc y e (bc c f (bc d g (bc y a b)))=bc y e (bc c f (bc d g b)):=by cases y<;>rfl
section
variable(P:Program)(C:Ctx)(Y:Hp)(Z:Nat)(t u:TypeId)(y:Bool)(a b:O)
@[simp]theorem zb6:kO P Y t (bc y a b)=bc y (kO P Y t a) (kO P Y t b):=by cases y<;>rfl
@[simp]theorem zb7(o:BinOp)(x:O):ZM P o t (bc y a b) x=bc y (ZM P o t a x) (ZM P o t b x):=by cases y<;>rfl
@[simp]theorem zb8(o:BinOp)(x:O):ZM P o t x (bc y a b)=bc y (ZM P o t x a) (ZM P o t x b):=by cases y<;>rfl
@[simp]theorem zah(c:Bool)(o:BinOp)(x:O):YO c P o t (bc y a b) x=bc y (YO c P o t a x) (YO c P o t b x):=by cases y<;>rfl
@[simp]theorem zai(c:Bool)(o:BinOp)(x:O):YO c P o t x (bc y a b)=bc y (YO c P o t x a) (YO c P o t x b):=by cases y<;>rfl
@[simp]theorem zc1(o:UnOp):IZ o (bc y a b)=bc y (IZ o a) (IZ o b):=by cases y<;>rfl
@[simp]theorem zb9:J2 P t u (bc y a b)=bc y (J2 P t u a) (J2 P t u b):=by cases y<;>rfl
@[simp]theorem LM(f:Nat):yl P t f (bc y a b)=bc y (yl P t f a) (yl P t f b):=by cases y<;>rfl
@[simp]theorem Ot(f:Nat):xg P t f (bc y a b)=bc y (xg P t f a) (xg P t f b):=by cases y<;>rfl
@[simp]theorem I4(x:O):qi P Y t (bc y a b) x=bc y (qi P Y t a x) (qi P Y t b x):=by cases y<;>rfl
@[simp]theorem I5(x:O):qi P Y t x (bc y a b)=bc y (qi P Y t x a) (qi P Y t x b):=by cases y<;>rfl
@[simp]theorem TI(x:O):xN P t (bc y a b) x=bc y (xN P t a x) (xN P t b x):=by cases y<;>rfl
@[simp]theorem TJ(x:O):xN P t x (bc y a b)=bc y (xN P t x a) (xN P t x b):=by cases y<;>rfl
@[simp]theorem zcA:YJ P t (bc y a b)=bc y (YJ P t a) (YJ P t b):=by cases y<;>rfl
@[simp]theorem TK(lo c:Option (Option O)):yX P Y t (bc y a b) lo c=bc y (yX P Y t a lo c) (yX P Y t b lo c):=by cases y<;>rfl
@[simp]theorem TL(x:O)(c:Option (Option O)):yX P Y t x (some (some (bc y a b))) c=bc y (yX P Y t x (some (some a)) c) (yX P Y t x (some (some b)) c):=by cases y<;>rfl
@[simp]theorem TM(x:O)(lo:Option (Option O)):yX P Y t x lo (some (some (bc y a b)))=bc y (yX P Y t x lo (some (some a))) (yX P Y t x lo (some (some b))):=by cases y<;>rfl
@[simp]theorem PH(i:Nat):Wi i (bc y a b)=bc y (Wi i a) (Wi i b):=by cases y<;>rfl
@[simp]theorem zaj(p q:Option O):Z8 (some (bc y a b)) p q=bc y (Z8 (some a) p q) (Z8 (some b) p q):=by cases y<;>rfl
@[simp low] theorem zak(p q:Option O):Z8 p (some (bc y a b)) q=bc y (Z8 p (some a) q) (Z8 p (some b) q):=by cases y<;>rfl
@[simp low] theorem zal(p q:Option O):Z8 p q (some (bc y a b))=bc y (Z8 p q (some a)) (Z8 p q (some b)):=by cases y<;>rfl
@[simp]theorem zam(c:Bool)(d:List Nat)(F:zb->Option O)(l:zb):zg c d F (bc y a b::l) Y Z=bc y (zg c d F (a::l) Y Z) (zg c d F (b::l) Y Z):=by cases y<;>rfl
@[simp]theorem zan(c:Bool)(d:List Nat)(F:zb->Option O)(x:O)(l:zb):zg c d F (x::bc y a b::l) Y Z=bc y (zg c d F (x::a::l) Y Z) (zg c d F (x::b::l) Y Z):=by cases y<;>rfl
@[simp]theorem zao(c:Bool)(d:List Nat)(F:zb->Option O)(x z:O)(l:zb):zg c d F (x::z::bc y a b::l) Y Z=bc y (zg c d F (x::z::a::l) Y Z) (zg c d F (x::z::b::l) Y Z):=by cases y<;>rfl
end
@[simp]theorem zcB{α c:Type}(y:Bool)(f:α->c)(a b:Option α):(bc y a b).map f=bc y (a.map f) (b.map f):=by cases y<;>rfl
@[simp]theorem zca{α c:Type}(y:Bool)(f:α->Option c)(a b:Option α):(bc y a b).bind f=bc y (a.bind f) (b.bind f):=by cases y<;>rfl
attribute [simp] lh
variable{dr:Prop}
def nO(k:Nat)(D:List (Tmp×Tmp))(i:Nat):List (Tmp×Tmp):=if i=k then D else[]
@[simp]theorem PI(P:Program)(l:kW)(k:Nat)(D:List (Tmp×Tmp))(i:Nat):(WW P l (nO k D)).dyn i=if i=k then D else[]:=rfl
@[simp]theorem Fh(P:Program)(l:kW)(k:Nat)(D:List (Tmp×Tmp))(i:Nat)(a:Array Oper)(d:Bool)(st:St)(K:Exit->St->Prop)(h:¬i=k):vU (WW P l (nO k D)) (.region i a d) st K=cH (WW P l (nO k D)) a a.toList st (Wg K):=Z7 _ i a d st K (by simp[h]) rfl
theorem cP{a b:Tmp}{st:St}{id i j id' i' j':Nat}{blk:jV}(d:st.U a=.ref id i j)(e:st.U b=.ref id' i' j')(f:id≠id')(g:st.Y id'=some blk)(h:blk.arr=false):Zw [(a,b)] st:=by
 intro p Y;obtain rfl:=we.1 Y;intro k l m c;rw[d]at c;injection c with c _ _
 subst c;exact⟨id',i',j',blk,e,f,g,h⟩
theorem cQ{w:World}{S:Nat->Prop}{G:Nat->GI}{Z:Nat}:∀{us vs:List Value},(∀u∈us,lit u=true)->Zip (zW w S G Z) (us.map O.v) vs->vs=us
 |[],vs,_,h=>by have:=h.1;simp at this;exact qC.1 this.symm
 |u::us,vs,a,h=>by
  obtain⟨v,b,rfl,d,e⟩:=h.jy;rw[cQ (fun x f=>a x (by simp[f])) e];congr 1;cases d with
  |c g=>exact g.wF.1
theorem lj{P:Program}{g:FuncId}{F:zb->Option O}(j:∃fn,P.funcs[g]?=some fn/\(fn.name== "runtime.NumGoroutine")=false/\fn.body.isNone=false)
  (h:∀args r,F args=some r->∃us:List Value,args=us.map O.v/\(∀u∈us,lit u=true)/\∃v,r=.v v/\lit v=true/\∀w,Calls P g us.toArray w fun e q=>e=.returned v/\q=w):kF dr P g (zg false [] F):=by
 refine⟨j,?_⟩;intro args Y Z r I Z' hs w S G vs s t;unfold zg at hs;split at hs
 ·rename_i k Y1 m;split at hs
  ·rename_i J hF;obtain⟨us,e,z,v,rfl,A,B⟩:=h _ _ hF;have C:yr [] k=k:=by cases k<;>rfl
   rw[C]at e;subst e;have d:args=us.map O.v:=by
    have n:∀(args:zb) (us:List Value) (Y1:Hp),zy Y args=some (us.map O.v,Y1)->args=us.map O.v:=by
     intro args
     induction args with
     |nil=>intro us Y1 b;simp only[zy]at b;injection b with b;injection b with b _
     |cons x l D=>
      intro us Y1 b;simp only[zy]at b;split at b
      ·rename_i y Y2 a;split at b
       ·rename_i K o p;injection b with b
        injection b with b _;cases us with
        |nil=>simp at b
        |cons u us=>
         simp only[z6,zc]at b;obtain⟨rfl,rfl⟩:=b;have E:x=.v u/\Y2=Y:=by
          unfold qe at a;split at a
          ·split at a
           ·injection a with a;injection a with a _;cases a
           ·cases a
          ·unfold wg at a;split at a<;>first
            |(split at a<;>first|(split at a<;>first|(injection a with a;injection a with a _;cases a;done)|cases a)|cases a)
            |(injection a with a;injection a with i f;first|(exact⟨by rw[<-i],f.symm⟩)|cases i)
            |cases a
         obtain⟨rfl,rfl⟩:=E;rw[D us o p];rfl
       ·cases b
      ·cases b
    exact n args us Y1 m
   subst d;simp only[O.flat,true_or,qI]at hs;injection hs with hs
   injection hs with i f;injection f with f H;subst i;subst f;subst H;rw[cQ z t];refine(B w).mono fun e q b=>?_
   obtain⟨rfl,rfl⟩:=b;exact⟨v,S,G,rfl,j6.refl s,.c (.v A)⟩
  ·cases hs
 ·cases hs
theorem Y6:∀(l cs:zb) (off:Nat),off+l.length<=cs.length->yi cs off l=cs.take off++l++cs.drop (off+l.length)
 |[],cs,off,_=>by simp
 |x::l,cs,off,h=>by
  simp only[zU]at h;rw[yi,Y6 l (cs.set off x) (off+1) (by simp;omega)];have b:(cs.set off x).take (off+1)=cs.take off++[x]:=by
   rw[qo (by simp;omega)];have c:(cs.set off x).take off=cs.take off:=by
    apply Bw;intro j;simp only[wM,List.getElem?_set];by_cases a:j<off
    ·simp[a,show¬off=j by omega]
    ·simp[a]
   rw[c];simp
  have d:(cs.set off x).drop (off+1+l.length)=cs.drop (off+(x::l).length):=by rw[List.drop_set_of_lt (by omega)];simp only[zU];congr 1;omega
  rw[b,d];simp
@[simp]theorem Fi(z cs:zb)(h:cs.length=z.length):yi z 0 cs=cs:=by rw[Y6 cs z 0 (by omega)];simp[h]
@[simp]theorem I6(x:O)(z cs:zb)(h:cs.length=z.length):yi (x::z) 1 cs=x::cs:=by rw[Y6 cs (x::z) 1 (by simp;omega)];simp[show 1+cs.length=z.length+1 by omega]
@[simp]theorem IA(U:Nat->O):AM.get U (.const .nilIface)=some (.v .nilIface):=rfl
section
variable(C:Ctx)(ρ:Operand->Option O)(Y:Hp)(Z:Nat)
def sW:O->Option O
 | .ref id i j=>some (.ref id i j)
 | .ptr cs=>some (.ptr cs)
 |_=>none
@[simp]theorem PJ(id i j:Nat):sW (.ref id i j)=some (.ref id i j):=rfl
@[simp]theorem PK(cs:zb):sW (.ptr cs)=some (.ptr cs):=rfl
@[simp]theorem Ou(x:Operand):zF C ρ Y Z (.nilCheck x)=(do let p <-ρ x;let r <-sW p;some (r,Y,Z)):=by
 simp only[zF];cases ρ x with
 |none=>rfl
 |some p=>cases p<;>rfl
end
theorem Fj{α:Type}(f:Nat->α)(k:Nat)(x:α)(h:f k=x):ql f k x=f:=by
 funext i;by_cases e:i=k
 ·subst e;simp[h]
 ·simp[e]
@[simp]theorem zap(i:Nat):O.cells (.mp i)=[.mp i]:=rfl
@[simp]theorem TN(i:Nat):O.wz (.mp i)=true:=rfl
variable{dr:Prop}
section
variable{C:Ctx}{pf:FuncId->Bool}{f:FuncId}{fn:Func}{code:Code}
theorem lk(hg:kV dr C pf)(s:V7 C pf f fn code)(k:Bool)(ns:List Nat)(F:zb->Option O)
  (hF:∀args r,F args=some r->∀(w:World) (S:Nat->Prop) (vs:List Value),Zip (q9 w S) args vs->∃a t,Zip (q9 w S) a vs/\a.length<=fn.ntmps/\zt C fn a=some t/\∀(w:World) (S:Nat->Prop) (u:Value),q9 w S t u->q9 w S r u):kF dr C.P f (zg k ns F):=by
 refine⟨⟨fn,s.func,s.name,by rw[s.body];rfl⟩,?_⟩;intro args Y Z r Y' Z' h w S G vs hi hz;unfold zg at h;split at h
 ·rename_i aZ Y1 z;split at h
  ·rename_i t A;obtain⟨S1,y,B,D⟩:=yZ (dr:=dr) hi z hz;obtain⟨a,rr,E,hn,d,H⟩:=hF _ t A w S1 vs (Zm B);unfold zt at d;split at d
   ·rename_i x hpe nxe I;obtain⟨⟨r1,hpf1⟩,J,l⟩:=zH d;simp only at l;subst l;refine(xQ hg s I hn y.inv.st y.inv.bF E).mono fun e w' hh=>?_
    obtain⟨v,S',G',he,fr,m,hx,hs0,K,_⟩:=hh;obtain⟨S2,k2,L⟩:=ZO (dr:=dr) m J hx;have M:=H _ _ _ L;have n:∀b,S2 b->S1 b\/(w.heap.size<=b/\b<w'.heap.size):=by
     intro b j;have o:=k2.inv.st b j;rcases k2.from_ b j with h1|⟨id,blk,h1,rfl⟩|h1
     ·rcases K b h1 with N|N
      ·exact .inl N
      ·exact .inr ⟨N,o⟩
     ·rcases Nat.lt_or_ge (G' id).g w.heap.size with h3|h3
      ·rename_i p;have:=p id blk h1;omega
      ·exact .inr ⟨h3,o⟩
     ·exact absurd h1 (by omega)
    split at h
    ·rename_i i;injection h with h
     injection h with Q h;injection h with R T;subst Q;subst R;subst T;refine⟨v,_,G,he,j6.outer hi fr,.c ?_⟩;rcases i with W|X
     ·exact cL M W
     ·have q:=D X;exact M.mono fun b j=>⟨by rw[<-q];exact n b j,rfl⟩
    ·split at h
     ·injection h with h;injection h with Q h;injection h with R T;subst Q;subst R;subst T;exact⟨v,_,G,he,y.trans (j6.outer y.inv fr),.c (M.mono fun b j=>⟨n b j,rfl⟩)⟩
     ·cases h
   ·cases d
  ·cases h
 ·cases h
inductive Ab (s:Nat):List (List O)->O->Prop
 |nil:Ab s [] .nil
 |em:Ab s [] .em
 |sl {c:List O} {es:List (List O)}:Ab s (c::es) (.sl s (c::es))
theorem Fk{w:World}{S:Nat->Prop}{s:Nat}{es:List zb}{u:Value}(h:q9 w S (.sl s es) u):∃y,Ab s es y/\q9 w S y u:=by
 cases es with
 |cons c es=>exact⟨_,.sl,h⟩
 |nil=>
  cases h with
  |sl us a d b e f g=>
   rename_i A cap;cases A with
   |none=>have:=a rfl;subst this;exact⟨.nil,.nil,.nil⟩
   |some i=>exact⟨.em,.em,.em b⟩
theorem Y7{w:World}{S:Nat->Prop}{s:Nat}{es:List zb}{y:O}{u:Value}(h:Ab s es y)(a:q9 w S y u):q9 w S (.sl s es) u:=by
 cases h with
 |nil=>cases a;exact .sl (es:=[]) (fun _ _=>undef) (by simp) (by simp) (by simp[maxLen]) (by simp) (by simp) (by simp)
 |em=>
  cases a with
  |em b=>exact .sl (es:=[]) (fun _ _=>undef) (by simp) (by simp) b (by simp) (by simp) (by simp)
 |sl=>exact a
theorem nQ{w:World}{S:Nat->Prop}{cs:zb}{u:Value}(h:q9 w S (.agg cs) u){j s:Nat}{es:List zb}(c:cs[j]?=some (.sl s es)):∃y,Ab s es y/\q9 w S (.agg (cs.set j y)) u:=by
 cases h with
 |agg f d=>
  rename_i us;have g:j<cs.length:=(zh.1 c).1;obtain⟨y,i,l⟩:=Fk (d j _ us[j] c (by simp));refine⟨y,i,.agg (by simpa using f) fun k m u a b=>?_⟩;rw[List.getElem?_set]at a;split at a
  ·rename_i e;subst e;injection a with a
   subst a;rw[xm (by omega)]at b;injection b with b
   subst b;exact l
  ·exact d k m u a b
section
variable{P:Program}{Y:Hp}{Z:Nat}{t:TypeId}{s e:Nat}{es:List zb}{y:O}
end
theorem wD.more{Y:Hp}{Z e s:Nat}{v:O}{xs:List zb}(h:wD Y Z e s v xs)(b:Option jV):wD (ql Y Z b) (Z+1) e s v xs:=by
 rcases h with⟨rfl,rfl⟩|⟨id,c,rfl,a⟩
 ·exact .inl ⟨rfl,rfl⟩
 ·exact .inr ⟨id,by omega,rfl,by rw[zk _ _ _ _ (by omega)];exact a⟩
theorem YF(g:kV dr C pf)(c:Zy C pf f fn)(b:Bool)(d:List Nat)(F:zb->Option O)
  (hF:∀args r,F args=some r->∀(w:World) (S:Nat->Prop) (vs:List Value),Zip (q9 w S) args vs->∃a e,Zip (q9 w S) a vs/\a.length<=fn.ntmps/\zt C fn a=some e/\∀(w:World) (S:Nat->Prop) (u:Value),q9 w S e u->q9 w S r u):kF dr C.P f (zg b d F):=
 let⟨_,c⟩:=c
 lk g c b d F hF
end
variable{dr:Prop}
def Qa(P:Program)(l:kW)(k:Nat)(L:List Tmp)(b:List Nat):Ctx:=⟨P,lookup l,fun _=>[],fun i=>if i=k then L else[],fun g=>b.contains g,fun _=>[],fun _=>none⟩
@[simp]theorem zaq(P:Program)(l:kW)(k:Nat)(L:List Tmp)(b:List Nat):(Qa P l k L b).P=P:=rfl
@[simp]theorem zar(P:Program)(l:kW)(k:Nat)(L:List Tmp)(b:List Nat)(Y:Hp)(Z g:Nat)(x y xs:zb):yR (Qa P l k L b) Y Z (some (.fn (.func g) x y)) xs=(lookup l g).bind fun s=>s (x++xs++y) Y Z:=by unfold yR Qa;simp only;cases lookup l g<;>rfl
@[simp]theorem Fl(P:Program)(l:kW)(k:Nat)(L:List Tmp)(b:List Nat)(i:Nat)(a:Array Oper)(d:Bool)(st:St)(K:Exit->St->Prop)(h:¬i=k):vU (Qa P l k L b) (.region i a d) st K=cH (Qa P l k L b) a a.toList st (Wg K):=
 Z7 _ i a d st K rfl (by simp[Qa,h])
theorem aT{P:Program}{l:kW}{k:Nat}{L:List Tmp}{b:List Nat}{a:Array Oper}{d:Bool}{st:St}{K:Exit->St->Prop}(h:xp L st):vU (Qa P l k L b) (.region k a d) st K=cH (Qa P l k L b) a a.toList st (Wg K):=
 Zl _ k a d st K (fun _ h=>by cases h) (by simpa[Qa]using h)
def sX(P:Program)(l:kW)(k:Nat)(t:Tmp):Ctx:=⟨P,lookup l,fun _=>[],fun _=>[],fun _=>false,fun i=>if i=k then[t]else[],fun _=>none⟩
@[simp]theorem zas(P:Program)(l:kW)(k:Nat)(t:Tmp):(sX P l k t).P=P:=rfl
@[simp]theorem zat(P:Program)(l:kW)(k:Nat)(t:Tmp)(Y:Hp)(Z g:Nat)(x y xs:zb):yR (sX P l k t) Y Z (some (.fn (.func g) x y)) xs=(lookup l g).bind fun s=>s (x++xs++y) Y Z:=by unfold yR sX;simp only;cases lookup l g<;>rfl
def cR(b:List Nat):kW->Prop
 |[]=>True
 |(g,s)::l=>(b.contains g=true->Zb s)/\cR b l
theorem nR{P:Program}{l:kW}{q:List Nat}{k:Nat}{L:List Tmp}{b:List Nat}(d:P.follows .mixedOrders=true)(h:YK dr P q l)(f:cR b l):kV dr (Qa P l k L b) (fun g=>q.contains g):=by
 let g:=qc d h;refine⟨g.spec,g.quiet,g.mixed,?_,fun _ _ h=>by cases h⟩;have c:∀l:kW,cR b l->∀g s,b.contains g=true->lookup l g=some s->Zb s:=by
  intro l
  induction l with
  |nil=>intro _ g s _ h;cases h
  |cons x l i=>
   obtain⟨k,sp⟩:=x;rintro⟨j,m⟩ g s a hs;simp only[ah]at hs;split at hs
   ·rename_i e;injection hs with hs
    subst hs;subst e;exact j a
   ·exact i m g s a hs
 exact fun g s a hs=>c l f g s a hs
theorem Y8:∀{xs ys:zb} {Y Y1:Hp},zy Y xs=some (ys,Y1)->∀{id:Nat} {b:jV},Y id=some b->b.arr=false->Y1 id=some b
 |[],ys,Y,Y1,h,id,b,a,c=>by simp only[zy]at h;injection h with h;injection h with _ h;subst h;exact a
 |x::l,ys,Y,Y1,h,id,b,a,c=>by
  simp only[zy]at h;split at h
  ·rename_i y Y2 d;split at h
   ·rename_i r e f;injection h with h;injection h with _ h;subst h
    exact Y8 f (QW d a c) c
   ·cases h
  ·cases h
def wu(a r:O):Prop:=∀(w:World) (S:Nat->Prop) (u:Value),q9 w S a u->q9 w S r u
def zau(r:O)(x:O)(Y:Hp)(_:Nat):Prop:=∃a,(AM.freeze Y x).map (·.1)=some a/\wu a r
theorem ZQ{C:Ctx}{fn:Func}{code:Code}{args:zb}{r:O}(b:fn.body=some code)
  (h:vU C code ⟨jX args,fun _=>none,0⟩ (YX C.P fn (zau r))):∃a,zt C fn args=some a/\wu a r:=by
 obtain⟨x,f,Z',c,a,d,e⟩:=zY b h;exact⟨a,by unfold zt;simp only[c];exact d,e⟩
theorem ll{w:World}{S:Nat->Prop}{s:Nat}{xs:List zb}{y:O}{u:Value}(h:y=.nil/\xs=[]\/y=.sl s xs)(a:q9 w S y u):q9 w S (.sl s xs) u:=by
 rcases h with⟨rfl,rfl⟩|rfl
 ·exact Y7 .nil a
 ·exact a
theorem wu.refl(x:O):wu x x:=fun _ _ _ h=>h
theorem wu.BB{s:Nat}{xs:List zb}{y:O}(h:y=.nil/\xs=[]\/y=.sl s xs):wu y (.sl s xs):=fun _ _ _ a=>ll h a
inductive jT:List O->List O->Prop
 |nil:jT [] []
 |cons {x y:O} {xs ys:List O}:wu x y->jT xs ys->jT (x::xs) (y::ys)
theorem jT.length{xs ys:zb}(h:jT xs ys):xs.length=ys.length:=by
 induction h with
 |nil=>rfl
 |cons _ _ a=>simp[a]
theorem jT.get{xs ys:zb}(h:jT xs ys):∀{j:Nat} {x y:O},xs[j]?=some x->ys[j]?=some y->wu x y:=by
 induction h with
 |nil=>intro j x y h;cases h
 |cons c _ d=>
  intro j x y a b;cases j with
  |zero=>simp at a b;subst a;subst b;exact c
  |succ j=>exact d (by simpa using a) (by simpa using b)
theorem jT.agg{xs ys:zb}(h:jT xs ys):wu (.agg xs) (.agg ys):=by
 intro w S u c;cases c with
 |agg d e=>
  refine .agg (by rw[<-h.length];exact d) fun j g u b f=>?_
  have a:j<xs.length:=by rw[h.length];exact(zh.1 b).1
  exact h.get (zn a) b _ _ _ (e j _ u (zn a) f)
theorem jT.q8{xs ys:zb}(h:jT xs ys):wu (.q8 xs) (.q8 ys):=by
 intro w S u c;cases c with
 |q8 d e=>
  refine .q8 (by rw[<-h.length];exact d) fun j g u b f=>?_
  have a:j<xs.length:=by rw[h.length];exact(zh.1 b).1
  exact h.get (zn a) b _ _ _ (e j _ u (zn a) f)
theorem wD.at_{Y:Hp}{Z e s:Nat}{v:O}{xs:List zb}(h:wD Y Z e s v xs)(a:0<xs.length):∃id,id<Z/\v=.own id 0 xs.length/\Y id=some ⟨e,s,true,xs⟩:=by
 rcases h with⟨rfl,rfl⟩|h
 ·simp at a
 ·exact h
theorem wD.same{Y a:Hp}{Z Z' e s:Nat}{v:O}{xs:List zb}(h:wD Y Z e s v xs)(d:Z<=Z')(b:∀id n,v=.own id 0 n->a id=Y id):wD a Z' e s v xs:=by
 rcases h with⟨rfl,rfl⟩|⟨id,f,rfl,c⟩
 ·exact .inl ⟨rfl,rfl⟩
 ·exact .inr ⟨id,by omega,rfl,by rw[b id _ rfl];exact c⟩
variable{dr:Prop}
def n1(s:Nat):O->O
 | .nil=>.sl s []
 | .em=>.sl s []
 |x=>x
@[simp]theorem zcC(s:Nat):n1 s .nil=.sl s []:=rfl
@[simp]theorem zc2(s:Nat):n1 s .em=.sl s []:=rfl
@[simp]theorem zc3(s t:Nat)(es:List zb):n1 s (.sl t es)=.sl t es:=rfl
@[simp]theorem n1_v(s:Nat)(x:Value):n1 s (.v x)=.v x:=rfl
def Qv:List (Option Nat)->zb->zb
 |some s::l,x::xs=>n1 s x::Qv l xs
 |none::l,x::xs=>x::Qv l xs
 |_,xs=>xs
inductive Sh where
 |a
 |g (p:List (Option Nat))
 |s (n:Nat) (p:List (Option Nat))
def Sh.fix:Sh->O->O
 | .g p,.agg cs=>.agg (Qv p cs)
 | .s _ p,.sl m es=>.sl m (es.map (Qv p))
 | .s n _,x=>n1 n x
 |_,x=>x
@[simp]theorem Sh.zdd(x:O):Sh.fix .a x=x:=by cases x<;>rfl
@[simp]theorem Sh.zde(p:List (Option Nat))(cs:zb):Sh.fix (.g p) (.agg cs)=.agg (Qv p cs):=rfl
@[simp]theorem Sh.IB(n m:Nat)(p:List (Option Nat))(es:List zb):Sh.fix (.s n p) (.sl m es)=.sl m (es.map (Qv p)):=rfl
@[simp]theorem Sh.zcm(n:Nat)(p:List (Option Nat)):Sh.fix (.s n p) .nil=.sl n []:=rfl
@[simp]theorem Sh.zcT(n:Nat)(p:List (Option Nat)):Sh.fix (.s n p) .em=.sl n []:=rfl
attribute [simp] Qv
def aU:List Sh->zb->zb
 |h::l,x::xs=>h.fix x::aU l xs
 |_,xs=>xs
attribute [simp] aU
theorem Cg(s:Nat)(x:O):wu x (n1 s x):=by
 intro w S u h;cases x with
 |nil=>exact Y7 .nil h
 |em=>exact Y7 .em h
 |_=>exact h
theorem kv:∀(p:List (Option Nat)) (cs:zb),(Qv p cs).length=cs.length
 |[],cs=>by cases cs<;>rfl
 |none::p,[]=>rfl
 |some s::p,[]=>rfl
 |none::p,x::cs=>by simp[kv p cs]
 |some s::p,x::cs=>by simp[kv p cs]
theorem vo:∀(p:List (Option Nat)) (cs:zb),jT cs (Qv p cs)
 |[],[]=>.nil
 |[],x::cs=>by have:=vo [] cs;rw[show Qv [] cs=cs by cases cs<;>rfl]at this;exact .cons (wu.refl x) this
 |none::p,[]=>.nil
 |some s::p,[]=>.nil
 |none::p,x::cs=>.cons (wu.refl x) (vo p cs)
 |some s::p,x::cs=>.cons (Cg s x) (vo p cs)
theorem Kx(h:Sh)(x:O):wu x (h.fix x):=by
 intro w S u k;cases h with
 |a=>simpa using k
 |g p=>
  cases x with
  |agg cs=>exact(vo p cs).agg w S u k
  |_=>exact k
 |s n p=>
  cases x with
  |sl m es=>
   cases k with
   |sl us q r t v y z=>
    rename_i A cap;have:=q9.sl (w:=w) (S:=S) (es:=es.map (Qv p)) (A:=A) (cap:=cap) (s:=m) us q (by simpa using r) t (fun c B=>by
     obtain⟨b,e,rfl⟩:=zN.1 B;rw[kv];exact v b e) (fun i j c C d o=>by
     rw[qn]at d;obtain⟨b,e,rfl⟩:∃b,es[i]?=some b/\Qv p b=c:=by
      cases l:es[i]? with
      |none=>rw[l]at d;cases d
      |some b=>rw[l]at d;injection d with d;exact⟨b,rfl,d⟩
     have f:j<b.length:=by have:=(zh.1 o).1;rwa [kv]at this
     exact y i j b _ e (zn f)) (fun i j c C d o=>by
     rw[qn]at d;obtain⟨b,e,rfl⟩:∃b,es[i]?=some b/\Qv p b=c:=by
      cases l:es[i]? with
      |none=>rw[l]at d;cases d
      |some b=>rw[l]at d;injection d with d;exact⟨b,rfl,d⟩
     have f:j<b.length:=by have:=(zh.1 o).1;rwa [kv]at this
     exact(vo p b).get (zn f) o _ _ _ (z i j b _ e (zn f)))
    rw[qQ]at this;exact this
  |nil=>exact Y7 .nil k
  |em=>exact Y7 .em k
  |_=>exact k
theorem Wj{w:World}{S:Nat->Prop}:∀{hs:List Sh} {xs:zb} {us:List Value},Zip (q9 w S) xs us->Zip (q9 w S) (aU hs xs) us
 |[],xs,us,h=>by cases xs<;>exact h
 |s::hs,[],us,h=>h
 |s::hs,x::xs,us,h=>by obtain⟨u,a,rfl,b,c⟩:=h.jy;exact .cons (Kx s x w S u b) (Wj c)
def qH(a:List Sh)(F:zb->Option O):AM.Spec:=zg false [] fun args=>F (aU a args)
theorem vp(a:List Sh)(F:zb->Option O):Zk (qH a F):=zr _ _
theorem yN{C:Ctx}{pf:FuncId->Bool}{f:FuncId}{fn:Func}(c:kV dr C pf)(d:Zy C pf f fn)(a:List Sh)(F:zb->Option O)
  (hF:∀args r,F args=some r->args.length<=fn.ntmps/\∃b,zt C fn args=some b/\wu b r):kF dr C.P f (qH a F):=
 YF c d false [] _ fun args r h w S vs e=>by obtain⟨g,b,i,j⟩:=hF _ _ h;exact⟨aU a args,b,Wj e,g,i,j⟩
theorem va{a:List Sh}{F:zb->Option O}{args:zb}{Y:Hp}{Z:Nat}{b:zb}{r:O}(c:zy Y args=some (b,Y))(d:F (aU a b)=some r)(e:r.flat=true\/args.all O.noOwn=true) :
  qH a F args Y Z=some (r,Y,Z):=by
 have f:yr [] b=b:=by cases b<;>rfl
 exact wR c (by rw[f];exact d) e
def cS(sh:Sh)(r:O)(x:O)(Y:Hp)(_:Nat):Prop:=∃a,(AM.freeze Y x).map (·.1)=some a/\sh.fix a=r
theorem WX{C:Ctx}{fn:Func}{code:Code}{args:zb}{sh:Sh}{r:O}(b:fn.body=some code)
  (h:vU C code ⟨jX args,fun _=>none,0⟩ (YX C.P fn (cS sh r))):∃a,zt C fn args=some a/\wu a r:=by
 obtain⟨x,f,Z',c,a,d,e⟩:=zY b h;exact⟨a,by unfold zt;simp only[c];exact d,e ▸ Kx sh a⟩
def qV(sh:Sh)(r:O)(x:O)(Y:Hp)(_:Nat):Prop:=∃a y,(AM.freeze Y x).map (·.1)=some (.q8 [a,y])/\.q8 [sh.fix a,y]=r
theorem kJ{C:Ctx}{fn:Func}{code:Code}{args:zb}{sh:Sh}{r:O}(b:fn.body=some code)
  (h:vU C code ⟨jX args,fun _=>none,0⟩ (YX C.P fn (qV sh r))):∃a,zt C fn args=some a/\wu a r:=by
 obtain⟨x,f,Z',c,a,y,d,e⟩:=zY b h;exact⟨.q8 [a,y],by unfold zt;simp only[c];exact d,e ▸ (jT.cons (Kx sh a) (.cons (wu.refl y) .nil)).q8⟩
theorem kK{P:Program}{g:FuncId}{F:zb->Option O}(j:∃fn,P.funcs[g]?=some fn/\(fn.name== "runtime.NumGoroutine")=false/\fn.body.isNone=false)
  (h:∀args r,F args=some r->∃us:List Value,args=us.map O.v/\(∀u∈us,lit u=true)/\r.flat=true/\∃v,(∀w S,q9 w S r v)/\∀w S,Bz P w S->Calls P g us.toArray w fun e s=>e=.returned v/\Fr dr w (fun _=>False) s):kF dr P g (zg false [] F):=by
 refine⟨j,?_⟩;intro args Y Z r K Z' hs w S G vs t z;unfold zg at hs;split at hs
 ·rename_i k Y1 m;split at hs
  ·rename_i L hF;obtain⟨us,e,A,n,v,B,C⟩:=h _ _ hF;have D:yr [] k=k:=by cases k<;>rfl
   rw[D]at e;subst e;have d:args=us.map O.v:=by
    have o:∀(args:zb) (us:List Value) (Y1:Hp),zy Y args=some (us.map O.v,Y1)->args=us.map O.v:=by
     intro args
     induction args with
     |nil=>intro us Y1 b;simp only[zy]at b;injection b with b;injection b with b _
     |cons x l E=>
      intro us Y1 b;simp only[zy]at b;split at b
      ·rename_i y Y2 a;split at b
       ·rename_i M p q;injection b with b
        injection b with b _;cases us with
        |nil=>simp at b
        |cons u us=>
         simp only[z6,zc]at b;obtain⟨rfl,rfl⟩:=b;have H:x=.v u/\Y2=Y:=by
          unfold qe at a;split at a
          ·split at a
           ·injection a with a;injection a with a _;cases a
           ·cases a
          ·unfold wg at a;split at a<;>first
            |(split at a<;>first|(split at a<;>first|(injection a with a;injection a with a _;cases a;done)|cases a)|cases a)
            |(injection a with a;injection a with i f;first|(exact⟨by rw[<-i],f.symm⟩)|cases i)
            |cases a
         obtain⟨rfl,rfl⟩:=H;rw[E us p q];rfl
       ·cases b
      ·cases b
    exact o args us Y1 m
   subst d;simp only[n,true_or,qI]at hs;injection hs with hs
   injection hs with i f;injection f with f I;subst i;subst f;subst I;rw[cQ A z];refine(C w S t.bF).mono fun e s b=>?_
   obtain⟨rfl,J⟩:=b;exact⟨v,_,G,rfl,j6.outer t J,.c (B _ _)⟩
  ·cases hs
 ·cases hs
end Go.AM
namespace Go.Proofs
open Go.Shelf
def Tryz.r8:Go.Shelf.Ren:=⟨fun|213=>73|265=>122|n=>n,fun|9=>9|3=>3|n=>n,fun|n=>n⟩
theorem Tryz.NY:Go.Proofs.Lays.n213 prog Tryz.r8:={
 mixed:=by kernel_rfl
 f213:=func73.trans (zo some (by kernel_rfl))
 f265:=func122.trans (zo some (by kernel_rfl))
 t3:=underlying3
 a3:=isAgg3
 z3:=sizeOf3
 v3:=zeroValue3
 t9:=underlying9
 a9:=isAgg9
 z9:=sizeOf9
 v9:=zeroValue9}
open Go.RowKit in
theorem Tryz.bytealg_CompareString(a b:ByteArray)(w:World) :
  Calls prog 73 #[.string a,.string b] w fun e c=>e=.returned (.int .i64 (Lib.compareBytes a.data.toList b.data.toList))/\c=w:=Any.bytealg_CompareString Tryz.NY a b w
end Go.Proofs
