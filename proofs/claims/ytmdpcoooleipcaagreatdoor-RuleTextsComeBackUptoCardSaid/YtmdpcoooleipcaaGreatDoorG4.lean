/- Lemmas. -/
import Derived.ProofKit
import Derived.Lib.Strings
import Derived.Carry
import Derived.ChangeSame
import Derived.OpenShut
import Derived.Shelf.SlSortCmp.InsertionK
import Derived.Sort.AssemblyPlain
import Derived.Shelf.Spec.SlicesGrow
import Derived.Deep.AppendSrc
import Derived.Test.YtmdpcoooleipcaaGreatDoorG3
set_option maxRecDepth 8000
open Go Proofs Proofs.YtmdpcoooleipcaaGreatDoor Proofs.Tryz RowKit AM SpanLaw Q Zz
namespace Go.AM
variable{dr:Prop}
section
variable{C:Ctx}{pf:FuncId->Bool}
theorem QC{w:World}{S:Nat->Prop}{G:Nat->GI}{st:St}{a:Act}(B:Inv C.P w S G st.Y st.Z)(hs:∀t,zR w S G st.Z (st.X t) (a.tmps.getD t undef)) :
  ∀{l:List ResultVar} {xs:zb},wz (l.map (Zu C.P st))=some xs->∃vs,(l.mapM (m:=Sem) fun r=>match r with
   | .tmp t=>pure (a.tmps.getD t undef)
   | .cell p t=>do loadVar t (<-asAddr (a.tmps.getD p undef))).run C.P w=.ok vs w/\Zip (zR w S G st.Z) xs vs
 |[],xs,h=>by
  simp only[xn,wz]at h;injection h with h
  subst h;exact⟨[],by simp,.nil⟩
 |r::l,xs,h=>by
  simp only[zL]at h;cases d:Zu C.P st r with
  |none=>rw[d]at h;simp[wz]at h
  |some p=>
   rw[d]at h;simp only[wz]at h;cases D:wz (l.map (Zu C.P st))with
   |none=>rw[D]at h;simp at h
   |some ys=>
    rw[D]at h;simp at h;subst h;obtain⟨vs,J,K⟩:=QC B hs D;cases r with
    |tmp t=>
     simp only[Zu]at d;injection d with d
     subst d;refine⟨a.tmps.getD t undef::vs,?_,.cons (hs t) K⟩;simp only[List.mapM_cons,jY,Zd,jm,J]
    |cell q t=>
     simp only[Zu]at d;obtain⟨v,w',S',G',N,k,hx⟩:=eS (dr:=True) B d (hs q);have y:=hs q;have E:∃v,(do loadVar t (<-asAddr (a.tmps.getD q undef)):Sem Value).run C.P w=.ok v w/\zR w S G st.Z p v:=by
      unfold kx at d;split at d
      ·rename_i cs f;rw[f]at y;have F:=y.W6;generalize a.tmps.getD q undef=u at *;cases F with
       |ptr us Q R=>obtain⟨v,z,n⟩:=Ji (G:=G) (Z:=st.Z) (w:=w) (S:=S) d _ us (fun j A L=>⟨(Q j A L).2,.c (R j A L)⟩);exact⟨v,by simp[asAddr,z],n⟩
      ·rename_i id i j f;rw[f]at y;have H:=y.xT;obtain⟨hid,T⟩:=y.jQ;rw[T]at N⊢;split at d
       ·rename_i b U;split at d
        ·rename_i c F;obtain⟨o,W,h4,h5⟩:=(B.live id b U).row H;have x:∀k:Nat,w.cell? ((⟨(G id).g,i*(G id).s+j,none⟩:Addr).add k)=o[i*(G id).s+j+k]?:=by intro k;rw[JR,cell_of_row w _ _ o _ _ W]
         obtain⟨v,z,n⟩:=Ji (G:=G) (Z:=st.Z) (w:=w) (S:=S) d ⟨(G id).g,i*(G id).s+j,none⟩ (fun k=>(o[i*(G id).s+j+k]?).getD undef) (fun k A M=>by
          rw[wu]at M;obtain⟨u,h6,h7⟩:=h5 i (j+k) c A F M;rw[x];have e:i*(G id).s+j+k=i*(G id).s+(j+k):=by omega
          rw[e,h6];exact⟨rfl,h7.2.1⟩)
         exact⟨v,by simp[asAddr,z],n⟩
        ·cases d
       ·cases d
      ·cases d
     obtain⟨v,z,I⟩:=E;refine⟨v::vs,?_,.cons I K⟩;simp only[List.mapM_cons,jY,z,jm,J,Zd]
theorem Wo{P:Program}{fn:Func}{a:Array Value}{R:Ending->World->Prop}:∀(c:List Nat) (w:World),c.Nodup->(∀D∈c,w.heap[D]?=some (.deferred (some [])))->(∀f,Fr dr w (fun b=>b∈c) f->LeavesIn Fence.wide 0 P fn a R [] .returning f)->LeavesInM Fence.wide 0 P fn a R (c.map aj) .returning w
 |[],w,_,_,h=>h w (Fr.refl _ _)
 |D::c,w,j,g,h=>by
  obtain⟨l,m⟩:=List.nodup_cons.1 j;refine⟨by simp,.inl ⟨D,_,rfl,run_takeDeferred (g D (by simp)),Wo c _ m (fun i d=>?_) fun f n=>h f ?_⟩⟩
  ·exact(SA (k:=i) (r:=D) fun e=>l (by rw[<-e];exact d)).trans (g i (by simp[d]))
  ·exact(oY (.deferred none) (fun b=>b∈D::c) (by simp)).trans n (fun b _ o=>by simp[o])
theorem Kk(M:∀g a,C.Γ g=some a->yU dr C.P g a)(N:∀g a,pf g=true->C.Γ g=some a->xu a)(Q:∀g a,C.bk g=true->C.Γ g=some a->xN a)(R:∀g it,C.it g=some it->lS dr C.P g it)(hm:C.P.follows .mixedOrders=true)
  {f:FuncId} {fn:Func} {code:Code} (hf:C.P.funcs[f]?=some fn) (k:fn.body=some code) (T:jS pf C.dyn C.AV C.bk fn.ntmps code=true)
  {args:zb} {Y Y':Hp} {Z Z':Nat} {x:O} (h:yd C fn args Y Z=some (x,Y',Z')) {w:World} {S:Nat->Prop} {G:Nat->GI} {vs:List Value} (hi:Inv C.P w S G Y Z) (U:Zip (zR w S G Z) args vs) (hn:args.length<=fn.ntmps) :
  Calls C.P f vs.toArray w fun e w'=>∃v S' G',e=.returned v/\jN dr C.P Y Z S G w Y' Z' S' G' w'/\zR w' S' G' Z' x v:=by
 unfold yd at h;simp only[k]at h;refine ec.1 (callsIn_of_wp_marks (n:=0) hf k trivial ?_);have F:aW dr C.P w S (yu Y G) fn.ntmps Z G w.heap.size ⟨ka args,Y,Z⟩ {tmps:=vs.toArray++Array.replicate (fn.ntmps-vs.toArray.size) undef,defers:=[]} w:=by
  refine⟨S,G,hi,fun t=>?_,?_,.nil (zi _),fun _ h=>h,fun _ h=>.inl h,fun id b k=>.inl ⟨id,b,k,rfl⟩,Fr.refl _ _,zi _,fun _ _=>rfl⟩
  ·have W:vs.length=args.length:=U.1.symm;unfold ka;by_cases ht:t<args.length
   ·have p:args[t]?=some args[t]:=zm ht;have l:vs[t]?=some (vs[t]'(by omega)):=zm (by omega);have h3:=U.2 t _ _ p l;have h4:(vs.toArray++Array.replicate (fn.ntmps-vs.toArray.size) undef)[t]?=vs[t]?:=by rw[nZ (by simpa using(by omega:t<vs.length))];simp
    simp only[p,aV];rw[Qx,h4,l];exact h3
   ·have p:args[t]?=none:=q5 (by omega);have h4:(vs.toArray++Array.replicate (fn.ntmps-vs.toArray.size) undef).getD t undef=undef:=by rw[Qx,Array.getElem?_append_right (by simpa using(by omega:vs.length<=t)),Array.getElem?_replicate];split<;>rfl
    simp only[p,Option.getD_none];rw[h4];exact jn
  ·have W:vs.length=args.length:=U.1.symm;simp;omega
 have H:∀(e:Exit) (st:St),(e=.normal\/e=.ret)->qx C code ⟨ka args,Y,Z⟩=some (e,st)->(kI C.P fn st).map (fun x=>(x,st.Y,st.Z))=some (x,Y',Z') ->
   code.wpIn Fence.wide 0 C.P (bodyPostM Fence.wide 0 C.P fn fun e w'=>∃v S' G',e=.returned v/\jN dr C.P Y Z S G w Y' Z' S' G' w'/\zR w' S' G' Z' x v) {tmps:=vs.toArray++Array.replicate (fn.ntmps-vs.toArray.size) undef,defers:=[]} w:=by
  intro e st he m hr;obtain⟨r,d,s⟩:=zD hr;injection s with e1 s
  injection s with e2 e3;subst e1;subst e2;subst e3;refine bY M N Q R hm code T Fence.wide 0 (.inl rfl) (.inl rfl) w S (yu Y G) Z G w.heap.size _ st e _ w _ (zi _) m F fun E w1 hs'=>?_
  obtain⟨S',G',c⟩:=hs';obtain⟨hd0,Ds,hd1,hd2,o⟩:=c.defers;have I:LeavesInM Fence.wide 0 C.P fn E.tmps (fun e w'=>∃v S' G',e=.returned v/\jN dr C.P Y Z S G w st.Y st.Z S' G' w'/\zR w' S' G' st.Z r v) E.defers .returning w1:=by
   rw[hd1];refine Wo (dr:=dr) Ds w1 hd2 (fun D hD=>(o D hD).2.1) fun w' A=>?_
   have J:∀b,b∈Ds->Ym S' G' st.Y b:=fun b k=>⟨(o b k).2.2.1,(o b k).2.2.2⟩
   have q:=c.inv.frame A J;have I1:∀t,zR w' S' G' st.Z (st.X t) (E.tmps.getD t undef):=fun t=>(c.vT t).mono (fun b k=>⟨k,A.block b (c.inv.st b k) fun hb'=>(J b hb').1 k⟩) (zi _) (fun _ _=>rfl)
   have hk:jN dr C.P Y Z S G w st.Y st.Z S' G' w':=⟨q,c.up,c.loc,c.s0,c.s1,c.own,c.fr.trans A fun b k p=>by have:=(o b p).1;omega⟩;have K:∃v,(results fn E.tmps).run C.P w'=.ok v w'/\zR w' S' G' st.Z r v:=by
    unfold kI at d;have go:∀xs,wz (fn.results.toList.map (Zu C.P st))=some xs->r=(match xs with|[x]=>x|xs=>.qS xs)->∃v,(results fn E.tmps).run C.P w'=.ok v w'/\zR w' S' G' st.Z r v:=by
     intro xs hx i;obtain⟨us,p,l⟩:=QC q I1 hx;have L:(results fn E.tmps).run C.P w'=.ok (if h:us.toArray.size=1 then us.toArray[0]else .tuple us.toArray) w':=by unfold results;rw[Array.mapM_eq_mapM_toList];simp only[jY,Sem.run_map];erw [p];rfl
     refine⟨_,L,?_⟩
     match xs,l,i with
     |[],l,i=>rw[l.Wb];subst i;exact .qS rfl (by simp)
     |[y],l,i=>obtain⟨u,rfl,hu⟩:=Wl l;subst i;simpa using hu
     |y::z::ys,l,i=>have hl:=l.1;subst i;rw[dif_neg (by simp at hl⊢;omega)];exact .qS (by simpa using hl) (fun j pv u hj hu=>l.2 j pv u hj (by simpa using hu))
    split at d
    ·rename_i y hy;injection d with d
     exact go [y] hy d.symm
    ·rename_i xs B hx;injection d with d
     refine go xs hx ?_;rw[<-d]
     match xs,B with
     |[],_=>rfl
     |[y],B=>exact(B y rfl).elim
     |y::z::ys,_=>rfl
    ·cases d
   obtain⟨v,hv1,hv2⟩:=K;exact⟨v,hv1,v,S',G',rfl,hk,hv2⟩
  rcases he with rfl|rfl
  ·exact I
  ·exact I
 split at h
 ·rename_i st m;exact H _ st (.inl rfl) m h
 ·rename_i st m;exact H _ st (.inr rfl) m h
 ·cases h
end
variable{dr:Prop}
def O.isV:O->Bool
 | .v _=>true
 |_=>false
def O.flat:O->Bool
 | .v _=>true
 | .qS cs=>cs.all O.isV
 |_=>false
def BC(s:Nat):O->O
 | .nil=>.sl s []
 |x=>x
def yn:List Nat->zb->zb
 |s::a,x::l=>BC s x::yn a l
 |_,l=>l
def oZ(x y:O):Prop:=x=y\/(x=.nil/\∃s,y=.sl s [])
def bZ:O->O->Prop
 | .qS xs,.qS ys=>xs.length=ys.length/\∀(j:Nat) (x y:O),xs[j]?=some x->ys[j]?=some y->oZ x y
 |x,y=>oZ x y
def zp(a:Bool)(b:List Nat)(F:zb->Option O):AM.Spec:=fun args Y Z=>
 match zt Y args with
 |some (c,Y1)=>match F (yn b c)with
  |some r=>if r.flat=true\/args.all O.noOwn=true then some (r,Y,Z)else if a=true then some (r,Y1,Z)else none
  |none=>none
 |none=>none
def jT(a:List Nat)(F:zb->Option (Option Blk)):AM.Spec:=fun args Y Z=>
 match zt Y args with
 |some (c,Y1)=>match F (yn a c)with
  |some none=>some (.nil,Y1,Z)
  |some (some b)=>some (.own Z 0 b.es.length,qb Y1 Z (some b),Z+1)
  |none=>none
 |none=>none
theorem BD{α:Type}(f:Nat->α){i j:Nat}(h:i≠j)(x y:α):qb (qb f i x) j y=qb (qb f j y) i x:=by
 funext k;unfold qb;by_cases a:k=i
 ·subst a;simp[h]
 ·simp[a]
theorem Yy{Y Y1:Hp}{x y:O}{Z:Nat}(f:Y Z=none)(b:Option Blk)(h:qh Y x=some (y,Y1)):qh (qb Y Z b) x=some (y,qb Y1 Z b)/\Y1 Z=none:=by
 unfold qh at h;split at h
 ·rename_i id off n;split at h
  ·rename_i j g;have a:id≠Z:=fun e=>by rw[e,f]at g;cases g
   split at h
   ·rename_i i;injection h with h
    injection h with c d;subst c;subst d;refine⟨?_,by rw[zc _ _ _ _ a.symm];exact f⟩;unfold qh;simp only[zc Y Z id b a,g,i,and_self,qa];rw[BD Y a.symm]
   ·cases h
  ·cases h
 all_goals first
  |(injection h with h;injection h with c d;subst c;subst d;exact⟨rfl,f⟩)
  |(split at h
    ·rename_i i;injection h with h;injection h with c d;subst c;subst d
     exact⟨by unfold qh;simp only[i,and_self,qa],f⟩
    ·cases h)
  |cases h
theorem Yd{Z:Nat}(b:Option Blk):∀{xs ys:zb} {Y Y1:Hp},Y Z=none->qe Y xs=some (ys,Y1)->qe (qb Y Z b) xs=some (ys,qb Y1 Z b)/\Y1 Z=none
 |[],ys,Y,Y1,a,h=>by
  simp only[qe]at h;injection h with h;injection h with c d;subst c;subst d
  exact⟨rfl,a⟩
 |x::l,ys,Y,Y1,a,h=>by
  simp only[qe]at h;split at h
  ·rename_i y Y2 e;split at h
   ·rename_i r f g;injection h with h;injection h with c d;subst c;subst d
    obtain⟨i,j⟩:=Yy a b e;obtain⟨k,m⟩:=Yd b j g;exact⟨by simp only[qe,i,k],m⟩
   ·cases h
  ·cases h
theorem eo{Y Y1:Hp}{x y:O}{Z:Nat}(a:Y Z=none)(b:Option Blk)(h:zS Y x=some (y,Y1)):zS (qb Y Z b) x=some (y,qb Y1 Z b)/\Y1 Z=none:=by
 cases x with
 |agg cs=>
  simp only[zS]at h⊢;split at h
  ·rename_i l i c;injection h with h;injection h with d e;subst d;subst e
   obtain⟨f,g⟩:=Yd b a c;exact⟨by simp only[f],g⟩
  ·cases h
 |_=>simp only[zS]at h⊢;exact Yy a b h
theorem Yz{Z:Nat}(b:Option Blk):∀{xs ys:zb} {Y Y1:Hp},Y Z=none->zt Y xs=some (ys,Y1)->zt (qb Y Z b) xs=some (ys,qb Y1 Z b)/\Y1 Z=none
 |[],ys,Y,Y1,a,h=>by
  simp only[zt]at h;injection h with h;injection h with c d;subst c;subst d
  exact⟨rfl,a⟩
 |x::l,ys,Y,Y1,a,h=>by
  simp only[zt]at h;split at h
  ·rename_i y Y2 e;split at h
   ·rename_i r f g;injection h with h;injection h with c d;subst c;subst d
    obtain⟨i,j⟩:=eo a b e;obtain⟨k,m⟩:=Yz b j g;exact⟨by simp only[zt,i,k],m⟩
   ·cases h
  ·cases h
theorem zv(a:List Nat)(F:zb->Option O):xu (zp false a F):=by
 intro args Y Z r Y' Z' h;unfold zp at h;split at h
 ·rename_i c Y1 d;split at h
  ·rename_i r0 e;split at h
   ·rename_i f;injection h with h
    injection h with g h;injection h with i j;subst g;refine⟨⟨i.symm,j.symm⟩,fun b k=>?_⟩;unfold zp;simp only[(Yz b k d).1,e];rw[zl f]
   ·simp at h
  ·cases h
 ·cases h
structure Kd (C:Ctx) (pf:FuncId->Bool) (f:FuncId) (fn:Func) (code:Code):Prop where
 func:C.P.funcs[f]?=some fn
 name:(fn.name== "runtime.NumGoroutine")=false
 body:fn.body=some code
 ok:jS pf C.dyn C.AV C.bk fn.ntmps code=true
structure j9 (dr:Prop) (C:Ctx) (pf:FuncId->Bool):Prop where
 spec:∀g spec,C.Γ g=some spec->yU dr C.P g spec
 quiet:∀g spec,pf g=true->C.Γ g=some spec->xu spec
 mixed:C.P.follows .mixedOrders=true
 box:∀g spec,C.bk g=true->C.Γ g=some spec->xN spec:=by intro _ _ h;cases h
 iter:∀g it,C.it g=some it->lS dr C.P g it:=by intro _ _ h;cases h
abbrev Good:=j9 True
theorem Ye{Y Y1:Hp}{x y:O}(h:qh Y x=some (y,Y1))(a:x.yy=false):Y1=Y:=by
 unfold qh at h;split at h<;>first
  |(injection h with h;injection h with _ h;exact h.symm)
  |(simp[O.yy]at a;done)
  |(split at h<;>first|(injection h with h;injection h with _ h;exact h.symm)|cases h)
  |cases h
theorem QR:∀{xs ys:zb} {Y Y1:Hp},qe Y xs=some (ys,Y1)->xs.any O.yy=false->Y1=Y
 |[],ys,Y,Y1,h,_=>by
  simp only[qe]at h;injection h with h
  injection h with _ h;exact h.symm
 |x::l,ys,Y,Y1,h,a=>by
  simp only[qe]at h;simp only[AK,Q8]at a;split at h
  ·rename_i y d b;split at h
   ·rename_i r e c;injection h with h
    injection h with _ h;subst h;rw[QR c a.2,Ye b a.1]
   ·cases h
  ·cases h
theorem b4{Y Y1:Hp}{x y:O}(h:zS Y x=some (y,Y1))(a:x.noOwn=true):Y1=Y:=by
 unfold zS at h;split at h
 ·split at h
  ·rename_i l c b;injection h with h
   injection h with _ h;subst h;exact QR b (by simpa[O.noOwn]using a)
  ·cases h
 ·refine Ye h ?_;cases x<;>simp_all[O.noOwn,O.yy]
theorem Yf:∀{xs ys:zb} {Y Y1:Hp},zt Y xs=some (ys,Y1)->xs.all O.noOwn=true->Y1=Y
 |[],ys,Y,Y1,h,_=>by
  simp only[zt]at h;injection h with h
  injection h with _ h;exact h.symm
 |x::l,ys,Y,Y1,h,a=>by
  simp only[zt]at h;simp only[wC,zs]at a;split at h
  ·rename_i y d b;split at h
   ·rename_i r e c;injection h with h
    injection h with _ h;subst h;rw[Yf c a.2,b4 b a.1]
   ·cases h
  ·cases h
section
variable{C:Ctx}{pf:FuncId->Bool}{f:FuncId}{fn:Func}{code:Code}
theorem jN.outer{P:Program}{Y:Hp}{Z:Nat}{S:Nat->Prop}{G:Nat->GI}{w w':World}(h:Inv P w S G Y Z)(k:Fr dr w (fun _=>False) w') :
  jN dr P Y Z S G w Y Z (fun b=>S b\/(w.heap.size<=b/\b<w'.heap.size)) G w':=by
 have c:∀b,b<w.heap.size->w'.heap[b]?=w.heap[b]?:=fun b a=>k.block b a fun h=>h
 have d:∀b,S b->(S b\/(w.heap.size<=b/\b<w'.heap.size))/\w'.heap[b]?=w.heap[b]?:=fun b a=>⟨.inl a,c b (h.st b a)⟩
 refine⟨⟨fun b a=>?_,h.top,fun id b a=>(h.live id b a).mono d (zi _) (fun _ _=>rfl) (c _ (h.live id b a).lt),fun id b a hs=>?_,h.inj,h.KJ.mono d⟩,zi _,fun _ _=>rfl,fun _ a=>.inl a,fun b a=>?_,fun id b a=>.inl ⟨id,b,a,rfl⟩,⟨k.os,k.tape,k.output,k.size,k.drawn,fun b a _=>c b a⟩⟩
 ·rcases a with a|a
  ·exact q8 (h.st b a) k.size
  ·exact a.2
 ·rcases hs with hs|hs
  ·exact h.apart id b a hs
  ·have:=(h.live id b a).lt;omega
 ·rcases a with a|a
  ·exact .inl a
  ·exact .inr (.inr a.1)
theorem Jm{P:Program}{w:World}{S:Nat->Prop}(G:Nat->GI)(a:∀b,S b->b<w.heap.size)(c:tm P w S):Inv P w S G (fun _=>none) 0:=
 ⟨a,fun _ _ h=>(by cases h),fun _ _ h=>(by cases h),fun _ _ h=>(by cases h),fun _ _ _ _ h=>(by cases h),c⟩
theorem xF{G:Nat->GI}{b:Nat}(h:yu (fun _=>none) G b):False:=by obtain⟨_,_,h,_⟩:=h;cases h
theorem Zip.closed{w:World}{S:Nat->Prop}{G:Nat->GI}{Z:Nat}{xs:zb}{us:List Value}(h:Zip (qO w S) xs us):Zip (zR w S G Z) xs us:=h.imp fun _ _ h=>.c h
theorem b5{w w':World}{S S':Nat->Prop}{r:O}{v:Value}(h:qO w S r v)(a:r.flat=true):qO w' S' r v:=by
 cases h with
 |v h=>exact .v h
 |qS b e=>
  refine .qS b fun j c u d f=>?_
  simp only[O.flat,qc]at a;have:=a c (zI d);have g:=e j c u d f;cases c<;>simp[O.isV]at this;obtain⟨rfl,b⟩:=g.wj;exact .v b
 |_=>simp[O.flat]at a
theorem vM(c:j9 dr C pf)(i:Kd C pf f fn code){args:zb}{x:O}{Y1:Hp}{a:Nat}(h:yd C fn args (fun _=>none) 0=some (x,Y1,a))(l:args.length<=fn.ntmps)
  {w:World} {S:Nat->Prop} {vs:List Value} (m:∀b,S b->b<w.heap.size) (j:tm C.P w S) (n:Zip (qO w S) args vs) :
  Calls C.P f vs.toArray w fun e w'=>∃v S' G',e=.returned v/\Fr dr w (fun _=>False) w'/\Inv C.P w' S' G' Y1 a/\zR w' S' G' a x v/\(∀b,S b->S' b)/\(∀b,S' b->S b\/w.heap.size<=b)/\(∀id blk,Y1 id=some blk->w.heap.size<=(G' id).g):=by
 refine(Kk c.spec c.quiet c.box c.iter c.mixed i.func i.body i.ok h (Jm (fun _=>⟨0,0,0⟩) m j) n.closed l).mono fun e w' o=>?_
 obtain⟨v,S',G',p,k,q⟩:=o;refine⟨v,S',G',p,⟨k.fr.os,k.fr.tape,k.fr.output,k.fr.size,k.fr.drawn,fun b d _=>k.fr.block b d xF⟩,k.inv,q,k.Wa,fun b d=>?_,fun id blk d=>?_⟩
 ·rcases k.from_ b d with h|h|h
  ·exact .inl h
  ·exact(xF h).elim
  ·exact .inr h
 ·rcases k.own id blk d with h|h
  ·exact(xF h).elim
  ·exact h
theorem fc{w:World}{S:Nat->Prop}{x:O}{u:Value}(h:qO w S x u)(s:Nat):qO w S (BC s x) u:=by
 unfold BC;split
 ·cases h;exact .sl (es:=[]) (fun _ _=>undef) (by simp) (by simp) (by simp[maxLen]) (by simp) (by simp) (by simp)
 ·exact h
theorem xW{w:World}{S:Nat->Prop}:∀{a:List Nat} {xs:zb} {us:List Value},Zip (qO w S) xs us->Zip (qO w S) (yn a xs) us
 |[],xs,us,h=>by unfold yn;exact h
 |s::a,[],us,h=>by unfold yn;exact h
 |s::a,x::xs,us,h=>by obtain⟨u,b,rfl,c,d⟩:=h.y8;simp only[yn];exact .cons (fc c s) (xW d)
theorem gE{w:World}{S:Nat->Prop}{x y:O}{u:Value}(h:qO w S x u)(a:oZ x y):qO w S y u:=by
 rcases a with rfl|⟨rfl,s,rfl⟩
 ·exact h
 ·exact fc h s
theorem Lh{w:World}{S:Nat->Prop}{x y:O}{u:Value}(h:qO w S x u)(a:bZ x y):qO w S y u:=by
 unfold bZ at a;split at a
 ·cases h with
  |qS g d=>
   rename_i xs ys us;refine .qS (by omega) fun j e v c f=>?_
   have b:j<xs.length:=by rw[a.1];exact(ze.1 c).1
   exact gE (d j xs[j] v (zm b) f) (a.2 j xs[j] e (zm b) c)
 ·exact gE h a
theorem lT(hg:j9 dr C pf)(q:Kd C pf f fn code)(j:Bool)(ns:List Nat)(F:zb->Option O)(hF:∀args r,F args=some r->args.length<=fn.ntmps/\∃r0,zM C fn args=some r0/\bZ r0 r):yU dr C.P f (zp j ns F):=by
 refine⟨⟨fn,q.func,q.name,by rw[q.body];rfl⟩,?_⟩;intro args Y Z r Y' Z' h w S G vs R hz;unfold zp at h;split at h
 ·rename_i aZ Y1 t;split at h
  ·rename_i r0 u;obtain⟨hn,rr,a,y⟩:=hF _ r0 u;unfold zM at a;split at a
   ·rename_i x hpe nxe z;obtain⟨⟨r1,T⟩,A,k⟩:=zD a;simp only at k;subst k;obtain⟨S1,s,B,D⟩:=ym (dr:=dr) R t hz;refine(vM hg q z hn s.inv.st s.inv.KJ (xW B)).mono fun e w' hh=>?_
    obtain⟨v,S',G',U,W,l,hx,hs0,E,_⟩:=hh;obtain⟨S2,k2,H⟩:=vZ (dr:=dr) l A hx;have I:=Lh H y;have m:∀b,S2 b->S1 b\/(w.heap.size<=b/\b<w'.heap.size):=by
     intro b i;have n:=k2.inv.st b i;rcases k2.from_ b i with h1|⟨id,blk,h1,rfl⟩|h1
     ·rcases E b h1 with J|J
      ·exact .inl J
      ·exact .inr ⟨J,n⟩
     ·rcases Nat.lt_or_ge (G' id).g w.heap.size with h3|h3
      ·rename_i o;have:=o id blk h1;omega
      ·exact .inr ⟨h3,n⟩
     ·exact absurd h1 (by omega)
    split at h
    ·rename_i d;injection h with h
     injection h with K h;injection h with L M;subst K;subst L;subst M;refine⟨v,_,G,U,jN.outer R W,.c ?_⟩;rcases d with N|Q
     ·exact b5 I N
     ·have p:=D Q;exact I.mono fun b i=>⟨by rw[<-p];exact m b i,rfl⟩
    ·split at h
     ·injection h with h;injection h with K h;injection h with L M;subst K;subst L;subst M;exact⟨v,_,G,U,s.trans (jN.outer s.inv W),.c (I.mono fun b i=>⟨m b i,rfl⟩)⟩
     ·cases h
   ·cases a
  ·cases h
 ·cases h
end
variable{dr:Prop}
section
variable{P:Program}{Y1 Y2 hpe:Hp}{Z nxe:Nat}{S1 S':Nat->Prop}{G G':Nat->GI}{w w':World}{D:Nat->Prop}
theorem Jn(f:Inv P w S1 G Y1 Z)(a:∀id b,Y2 id=some b->Y1 id=some b/\¬D (G id).g)(m:∀b,D b->yu Y1 G b)(d:Fr dr w D w')(e:Inv P w' S' G' hpe nxe)(i:∀b,S1 b->S' b)(j:∀b,S' b->S1 b\/D b\/w.heap.size<=b) :
  jN dr P Y1 Z S1 G w Y2 Z S' G w':=by
 have n:∀b,S1 b->¬D b:=fun b c o=>by obtain⟨id,blk,r,rfl⟩:=m b o;exact f.apart id blk r c
 have s:∀b,S1 b->S' b/\w'.heap[b]?=w.heap[b]?:=fun b c=>⟨i b c,d.block b (f.st b c) (n b c)⟩
 refine⟨⟨e.st,fun id b c=>f.top id b (a id b c).1,fun id b c=>?_,fun id b c hs=>?_,fun id id' b q c p t=>f.inj id id' b q (a id b c).1 (a id' q p).1 t,e.KJ⟩,zi _,fun _ _=>rfl,i,fun b c=>?_,fun id b c=>.inl ⟨id,b,(a id b c).1,rfl⟩,⟨d.os,d.tape,d.output,d.size,d.drawn,fun k u v=>d.block k u fun o=>v (m k o)⟩⟩
 ·have l:=f.live id b (a id b c).1;exact l.mono s (zi _) (fun _ _=>rfl) (d.block _ l.lt (a id b c).2)
 ·have l:=f.live id b (a id b c).1;rcases j _ hs with h|h|h
  ·exact f.apart id b (a id b c).1 h
  ·exact(a id b c).2 h
  ·have:=l.lt;omega
 ·rcases j b c with h|h|h
  ·exact .inl h
  ·exact .inr (.inl (m b h))
  ·exact .inr (.inr h)
theorem b6(B:Inv P w S1 G Y1 Z)(f:∀id b,Y2 id=some b->Y1 id=some b/\¬D (G id).g)(M:∀b,D b->yu Y1 G b)(Q:Fr dr w D w')(l:Inv P w' S' G' hpe nxe)(F:∀b,S1 b->S' b)(H:∀b,S' b->S1 b\/D b\/w.heap.size<=b)
  {id:Nat} {b:Blk} (C:hpe id=some b) (v:b.arr=true) (s:D (G' id).g\/w.heap.size<=(G' id).g) :
  jN dr P Y1 Z S1 G w (qb Y2 Z (some b)) (Z+1) S' (qb G Z (G' id)) w':=by
 have x:=Jn B f M Q l F H;have y:∀id' z,Y2 id'=some z->(G id').g≠(G' id).g:=fun id' z N q=>by
  rcases s with h|h
  ·exact(f id' z N).2 (q ▸ h)
  ·have:=(B.live id' z (f id' z N).1).lt;omega
 have r:∀k,k<Z->qb G Z (G' id) k=G k:=fun k a=>zc _ _ _ _ (by omega)
 have m:∀k,k≠Z->qb Y2 Z (some b) k=Y2 k:=fun k a=>zc _ _ _ _ a
 have I:∀b,S' b->S' b/\w'.heap[b]?=w'.heap[b]?:=fun b C=>⟨C,rfl⟩
 have e:∀k c,Y2 k=some c->k<Z:=fun k c a=>B.top k c (f k c a).1
 refine⟨⟨l.st,fun k c a=>?_,fun k c a=>?_,fun k c a=>?_,fun k n c A a o q=>?_,l.KJ⟩,by omega,r,x.Wa,x.from_,fun n c a=>?_,x.fr⟩
 ·by_cases d:k=Z
  ·omega
  ·rw[m k d]at a;have:=e k c a;omega
 ·by_cases d:k=Z
  ·subst d;simp only[q9]at a⊢;injection a with a
   subst a;have t:=l.live id _ C;refine⟨t.bs,fun E=>⟨t.size E,t.len E,t.fit E,?_⟩,t.Fa⟩;obtain⟨J,R,S,T⟩:=t.row E;refine⟨J,R,S,fun i j c U K W=>?_⟩;obtain⟨u,h4,L⟩:=T i j c U K W;exact⟨u,h4,L.1,.c (L.1 v),L.2.2⟩
  ·rw[m k d]at a;rw[r k (e k c a)];exact(x.inv.live k c a).mono I (by omega) r rfl
 ·by_cases d:k=Z
  ·subst d;simp only[q9];exact l.apart id b C
  ·rw[m k d]at a;rw[r k (e k c a)];exact x.inv.apart k c a
 ·by_cases d:k=Z<;>by_cases p:n=Z
  ·omega
  ·subst d;rw[m n p]at o;rw[r n (e n A o)]at q;simp only[q9]at q;exact(y n A o q.symm).elim
  ·subst p;rw[m k d]at a;rw[r k (e k c a)]at q;simp only[q9]at q;exact(y k c a q).elim
  ·rw[m k d]at a;rw[m n p]at o;rw[r k (e k c a),r n (e n A o)]at q;exact B.inj k n c A (f k c a).1 (f n A o).1 q
 ·by_cases d:n=Z
  ·subst d;simp only[q9];rcases s with h|h
   ·exact .inl (M _ h)
   ·exact .inr h
  ·rw[m n d]at a;rw[r n (e n c a)];exact .inl ⟨n,c,(f n c a).1,rfl⟩
theorem b7{id n:Nat}{v:Value}(h:zR w' S' G' nxe (.own id 0 n) v):zR w' S' (qb G Z (G' id)) (Z+1) (.own Z 0 n) v:=by have a:=h.vI;obtain⟨cap,e,b,c,d,rfl⟩:=h.ve;have:=zR.own (w:=w') (S:=S') (G:=qb G Z (G' id)) (Z:=Z+1) (id:=Z) (off:=0) (n:=n) (cap:=cap) (by omega) b c (by simpa using d) (by simpa using a);simpa using this
end
section
variable{C:Ctx}{pf:FuncId->Bool}{f:FuncId}{fn:Func}{code:Code}
def b8(r:Option Blk)(x:O)(Y:Hp)(_:Nat):Prop:=match r with
 |none=>x=.nil
 |some b=>∃id,x=.own id 0 b.es.length/\Y id=some b/\b.arr=true
theorem Wq(K:j9 dr C pf)(n:Kd C pf f fn code)(M:List Nat)(F:zb->Option (Option Blk))(L:∀args r,F args=some r->args.length<=fn.ntmps/\∃x Y Z,yd C fn args (fun _=>none) 0=some (x,Y,Z)/\b8 r x Y Z) :
  yU dr C.P f (jT M F):=by
 refine⟨⟨fn,n.func,n.name,by rw[n.body];rfl⟩,?_⟩;intro args Y Z r Y' Z' h w S G vs N Q;unfold jT at h;split at h
 ·rename_i R Y1 s;obtain⟨S1,g,o,_⟩:=ym (dr:=dr) N s Q;have i:∀id b,Y1 id=some b->Y1 id=some b/\¬False:=fun id b h=>⟨h,fun h=>h⟩
  split at h
  ·rename_i j;obtain⟨t,x,hpe,nxe,k,d⟩:=L _ none j;injection h with h
   injection h with u h;injection h with y z;subst u;subst y;subst z;simp only[b8]at d;subst d;refine(vM K n k t g.inv.st g.inv.KJ (xW o)).mono fun e w' A=>?_
   obtain⟨v,S',G',B,E,a,H,l,m,_⟩:=A;have I:=Jn (dr:=dr) (D:=fun _=>False) (Y2:=Y1) g.inv i (fun _ h=>h.elim) E a l (fun b J=>(m b J).imp (fun h=>h) .inr);have:=H.xp;subst this;exact⟨_,_,_,B,g.trans I,.c .nil⟩
  ·rename_i b j;obtain⟨t,x,hpe,nxe,k,d⟩:=L _ (some b) j;injection h with h
   injection h with u h;injection h with y z;subst u;subst y;subst z;obtain⟨id,rfl,hid,p⟩:=d;refine(vM K n k t g.inv.st g.inv.KJ (xW o)).mono fun e w' A=>?_
   obtain⟨v,S',G',B,E,a,H,l,m,q⟩:=A;have I:=b6 (dr:=dr) (D:=fun _=>False) (Y2:=Y1) g.inv i (fun _ h=>h.elim) E a l (fun b J=>(m b J).imp (fun h=>h) .inr) hid p (.inr (q id b hid));exact⟨_,_,_,B,g.trans I,b7 H⟩
  ·cases h
 ·cases h
end
end Go.AM
namespace Go.AM
open Go.RowKit Go.WideShapes Go.ChangeShapes
variable{dr:Prop}
def lU(P:Program):Nat->List Field->Option Nat
 |o,[]=>some o
 |o,f::a=>if f.offset=o then lU P (o+P.cellsOf f.type) a else none
def a6(P:Program)(T:List TypeId):Bool:=T.all fun t=>match P.underlying t with
 |some .bool|some (.int _)|some .string=>P.cellsOf t==1
 |some (.slice e)=>P.cellsOf t==1&&T.contains e&&decide (0<P.cellsOf e)
 |some (.struct a)=>lU P 0 a.toList==some (P.cellsOf t)&&a.toList.all fun f=>T.contains f.type
 |_=>false
structure Bounds (H:Type) (Bl:Nat->Prop) (Bd:DataW H->Prop):Prop where
 slice:∀es sp,Bd (.slice es sp)->Bl es.length/\∀d∈es,Bd d
 nil:Bl 0
 agg:∀l,Bd (.agg l)->∀d∈l,Bd d
 str:∀b,Bd (.lit (.string b))->Bl b.length
section
variable{H:Type}{V:TypeId×Value->H}{P:Program}{w:World}{sp:Nat->Bool}{held:Bool}{Bl:Nat->Prop}{Bd:DataW H->Prop}
theorem ep{α:Type}{l:List α}{o n j:Nat}(a:j<n):((l.drop o).take n)[j]?=l[o+j]?:=by rw[wG,zl a,wu]
theorem fe{R:O->Value->Prop}{Q:Field->zb->Prop}:∀(e:List Field) (o n:Nat) (cs:List Value),lU P o e=some n->cs.length=n ->
  (∀f∈e,∃a,Zip R a ((cs.drop f.offset).take (P.cellsOf f.type))/\Q f a) ->
  ∃a:zb,a.length+o=n/\(∀(j:Nat) (g:O) (u:Value),a[j]?=some g->cs[o+j]?=some u->R g u)/\∀f∈e,o<=f.offset/\Q f ((a.drop (f.offset-o)).take (P.cellsOf f.type))
 |[],o,n,cs,c,p,_=>by
  simp only[lU]at c;injection c with c
  subst c;exact⟨[],by simp,by simp,by simp⟩
 |f::e,o,n,cs,c,p,h=>by
  simp only[lU]at c;split at c
  ·rename_i s;obtain⟨d,q,t⟩:=h f (by simp);obtain⟨i,y,v,w⟩:=fe e (o+P.cellsOf f.type) n cs c p (fun f' b=>h f' (by simp[b]));have l:d.length=P.cellsOf f.type:=by have:=q.1;simp only[Eu,List.length_drop]at this;omega
   refine⟨d++i,by simp;omega,fun j g u k r=>?_,fun f' b=>?_⟩
   ·by_cases m:j<d.length
    ·rw[yi m]at k;refine q.2 j g u k ?_;rw[ep (by omega),s];exact r
    ·rw[qQ (by omega)]at k;refine v (j-d.length) g u k ?_;rw[show o+P.cellsOf f.type+(j-d.length)=o+j from by omega];exact r
   ·rcases zJ.1 b with rfl|b
    ·refine⟨by omega,?_⟩;have:((d++i).drop (f'.offset-o)).take (P.cellsOf f'.type)=d:=by rw[show f'.offset-o=0 from by omega,jd,<-l,List.take_left]
     rw[this];exact t
    ·obtain⟨z,x⟩:=w f' b;refine⟨by omega,?_⟩;have:(d++i).drop (f'.offset-o)=i.drop (f'.offset-(o+P.cellsOf f.type)):=by rw[List.drop_append,List.drop_eq_nil_of_le (by omega),jh];congr 1;omega
     rw[this];exact x
  ·cases c
end
section
variable{C:Ctx}{pf:FuncId->Bool}{f:FuncId}{fn:Func}{code:Code}
theorem tX(o:j9 dr C pf)(g:Kd C pf f fn code){args:zb}(h:zM C fn args=some (.v (.bool true)))(p:args.length<=fn.ntmps){w:World}{vs:List Value}(i:w.ShapedOpen C.P)(a:∀t∈ZJ,lv w (fun b=>b<w.heap.size) t)(q:Zip (qO w (fun b=>b<w.heap.size)) args vs) :
  Calls C.P f vs.toArray w fun e m=>e=.returned (.bool true)/\Below w.heap.size w m:=by
 unfold zM at h;split at h
 ·rename_i x hpe nxe j;obtain⟨⟨r,Y2⟩,l,n⟩:=zD h;simp only at n;subst n;refine(vM o g j p (fun _ s=>s) (tm.Ex i a) q).mono fun e m u=>?_
  obtain⟨v,S',G',y,c,d,z,_⟩:=u;obtain⟨B,_,A⟩:=vZ (dr:=dr) d l z;obtain⟨rfl,_⟩:=A.wj;exact⟨y,c.os,c.tape,c.output,c.size,fun k g=>c.block k g fun h=>h⟩
 ·cases h
end
end Go.AM
namespace Go.AM
variable{dr:Prop}
attribute [congr] lK lL
attribute [simp] Bs Bt Fi tU gB Bu fb Fj Bx Bw oT oU lM gA tT oV ej oW V7
 ek oX lO lQ Bz
@[simp]theorem BE(K:Exit->St->Prop)(st:St):Zo K st=K .normal st:=rfl
@[simp]theorem Fm(id i:Nat)(K:Exit->St->Prop)(st:St)(h:¬i=id):Zf id K (.exit i) st=K (.exit i) st:=by simp[Zf,h]
@[simp]theorem wA{α:Type}(f:Nat->α)(k i:Nat)(x:α)(h:¬i=k):qb f k x i=f i:=by simp[qb,h]
@[simp]theorem Pj(X:Nat->O)(d:Nat)(x:O):put X (some d) x=qb X d x:=rfl
@[simp]theorem Pk(X:Nat->O)(x:O):put X none x=X:=rfl
@[simp]theorem NU(args:zb)(t:Nat):ka args t=(args[t]?).getD (.qS []):=rfl
@[simp]theorem Tz(X:Nat->O)(t:Nat):get X (.tmp t)=some (X t):=rfl
@[simp]theorem BF(X:Nat->O)(f:Nat):get X (.func f)=some (.fn (.func f) [] []):=rfl
@[simp]theorem TA(X:Nat->O)(k:IntKind)(n:Int):get X (.const (.int k n))=some (.v (.int k n)):=rfl
@[simp]theorem Pl(X:Nat->O)(b:Bool):get X (.const (.bool b))=some (.v (.bool b)):=rfl
@[simp]theorem TC(X:Nat->O)(s:ByteArray):get X (.const (.string s))=some (.v (.string s)):=rfl
@[simp]theorem TD(X:Nat->O):get X (.const (.slice none 0 0))=some .nil:=rfl
@[simp]theorem H3(X:Nat->O):get X (.const .nilFunc)=some (.v .nilFunc):=rfl
@[simp]theorem TE(X:Nat->O)(cs:Array Value):get X (.const (.agg cs))=(jE cs.toList).map .agg:=rfl
@[simp]theorem Li(C:Ctx)(a:Array Oper)(d:Option Tmp)(op:Op)(t:TypeId)(p:String)(b:Array Edge)(st:St):w7 C a ⟨d,op,t,p,b,none⟩ st =
  (zF C (get st.X) st.Y st.Z op).map fun r=>⟨put st.X d r.1,r.2.1,r.2.2⟩:=BA C a d op t p b st
def vj(C:Ctx)(d:Option Tmp)(op:Op)(st:St)(y:Option Bool)(b:Bool):Option St:=
 if y=some b then(zF C (get st.X) st.Y st.Z op).map fun r=>⟨put st.X d r.1,r.2.1,r.2.2⟩else some ⟨put st.X d (.qS []),st.Y,st.Z⟩
theorem gF{C:Ctx}{d:Option Tmp}{op:Op}{st:St}{y a:Option Bool}{b:Bool}(h:y=a):vj C d op st y b=vj C d op st a b:=by rw[h]
@[simp]theorem Lj(C:Ctx)(a:Array Oper)(d:Option Tmp)(op:Op)(t:TypeId)(p:String)(c:Array Edge)(j:Nat)(b:Bool)(st:St):w7 C a ⟨d,op,t,p,c,some (j,b)⟩ st =
  vj C d op st (xB a st.X j) b:=by
 unfold w7 vj Region.wanted;simp only[yJ];split
 ·cases zF C (get st.X) st.Y st.Z op<;>rfl
 ·rfl
@[simp]theorem NV(C:Ctx)(d:Option Tmp)(op:Op)(st:St)(b:Bool):vj C d op st (some b) b=(zF C (get st.X) st.Y st.Z op).map fun r=>⟨put st.X d r.1,r.2.1,r.2.2⟩:=by simp[vj]
@[simp]theorem Pm(C:Ctx)(d:Option Tmp)(op:Op)(st:St):vj C d op st (some true) false=some ⟨put st.X d (.qS []),st.Y,st.Z⟩:=by simp[vj]
@[simp]theorem Pn(C:Ctx)(d:Option Tmp)(op:Op)(st:St):vj C d op st (some false) true=some ⟨put st.X d (.qS []),st.Y,st.Z⟩:=by simp[vj]
@[simp]theorem Ll(C:Ctx)(d:Option Tmp)(op:Op)(st:St)(b:Bool):vj C d op st none b=some ⟨put st.X d (.qS []),st.Y,st.Z⟩:=by simp[vj]
attribute [congr] gF
def YA:O->Option Bool
 | .v (.bool b)=>some b
 |_=>none
@[simp]theorem H4(b:Bool):YA (.v (.bool b))=some b:=rfl
@[simp]theorem Lm(l:zb):YA (.qS l)=none:=rfl
def o0(X:Nat->O):Option Nat->Option Bool
 |some d=>YA (X d)
 |none=>none
@[simp]theorem H5(X:Nat->O)(d:Nat):o0 X (some d)=YA (X d):=rfl
@[simp]theorem NW(a:Array Oper)(X:Nat->O)(j:Nat):xB a X j=o0 X ((a[j]?).bind (·.dst)):=by
 unfold xB o0 YA;cases (a[j]?).bind (·.dst)with
 |none=>rfl
 |some d=>rfl
section
variable(C:Ctx)(ρ:Operand->Option O)(Y:Hp)(Z:Nat)
@[simp]theorem Fo(x:Operand):zF C ρ Y Z (.move x)=(ρ x).map fun y=>(y,Y,Z):=rfl
@[simp]theorem tY(x:Operand):zF C ρ Y Z (.assign x)=(ρ x).map fun y=>(y,Y,Z):=rfl
def ZM(c a b:Option O):Option O:=match c with
 |some (.v (.bool true))=>a
 |some (.v (.bool false))=>b
 |_=>none
@[simp]theorem Ln(a b:Option O):ZM (some (.v (.bool true))) a b=a:=rfl
@[simp]theorem H6(a b:Option O):ZM (some (.v (.bool false))) a b=b:=rfl
@[simp]theorem Fp(c a b:Operand):zF C ρ Y Z (.pick c a b)=(ZM (ρ c) (ρ a) (ρ b)).map fun y=>(y,Y,Z):=by
 unfold ZM;simp only[zF];generalize ρ c=o;cases o with
 |none=>rfl
 |some p=>cases p<;>(try rfl);rename_i x;cases x<;>(try rfl);rename_i t;cases t<;>rfl
@[simp]theorem Lo(op:BinOp)(t a:TypeId)(x y:Operand):zF C ρ Y Z (.binOp op t x y a)=(do let p <-ρ x;let q <-ρ y;let r <-Yo (HY y) C.P op t p q;some (r,Y,Z)):=by simp only[zF];cases ρ x<;>cases ρ y<;>(try rfl);simp;cases Yo (HY y) C.P op t _ _<;>rfl
@[simp]theorem Po(op:UnOp)(t:TypeId)(x:Operand):zF C ρ Y Z (.unOp op t x)=(do let p <-ρ x;let r <-EW op p;some (r,Y,Z)):=by simp only[zF];cases ρ x<;>(try rfl);simp;cases EW op _<;>rfl
@[simp]theorem Fq(s d:TypeId)(x:Operand):zF C ρ Y Z (.convert s d x)=(do let p <-ρ x;let r <-JU C.P s d p;some (r,Y,Z)):=by simp only[zF];cases ρ x<;>(try rfl);simp;cases JU C.P s d _<;>rfl
@[simp]theorem Fs(t:TypeId)(x:Operand):zF C ρ Y Z (.load t x)=(do let p <-ρ x;let r <-kx C.P Y t p;some (r,Y,Z)):=by simp only[zF];cases ρ x<;>(try rfl);simp;cases kx C.P Y t _<;>rfl
@[simp]theorem Pp(t:TypeId)(a x:Operand):zF C ρ Y Z (.store t a x)=(do let p <-ρ a;let q <-ρ x;let h <-kG C.P Y t p q;some (.qS [],h,Z)):=by simp only[zF];cases ρ a<;>cases ρ x<;>(try rfl);simp;cases kG C.P Y t _ _<;>rfl
@[simp]theorem gG(t:TypeId)(x:Operand)(f:Nat):zF C ρ Y Z (.fieldAddr t x f)=(do let p <-ρ x;let r <-ye C.P t f p;some (r,Y,Z)):=by simp only[zF];cases ρ x<;>(try rfl);simp;cases ye C.P t f _<;>rfl
@[simp]theorem BG(t:TypeId)(x:Operand)(f:Nat):zF C ρ Y Z (.field t x f)=(do let p <-ρ x;let r <-kl C.P t f p;some (r,Y,Z)):=by simp only[zF];cases ρ x<;>(try rfl);simp;cases kl C.P t f _<;>rfl
@[simp]theorem gH(t:TypeId)(x i:Operand):zF C ρ Y Z (.indexAddr t x i)=(do let p <-ρ x;let q <-ρ i;let r <-qi C.P Y t p q;some (r,Y,Z)):=by simp only[zF];cases ρ x<;>cases ρ i<;>(try rfl);simp;cases qi C.P Y t _ _<;>rfl
@[simp]theorem BH(t:TypeId)(x i:Operand):zF C ρ Y Z (.index t x i)=(do let p <-ρ x;let q <-ρ i;let r <-xA C.P t p q;some (r,Y,Z)):=by simp only[zF];cases ρ x<;>cases ρ i<;>(try rfl);simp;cases xA C.P t _ _<;>rfl
@[simp]theorem BI(t:TypeId)(x:Operand)(a b:Option Operand):zF C ρ Y Z (.slice t x a b none)=(do let p <-ρ x;let r <-yL C.P Y t p (a.map ρ) (b.map ρ);some (r,Y,Z)):=by simp only[zF];cases ρ x<;>(try rfl);simp;cases yL C.P Y t _ _ _<;>rfl
@[simp]theorem Ft(t:TypeId)(l c:Operand):zF C ρ Y Z (.makeSlice t l c)=(do let p <-ρ l;let q <-ρ c;ZK C.P Y Z t p q):=by simp only[zF];cases ρ l<;>cases ρ c<;>rfl
def QS(i:Nat):O->Option O
 | .qS vs=>vs[i]?
 |_=>none
@[simp]theorem Fu(i:Nat)(vs:zb):QS i (.qS vs)=vs[i]?:=rfl
@[simp]theorem o5(x:Operand)(i:Nat):zF C ρ Y Z (.extract x i)=(do let p <-ρ x;let r <-QS i p;some (r,Y,Z)):=by
 simp only[zF];cases ρ x with
 |none=>rfl
 |some p=>cases p<;>(try rfl);simp[QS];rename_i vs;cases vs[i]?<;>rfl
@[simp]theorem Pq(t:TypeId):zF C ρ Y Z (.alloc t)=(do let n <-qF C.P t;let z <-y9 C.P t;if 0<n/\z.length=n then some (.ref Z 0 0,qb Y Z (some ⟨t,n,false,[z]⟩),Z+1)else none):=by simp only[zF];cases qF C.P t<;>cases y9 C.P t<;>rfl
@[simp]theorem U3(t:TypeId)(x:Operand):zF C ρ Y Z (.box t x)=(do let n <-qF C.P t;let y <-ρ x;if 0<n/\y.cells.length=n/\y.cells.all O.we=true then some (.ref Z 0 0,qb Y Z (some ⟨t,n,false,[y.cells]⟩),Z+1)else none):=by simp only[zF];cases qF C.P t<;>cases ρ x<;>rfl
@[simp]theorem Pr(t:TypeId)(a:Array (Nat×Operand)):zF C ρ Y Z (.build t a)=(do let q <-jG ρ a.toList;let r <-zU C.P t q;some (r,Y,Z)):=by simp only[zF];cases jG ρ a.toList<;>(try rfl);simp;cases zU C.P t _<;>rfl
@[simp]theorem EX(t:TypeId)(n:Nat)(a:Array (Nat×Operand)):zF C ρ Y Z (.buildSlice t n a)=(do let q <-jG ρ a.toList;zu C.P Y Z t n q):=by simp only[zF];cases jG ρ a.toList<;>rfl
@[simp]theorem H7(f:Fn)(a b:Array Operand):zF C ρ Y Z (.makeFunc f a b)=(do let p <-wz (a.toList.map ρ);let q <-wz (b.toList.map ρ);some (.fn f p q,Y,Z)):=by simp only[zF];cases wz (a.toList.map ρ)<;>cases wz (b.toList.map ρ)<;>rfl
@[simp]theorem Fv(f:Operand)(args:Array Operand)(ts:Array TypeId):zF C ρ Y Z (.call {callee:=.value f,args:=args,argTypes:=ts})=(do let xs <-wz (args.toList.map ρ);yF C Y Z (ρ f) xs):=by simp only[zF,kH];cases wz (args.toList.map ρ)<;>rfl
@[simp]theorem o6(b:Builtin)(args:Array Operand)(ts:Array TypeId):zF C ρ Y Z (.call {callee:=.builtin b,args:=args,argTypes:=ts})=(do let xs <-wz (args.toList.map ρ);wF C.P Y Z ts b xs):=by simp only[zF,kH];cases wz (args.toList.map ρ)<;>rfl
end
@[simp]theorem H8{α:Type}:wz ([]:List (Option α))=some []:=rfl
@[simp]theorem Fw{α:Type}(x:α)(l:List (Option α)):wz (some x::l)=(wz l).map (x::·):=rfl
@[simp]theorem NX(ρ:Operand->Option O):jG ρ []=some []:=rfl
@[simp]theorem Lp(ρ:Operand->Option O)(i:Nat)(x:Operand)(l:List (Nat×Operand)):jG ρ ((i,x)::l)=(do let p <-ρ x;let r <-jG ρ l;some ((i,p)::r)):=by simp only[jG];cases ρ x<;>cases jG ρ l<;>rfl
theorem o7(C:Ctx)(Y:Hp)(Z g:Nat)(first a xs:zb)(b:AM.Spec)(h:C.Γ g=some b):yF C Y Z (some (.fn (.func g) first a)) xs=b (first++xs++a) Y Z:=by simp[yF,h]
section
variable(P:Program)(Y:Hp)(Z:Nat)(t:TypeId)
@[simp]theorem TF(op:BinOp)(k:IntKind)(a b:Int):Qa P op t (.v (.int k a)) (.v (.int k b))=ak op k a b:=by simp[Qa]
@[simp]theorem TG(op:BinOp)(a b:ByteArray):Qa P op t (.v (.string a)) (.v (.string b))=A0 op a b:=rfl
@[simp]theorem U4(b:Bool):EW .not (.v (.bool b))=some (.v (.bool !b)):=rfl
@[simp]theorem U5(k:IntKind)(n:Int):EW .neg (.v (.int k n))=some (.v (.int k (k.wrap (0-n)))):=rfl
@[simp]theorem Ps(cs:zb):kx P Y t (.ptr cs)=qW P t cs:=rfl
@[simp]theorem Pt(id i j:Nat):kx P Y t (.ref id i j)=(do let b <-Y id;let c <-b.es[i]?;qW P t (c.drop j)):=by
 simp only[kx];cases Y id with
 |none=>rfl
 |some b=>simp;cases b.es[i]?<;>rfl
@[simp]theorem EY(f:Nat)(cs:zb):ye P t f (.ptr cs)=(do let q <-qX P t f;if q.2.1=0 then none else some (.ptr (cs.drop q.1))):=by simp only[ye];cases qX P t f<;>rfl
@[simp]theorem EZ(f id i j:Nat):ye P t f (.ref id i j)=(do let q <-qX P t f;if q.2.1=0 then none else some (.ref id i (j+q.1))):=by simp only[ye];cases qX P t f<;>rfl
@[simp]theorem TH(s:ByteArray):Yp P t (.v (.string s))=match P.underlying t with|some .string=>some (.v (.int .i64 s.size))|_=>none:=rfl
@[simp]theorem U6(s:Nat)(es:List zb):Yp P t (.sl s es)=(w5 P t).map fun _=>.v (.int .i64 es.length):=rfl
@[simp]theorem TI:Yp P t .nil=(w5 P t).map fun _=>.v (.int .i64 0):=rfl
@[simp]theorem TK(id off n:Nat):Yp P t (.own id off n)=(w5 P t).map fun _=>.v (.int .i64 n):=rfl
theorem ff(i:Int)(x:O)(d:∀cs,x≠.ptr cs)(e:∀a b c,x≠.ref a b c):kW P t i x=none:=by
 unfold kW;split
 ·split
  ·split
   ·split
    ·exact absurd rfl (d _)
    ·exact absurd rfl (e _ _ _)
    ·rfl
   ·rfl
  ·rfl
 ·rfl
@[simp]theorem Pu(s:Nat)(es:List zb)(k:IntKind)(i:Int):qi P Y t (.sl s es) (.v (.int k i))=(do let e <-w5 P t;let n <-qF P e;if s=n/\0<n/\0<=i then(es[i.toNat]?).map .ptr else none):=by
 simp only[qi];cases w5 P t with
 |none=>exact(ff P t i _ (fun _=>by simp) (fun _ _ _=>by simp)).trans rfl
 |some e=>simp;cases qF P e<;>rfl
@[simp]theorem NY(id off n:Nat)(k:IntKind)(i:Int):qi P Y t (.own id off n) (.v (.int k i))=(do let e <-w5 P t;let m <-qF P e;let b <-Y id;if b.e=e/\0<m/\0<=i/\i.toNat<n then some (.ref id (off+i.toNat) 0)else none):=by
 simp only[qi];cases w5 P t with
 |none=>exact(ff P t i _ (fun _=>by simp) (fun _ _ _=>by simp)).trans rfl
 |some e=>simp;cases qF P e<;>(try rfl);simp;cases Y id<;>rfl
end
@[simp]theorem Fx(P:Program)(Y:Hp)(Z:Nat)(ts:Array TypeId)(x:O):wF P Y Z ts .len [x]=(do let t <-ts[0]?;let y <-Yp P t x;some (y,Y,Z)):=by
 simp only[wF];cases ts[0]? with
 |none=>rfl
 |some t=>simp;cases Yp P t x<;>rfl
@[simp]theorem Fy(P:Program)(Y:Hp)(Z:Nat)(ts:Array TypeId)(xs:zb):wF P Y Z ts .min xs=(A2 xs).map fun y=>(y,Y,Z):=rfl
@[simp]theorem Fz(P:Program)(Y:Hp)(Z:Nat)(ts:Array TypeId)(xs:zb):wF P Y Z ts .max xs=(A3 xs).map fun y=>(y,Y,Z):=rfl
@[simp]theorem Lq(P:Program)(Y:Hp)(Z:Nat)(ts:Array TypeId)(s x:O):wF P Y Z ts .append [s,x]=(do let t <-ts[0]?;let u <-ts[1]?;yM P Y Z t u s x):=by simp only[wF];cases ts[0]?<;>cases ts[1]?<;>rfl
@[simp]theorem NZ(P:Program)(Y:Hp)(n:Nat)(e t u:TypeId)(i o k:Nat):bt P Y n e t u (.own i o k)=if u=t then view Y n (.own i o k)else none:=rfl
@[simp]theorem Pv(P:Program)(Y:Hp)(n:Nat)(e t u:TypeId)(k:Nat)(es:List zb):bt P Y n e t u (.sl k es)=if u=t then view Y n (.sl k es)else none:=rfl
@[simp]theorem N0(P:Program)(Y:Hp)(n:Nat)(e t u:TypeId):bt P Y n e t u .nil=if u=t then view Y n .nil else none:=rfl
@[simp]theorem Pw(P:Program)(Y:Hp)(n:Nat)(e t u:TypeId):bt P Y n e t u .em=if u=t then view Y n .em else none:=rfl
@[simp]theorem N1(P:Program)(Y:Hp)(n:Nat)(e t u:TypeId)(b:ByteArray):bt P Y n e t u (.v (.string b))=if A4 P u=true/\ly P e=true then some (b.data.toList.map fun c=>[.v (.int .u8 c.toNat)])else none:=rfl
@[simp]theorem N2(P:Program)(Y:Hp)(Z:Nat)(ts:Array TypeId)(x:O):wF P Y Z ts .clear [x]=(do let t <-ts[0]?;Yq P Y Z t x):=by simp only[wF];cases ts[0]?<;>rfl
@[simp]theorem Px(P:Program)(Y:Hp)(Z:Nat)(ts:Array TypeId)(s x:O):wF P Y Z ts .copy [s,x]=(do let t <-ts[0]?;se P Y Z t s x):=by simp only[wF];cases ts[0]?<;>rfl
attribute [simp] A2 Jg A3 Jh ak A0 wW kI Zu
@[simp]theorem N3(cs:zb):O.cells (.agg cs)=cs:=rfl
@[simp]theorem N4(cs:zb):O.cells (.qS cs)=[.qS cs]:=rfl
@[simp]theorem TL(x:Value):O.cells (.v x)=[.v x]:=rfl
@[simp]theorem N5:O.cells .nil=[.nil]:=rfl
@[simp]theorem Py:O.cells .em=[.em]:=rfl
@[simp]theorem Pz(s:Nat)(es:List zb):O.cells (.sl s es)=[.sl s es]:=rfl
@[simp]theorem N6(cs:zb):O.cells (.ptr cs)=[.ptr cs]:=rfl
@[simp]theorem N7(i o n:Nat):O.cells (.own i o n)=[.own i o n]:=rfl
@[simp]theorem N8(i o n:Nat):O.cells (.ref i o n)=[.ref i o n]:=rfl
@[simp]theorem PA(f:Fn)(a b:zb):O.cells (.fn f a b)=[.fn f a b]:=rfl
@[simp]theorem PB(x:Value):O.we (.v x)=true:=rfl
@[simp]theorem Lr:O.we .nil=true:=rfl
@[simp]theorem N9:O.we .em=true:=rfl
@[simp]theorem Oa(s:Nat)(es:List zb):O.we (.sl s es)=true:=rfl
@[simp]theorem Ls(cs:zb):O.we (.ptr cs)=true:=rfl
@[simp]theorem Lt(i o n:Nat):O.we (.own i o n)=true:=rfl
@[simp]theorem Lu(i o n:Nat):O.we (.ref i o n)=true:=rfl
@[simp]theorem Ob(f:Fn)(a b:zb):O.we (.fn f a b)=true:=rfl
@[simp]theorem Lv(cs:zb):O.we (.agg cs)=false:=rfl
@[simp]theorem Lw(cs:zb):O.we (.qS cs)=false:=rfl
attribute [simp] qh zS zt qe AM.freeze O.flat O.isV O.noOwn
@[simp]theorem FA(i o n:Nat):O.yy (.own i o n)=true:=rfl
@[simp]theorem Lx(x:Value):O.yy (.v x)=false:=rfl
@[simp]theorem FB:O.yy .nil=false:=rfl
@[simp]theorem H9:O.yy .em=false:=rfl
@[simp]theorem Ia(s:Nat)(es:List zb):O.yy (.sl s es)=false:=rfl
@[simp]theorem FD(cs:zb):O.yy (.ptr cs)=false:=rfl
@[simp]theorem FE(i o n:Nat):O.yy (.ref i o n)=false:=rfl
@[simp]theorem Ib(f:Fn)(a b:zb):O.yy (.fn f a b)=false:=rfl
@[simp]theorem wI{α:Type}(f:Nat->α)(k:Nat)(x y:α):qb (qb f k x) k y=qb f k y:=by funext i;simp only[qb];split<;>rfl
@[simp]theorem Oc(P:Program)(Y:Hp)(t:TypeId)(id i j:Nat)(x:O):kG P Y t (.ref id i j) x=(do
  let a <-Y id;let q <-(if a.arr=true then zS Y x else some (x,Y));let b <-q.2 id;let n <-qF P t;let c <-b.es[i]?
  if q.1.cells.length=n/\j+n<=c.length/\q.1.cells.all O.we=true then some (qb q.2 id (some ⟨b.e,b.s,b.arr,b.es.set i (wW c j q.1.cells)⟩))else none):=by
 simp only[kG];cases Y id with
 |none=>rfl
 |some a=>
  simp only[Option.bind_eq_bind,zH];generalize (if a.arr=true then zS Y x else some (x,Y))=o;cases o with
  |none=>rfl
  |some q=>
   obtain⟨y,d⟩:=q;simp only[zH];cases d id with
   |none=>rfl
   |some b=>
    simp only[zH];cases qF P t with
    |none=>rfl
    |some n=>simp only[zH];cases b.es[i]?<;>rfl
@[simp]theorem TM(x y:Value)(Y:Hp)(Z:Nat):ja (.v y) (.v x) Y Z=(x=y):=by simp[ja]
def PC:O->Int
 | .v (.int _ n)=>n
 |_=>0
@[simp]theorem Od(k:IntKind)(n:Int):PC (.v (.int k n))=n:=rfl
theorem wN{n:Int}(a:-9223372036854775808<=n)(b:n<=9223372036854775807):IntKind.i64.wrap n=n:=by rw[IntKind.wrap_i64];omega
variable{dr:Prop}
open Classical in
noncomputable def qD {α b:Type} (V:α->zb) (pre:α->Prop) (out:α->b):zb->Option b:=fun args=>
 if h:∃a,args=V a/\pre a then some (out (Classical.choose h))else none
theorem qj{α e:Type}{V:α->zb}{pre:α->Prop}{out:α->e}(d:∀a b,V a=V b->a=b){a:α}(h:pre a):qD V pre out (V a)=some (out a):=by have c:∃b,V a=V b/\pre b:=⟨a,rfl,h⟩;unfold qD;rw[dif_pos c];have:=wJ c;rw[<-d _ _ this.1]
theorem zQ{α c:Type}{V:α->zb}{pre:α->Prop}{out:α->c}{args:zb}{r:c}(h:qD V pre out args=some r):∃a,args=V a/\pre a/\r=out a:=by
 unfold qD at h;split at h
 ·rename_i b;injection h with h
  have:=wJ b;exact⟨_,this.1,this.2,h.symm⟩
 ·cases h
abbrev Qh:=List (Nat×AM.Spec)
def lookup:Qh->Nat->Option AM.Spec
 |[],_=>none
 |(k,s)::l,g=>if g=k then some s else lookup l g
@[simp]theorem XT(k:Nat)(s:AM.Spec)(l:Qh)(g:Nat):lookup ((k,s)::l) g=if g=k then some s else lookup l g:=rfl
def qp(P:Program)(l:Qh):Ctx:=⟨P,lookup l,fun _=>[],fun _=>[],fun _=>false,fun _=>[],fun _=>none⟩
@[simp]theorem Oe(P:Program)(l:Qh)(i:Nat):(qp P l).dyn i=[]:=rfl
@[simp]theorem E0(P:Program)(l:Qh)(i:Nat)(a:Array Oper)(d:Bool)(st:St)(K:Exit->St->Prop):vB (qp P l) (.region i a d) st K=bV (qp P l) a a.toList st (Zo K):=xE _ i a d st K rfl rfl
def vk(P:Program)(l:Qh)(a:Nat->List (Tmp×Tmp)):Ctx:=⟨P,lookup l,a,fun _=>[],fun _=>false,fun _=>[],fun _=>none⟩
@[simp]theorem PD(P:Program)(l:Qh)(a:Nat->List (Tmp×Tmp)):(vk P l a).P=P:=rfl
@[simp]theorem TN(P:Program)(l:Qh):(qp P l).P=P:=rfl
@[simp]theorem TQ(P:Program)(l:Qh)(Y:Hp)(Z g:Nat)(a b xs:zb):yF (qp P l) Y Z (some (.fn (.func g) a b)) xs=(lookup l g).bind fun s=>s (a++xs++b) Y Z:=by unfold yF qp;simp only;cases lookup l g<;>rfl
@[simp]theorem PE(P:Program)(l:Qh)(c:Nat->List (Tmp×Tmp))(Y:Hp)(Z g:Nat)(a b xs:zb):yF (vk P l c) Y Z (some (.fn (.func g) a b)) xs=(lookup l g).bind fun s=>s (a++xs++b) Y Z:=by unfold yF vk;simp only;cases lookup l g<;>rfl
def lV(dr:Prop)(P:Program)(q:List Nat):Qh->Prop
 |[]=>True
 |(g,s)::l=>yU dr P g s/\(q.contains g=true->xu s)/\lV dr P q l
theorem qH{P:Program}{l:Qh}{q:List Nat}(c:P.follows .mixedOrders=true)(h:lV dr P q l):j9 dr (qp P l) (fun g=>q.contains g):=by
 have a:∀(l:Qh),lV dr P q l->∀g s,lookup l g=some s->yU dr P g s/\(q.contains g=true->xu s):=by
  intro l
  induction l with
  |nil=>intro _ g s h;cases h
  |cons x l d=>
   obtain⟨k,sp⟩:=x;rintro⟨e,f,i⟩ g s hs;simp only[XT]at hs;split at hs
   ·rename_i b;injection hs with hs
    subst hs;subst b;exact⟨e,f⟩
   ·exact d i g s hs
 exact⟨fun g s hs=>(a l h g s hs).1,fun g s j hs=>(a l h g s hs).2 j,c,(fun _ _ h=>by cases h),(fun _ _ h=>by cases h)⟩
def Ly(dr:Prop)(P:Program):Qh->Prop
 |[]=>True
 |(g,s)::l=>yU dr P g s/\Ly dr P l
abbrev g0F:Nat->Bool:=fun g=>([]:List Nat).contains g
abbrev Gd(C:Ctx):Prop:=AM.Good C g0F
theorem PF{P:Program}:∀{l:Qh},Ly dr P l->lV dr P [] l
 |[],_=>trivial
 |(_,_)::_,h=>⟨h.1,by simp,PF h.2⟩
theorem qT{P:Program}{l:Qh}(a:P.follows .mixedOrders=true)(h:Ly dr P l):j9 dr (qp P l) g0F:=qH (q:=[]) a (PF h)
theorem wP(k:Nat)(h:k<9223372036854775807:=by omega):IntKind.i64.wrap ((k:Int)+1)=(k:Int)+1:=wN (by omega) (by omega)
theorem wY(n:Int)(h:-9223372036854775808<=n/\n<=9223372036854775807:=by omega):IntKind.i64.wrap n=n:=wN h.1 h.2
theorem KX{P:Program}{l:Qh}{q:List Nat}(a:Nat->List (Tmp×Tmp))(b:P.follows .mixedOrders=true)(h:lV dr P q l):j9 dr (vk P l a) (fun g=>q.contains g):=
 let g:=qH b h
 ⟨g.spec,g.quiet,g.mixed,(fun _ _ h=>by cases h),(fun _ _ h=>by cases h)⟩
theorem wy(x:O):bZ x x:=by
 unfold bZ;split
 ·exact⟨rfl,fun j x y b a=>by rw[b]at a;injection a with a;exact .inl a⟩
 ·exact .inl rfl
theorem KY{C:Ctx}{fn:Func}{code:Code}{args:zb}{Y:Hp}{Z:Nat}{r:Option Blk}(a:fn.body=some code)
  (h:vB C code ⟨ka args,Y,Z⟩ (KW C.P fn (b8 r))):∃x Y' Z',yd C fn args Y Z=some (x,Y',Z')/\b8 r x Y' Z':=wX a h
def qV(Y:Hp)(Z:Nat)(e s:Nat)(v:O)(xs:List zb):Prop:=(v=.nil/\xs=[])\/∃id,id<Z/\v=.own id 0 xs.length/\Y id=some ⟨e,s,true,xs⟩
def XU(v:O)(Y:Hp):Hp:=match v with
 | .own id _ _=>qb Y id none
 |_=>Y
theorem qV.len{P:Program}{Y:Hp}{Z e s:Nat}{v:O}{xs:List zb}{t:TypeId}(h:qV Y Z e s v xs)(a:w5 P t=some e):Yp P t v=some (.v (.int .i64 xs.length)):=by rcases h with⟨rfl,rfl⟩|⟨id,_,rfl,_⟩<;>simp[a]
theorem qV.view{Y:Hp}{Z e s:Nat}{v:O}{xs:List zb}(h:qV Y Z e s v xs):view Y s v=some xs:=by rcases h with⟨rfl,rfl⟩|⟨id,_,rfl,h⟩<;>simp[AM.view, *]
theorem qV.jt{P:Program}{Y:Hp}{Z e s a:Nat}{v:O}{xs:List zb}{c z:zb}{t:TypeId}(h:qV Y Z e s v xs)(i:w5 P t=some e)(hs:qF P e=some s)(j:vX P e=some a)(k:y9 P e=some z)
  (b:z.length=s) (l:0<s) (d:xs.length+1<=maxLen) (f:(xs.length+1)*a<=140737488355328) :
  yM P (qb Y Z (some ⟨e,s,true,[c]⟩)) (Z+1) t t v (.own Z 0 1) =
   some (.own (Z+1) 0 (xs.length+1),qb (XU v (qb Y Z (some ⟨e,s,true,[c]⟩))) (Z+1) (some ⟨e,s,true,xs++[c]⟩),Z+2):=by
 rcases h with⟨rfl,rfl⟩|⟨id,hid,rfl,m⟩
 ·simp at d f;simp[yM,i,hs,j,k,b,l,d,f,AM.view,XU]
 ·have g:¬id=Z:=by omega
  simp[yM,i,hs,j,k,b,l,d,f,AM.view,XU,g,m]
theorem qV.after{Y:Hp}{Z e s:Nat}{v:O}{xs:List zb}{c:zb}{tmp:Option Blk}:qV (qb (XU v (qb Y Z tmp)) (Z+1) (some ⟨e,s,true,xs++[c]⟩)) (Z+2) e s (.own (Z+1) 0 (xs.length+1)) (xs++[c]):=
 .inr ⟨Z+1,by omega,by simp,by simp⟩
theorem yf{Y:Hp}{Z e s:Nat}{v:O}{xs:List zb}(h:qV Y Z e s v xs)(Y':Hp)(id:Nat)(a:∀n,v≠.own id 0 n):XU v Y' id=Y' id:=by
 rcases h with⟨rfl,rfl⟩|⟨k,b,rfl,c⟩
 ·rfl
 ·have:¬id=k:=fun e=>a _ (by rw[e])
  simp[XU,this]
theorem Wr{α c:Type}{f:α->c}(h:∀a b,f a=f b->a=b):∀{xs ys:List α},xs.map f=ys.map f->xs=ys
 |[],[],_=>rfl
 |[],y::ys,e=>by simp at e
 |x::xs,[],e=>by simp at e
 |x::xs,y::ys,e=>by simp at e;rw[h x y e.1,Wr h e.2]
def FF(I:Nat->(Nat->O)->Hp->Nat->Prop)(n k:Nat)(K:Exit->St->Prop)(e:Exit)(st:St):Prop:=match e with
 | .normal=>k+1<=n/\I (k+1) st.X st.Y st.Z
 |e=>K e st
@[simp]theorem Ic(I:Nat->(Nat->O)->Hp->Nat->Prop)(n k:Nat)(K:Exit->St->Prop)(st:St):FF I n k K .normal st=(k+1<=n/\I (k+1) st.X st.Y st.Z):=rfl
@[simp]theorem PG(I:Nat->(Nat->O)->Hp->Nat->Prop)(n k:Nat)(K:Exit->St->Prop)(st:St):FF I n k K .ret st=K .ret st:=rfl
@[simp]theorem Of(I:Nat->(Nat->O)->Hp->Nat->Prop)(n k i:Nat)(K:Exit->St->Prop)(st:St):FF I n k K (.exit i) st=K (.exit i) st:=rfl
theorem qA{C:Ctx}{b:Code}{st:St}{K:Exit->St->Prop}(I:Nat->(Nat->O)->Hp->Nat->Prop)(n:Nat)(j:I 0 st.X st.Y st.Z)
  (a:∀k X Y Z,k<=n->I k X Y Z->vB C b ⟨X,Y,Z⟩ (FF I n k K)):vB C (.loop b) st K:=by
 have f:∀d k st,n-k=d->k<=n->I k st.X st.Y st.Z->vB C (.loop b) st K:=by
  intro d
  induction d with
  |zero=>
   intro k st l g i;rw[zY];refine(a k st.X st.Y st.Z g i).mono fun e c h=>?_
   cases e
   case normal=>have:=h.1;omega
   all_goals exact h
  |succ d m=>
   intro k st l g i;rw[zY];refine(a k st.X st.Y st.Z g i).mono fun e c h=>?_
   cases e
   case normal=>exact m (k+1) c (by omega) h.1 h.2
   all_goals exact h
 exact f _ 0 st rfl (kj _) j
variable{dr:Prop}
abbrev str(l:za):O:=.v (.string ⟨l.toArray⟩)
@[simp]theorem PH(l:za):(ByteArray.mk l.toArray).size=l.length:=by simp[ByteArray.size]
@[simp]theorem U7(l:za)(i:Nat):(ByteArray.mk l.toArray)[i]?=l[i]?:=by
 by_cases h:i<l.length
 ·rw[getElem?_pos (ByteArray.mk l.toArray) i (by simpa using h),zm h];rfl
 ·rw[getElem?_neg (ByteArray.mk l.toArray) i (by simpa using h),q5 (by omega)]
@[simp]theorem BJ(l:za)(a b:Nat):(ByteArray.mk l.toArray).extract a b=⟨((l.drop a).take (b-a)).toArray⟩:=by have h:=Lib.extract_data (ByteArray.mk l.toArray) a b;rw[ByteArray.ext_iff];apply Ev.1;rw[h]
@[simp]theorem TR(a b:za):ByteArray.mk a.toArray++ByteArray.mk b.toArray=⟨(a++b).toArray⟩:=by rw[ByteArray.ext_iff];apply Ev.1;simp[ByteArray.data_append]
theorem ya{a b:za}(h:str a=str b):a=b:=by injection h with h;injection h with h;injection h with h;simpa using zk Array.toList h
@[simp]theorem Og(P:Program)(t:TypeId)(l:za)(k:IntKind)(i:Int)(h:P.underlying t=some .string):xA P t (.v (.string ⟨l.toArray⟩)) (.v (.int k i)) =
  if 0<=i then(l[i.toNat]?).map fun b=>.v (.int .u8 b.toNat)else none:=by
 simp only[xA,h,U7];split
 ·cases l[i.toNat]?<;>rfl
 ·rfl
@[simp]theorem Oh(P:Program)(Y:Hp)(t:TypeId)(l:za)(c d:Option (Option O))(h:P.underlying t=some .string):yL P Y t (.v (.string ⟨l.toArray⟩)) c d =
  (je 0 c).bind fun a=>(je l.length d).bind fun b=>if a<=b/\b<=l.length then some (str ((l.drop a).take (b-a)))else none:=by
 simp only[yL,h,PH,BJ];cases je 0 c<;>(try rfl);cases je l.length d<;>rfl
attribute [simp] je
@[simp]theorem FG(P:Program)(t:TypeId)(a b:Bool)(h:P.underlying t=some .bool):Qa P .eql t (.v (.bool a)) (.v (.bool b))=some (.v (.bool (a==b))):=by simp[Qa,h]
@[simp]theorem PI(P:Program)(s d:TypeId)(k:IntKind)(n:Int):JU P s d (.v (.int k n))=(P.underlying s).bind fun _=>(P.underlying d).bind fun u=>match u with|.int a=>some (.v (.int a (a.wrap n)))|_=>none:=by simp only[JU];cases P.underlying s<;>(try rfl);cases P.underlying d<;>(try rfl);rename_i u;cases u<;>rfl
theorem Ie(a b:UInt8):((a.toNat:Int)==(b.toNat:Int))=decide (a=b):=by rw[vU];simp[<-wE];omega
theorem yg{F:zb->Option O}{b:List Nat}{a:Bool}{args c:zb}{Y Y1:Hp}{Z:Nat}{r:O}(d:zt Y args=some (c,Y1))(e:F (yn b c)=some r)(f:r.flat=true\/args.all O.noOwn=true) :
  zp a b F args Y Z=some (r,Y,Z):=by
 unfold zp;simp only[d,e,f,qa]
theorem ql{k:IntKind}{a b:Int}(h:O.v (.int k a)=.v (.int k b)):a=b:=by injection h with h;injection h
theorem ZE{a b:Bool}(h:O.v (.bool a)=.v (.bool b)):a=b:=by injection h with h;injection h
def PJ{α a:Type}(f:α->a)(K:a->Prop)(x:α):Prop:=K (f x)
def PK{α a:Type}(f:α->Option a)(K:a->Prop)(x:α):Prop:=Yx (f x) K
@[simp]theorem Oi{α a:Type}(f:α->a)(K:a->Prop)(x:α):PJ f K x=K (f x):=rfl
@[simp]theorem Oj{α a:Type}(f:α->Option a)(K:a->Prop)(x:α):PK f K x=Yx (f x) K:=rfl
def Kl(C:Ctx)(pf:FuncId->Bool)(f:FuncId)(fn:Func):Prop:=∃code,Kd C pf f fn code
theorem jo{C:Ctx}{pf:FuncId->Bool}{f:FuncId}{fn:Func}(d:j9 dr C pf)(b:Kl C pf f fn)(a:Bool)(c:List Nat)(F:zb->Option O)(e:∀args r,F args=some r->args.length<=fn.ntmps/\∃r0,zM C fn args=some r0/\bZ r0 r):yU dr C.P f (zp a c F):=
 let⟨_,b⟩:=b
 lT d b a c F e
def TS(pf:FuncId->Bool)(C:Ctx)(fn:Func):Bool:=!(fn.name== "runtime.NumGoroutine")&&match fn.body with
 |some c=>jS pf C.dyn C.AV C.bk fn.ntmps c
 |none=>false
theorem wL{C:Ctx}{pf:FuncId->Bool}{f:FuncId}{fn:Func}(h:C.P.funcs[f]?=some fn)(a:TS pf C fn=true:=by kernel_rfl):Kl C pf f fn:=by
 unfold TS at a;split at a
 ·rename_i c b;simp only[zs,Qw]at a;exact⟨c,h,a.1,b,a.2⟩
 ·simp at a
theorem XV{C:Ctx}{pf:FuncId->Bool}{f:FuncId}{fn:Func}{α:Type}{V:α->zb}{pre:α->Prop}{out:α->O}(d:j9 dr C pf)(h:C.P.funcs[f]?=some fn)(b:Bool)(c:List Nat)(e:∀a,pre a->(V a).length<=fn.ntmps/\∃r0,zM C fn (V a)=some r0/\bZ r0 (out a))(g:TS pf C fn=true:=by kernel_rfl):yU dr C.P f (zp b c (qD V pre out)):=
 jo d (wL h g) b c _ fun args r h=>by obtain⟨a,rfl,Y,rfl⟩:=zQ h;exact e a Y
theorem sn{α:Type}{V:α->zb}{pre:α->Prop}{out:α->O}(a:α)(Y:Hp)(Z:Nat)(b:zt Y (V a)=some (V a,Y))(c:∀x y,V x=V y->x=y)(h:pre a)(d:(out a).flat=true\/(V a).all O.noOwn=true):zp false [] (qD V pre out) (V a) Y Z=some (out a,Y,Z):=
 yg b (by
  have e:∀l:zb,yn [] l=l:=fun l=>by cases l<;>rfl
  rw[e];exact qj c h) d
noncomputable def kE (C:Ctx) (fn:Func):AM.Spec:=fun args Y Z=>if args.length<=fn.ntmps then yd C fn args Y Z else none
theorem o8{C:Ctx}{pf:FuncId->Bool}{f:FuncId}{fn:Func}{code:Code}(b:j9 dr C pf)(a:Kd C pf f fn code):yU dr C.P f (kE C fn):=by
 refine⟨⟨fn,a.func,a.name,by rw[a.body];rfl⟩,?_⟩;intro args Y Z r Y' Z' h w S G vs c d;unfold kE at h;split at h
 ·rename_i e;exact Kk b.spec b.quiet b.box b.iter b.mixed a.func a.body a.ok h c d e
 ·cases h
theorem KZ{C:Ctx}{pf:FuncId->Bool}{f:FuncId}{fn:Func}(a:j9 dr C pf)(h:C.P.funcs[f]?=some fn)(b:TS pf C fn=true:=by kernel_rfl):yU dr C.P f (kE C fn):=let⟨_,k⟩:=wL h b;o8 a k
end Go.AM
namespace Go.AM
open Go.RowKit Go.WideShapes Go.ChangeShapes
variable{dr:Prop}
section
variable{H:Type}{V:TypeId×Value->H}{P:Program}
theorem J0(g:laidOutB P=true){W i:World}(j:Below W.heap.size W i){k:Nat->Bool}:∀{ts:List TypeId} {vs:List Value} {ds:List (DataW H)} {b:List MemPlace},(∀t∈ts,P.readableRec t=true/\t<P.types.size) ->
  DataW.TrodAll V P W 0 (fun _=>true) true ts vs ds b->(∀p∈b,p.block<W.heap.size)->(∀p∈b,k p.block=true)->DataW.TrodAll V P i 0 k true ts vs ds b
 |[],vs,ds,b,_,h,_,_=>by obtain⟨rfl,rfl,rfl⟩:=trodAll_nil h;exact trodAll_mk0
 |t::ts,vs,ds,b,f,h,c,e=>by
  obtain⟨v,l,d,m,p,q,rfl,rfl,rfl,n,o⟩:=trodAll_cons h;exact trodAll_cons_mk (WideElems.Trod_stays g (f t (by simp)).1 (f t (by simp)).2 n (fun x a=>j.same (c x (by simp[a]))) (fun x a=>e x (by simp[a])))
   (J0 g j (fun u r=>f u (by simp[r])) o (fun x a=>c x (by simp[a])) (fun x a=>e x (by simp[a])))
theorem BK{f:Func}{s:ChangeSpec}{a i c j:Bool}{W m:World}{args:Array Value}{ds E:List (DataW H)}{before:List MemPlace}(F:laidOutB P=true)(G:∀t∈f.params.toList,P.readableRec t=true/\t<P.types.size)
  (A:s.vars=[]) (v:DataW.Whole V P f.params.toList s.vars a W args.toList ds E before) (k:s.fn H ds={results:=[.lit (.bool true)],args:=ds}) {tb:TypeId} (B:f.resultTypes=#[tb]) (n:P.underlying tb=some .bool) (w:Below W.heap.size W m) :
  s.post V P f a i c j W args (.bool true) m:=by
 have l:∀p∈before,p.block<W.heap.size:=fun p Y=>v.lt p Y
 have x:=v;obtain⟨p,q,I,C,o,J,K⟩:=v;rw[A]at C;obtain⟨rfl,rfl⟩:=trodVars_none C;simp only[yo]at o;subst o;have y:DataW.TrodAll V P W 0 (fun _=>true) true f.params.toList args.toList ds before:=I;have d:∀g:Nat->Bool,(∀p∈before,g p.block=true)->DataW.TrodAll V P m 0 g true f.params.toList args.toList ds before:=fun g z=>J0 F w G y l z
 have r:∀p∈before,(fun b=>decide (b<W.heap.size)) p.block=true:=fun p Y=>by simpa using l p Y
 have h:∀(b:Nat) (g:Nat->Bool) (D:Bool),DataW.TrodAll V P m b g D f.resultTypes.toList ((Value.bool true).resultList f.resultTypes.size) [.lit (.bool true)] []:=fun b g D=>by rw[B];exact trodAll_cons_mk (shut_bool n _) trodAll_mk0
 have e:∀g,DataW.TrodVars V P m g s.vars [] []:=fun g=>by rw[A];rfl
 refine⟨ds,[],before,[],before,[],by simpa using x,?_,?_,?_,World.keptBut_mono (fun p Y=>⟨Y,.inr (.inl Y)⟩) (w.frame (·∈before)),fun _=>?_⟩
 ·rw[yo,k];exact h _ _ _
 ·rw[yo,k];exact d _ r
 ·rw[yo,k];exact e _
 ·refine⟨ok_one B rfl (okWide_bool_mk n _),_,_,([]++before)++[],⟨[]++before,[],trodAll_append (d _ (fun _ _=>rfl)) (h _ _ _),e _,rfl,?_,?_⟩,?_⟩
  ·intro b off Y;have u:MemPlace.cell b off∈before:=by simpa using Y
   rw[w.frozen (l _ u)];exact J b off (by simpa using u)
  ·intro L;have:=K L;simpa using this
  ·intro p Y _;simpa using Y
end
end Go.AM
namespace Go.AM
variable{dr:Prop}
def od(u:O->O):Prop:=∀(w:World) (S:Nat->Prop) (y:O) (v:Value),qO w S y v->qO w S (u y) v
def Lz(k:Nat):O->O
 | .nil=>.sl k []
 |x=>x
def b9:List (O->O)->zb->zb
 |u::us,x::xs=>u x::b9 us xs
 |_,xs=>xs
def tZ(us:List (O->O)):O->O
 | .agg cs=>.agg (b9 us cs)
 |x=>x
def FH(us:List (O->O)):O->O
 | .qS cs=>.qS (b9 us cs)
 |x=>x
theorem od.id:od fun x=>x:=fun _ _ _ _ h=>h
theorem od.nz(k:Nat):od (Lz k):=fun w S y v h=>by
 cases y<;>first
  |exact h
  |exact gE h (.inr ⟨rfl,k,rfl⟩)
theorem ca:∀(us:List (O->O)) (xs:zb),(b9 us xs).length=xs.length
 |[],_=>rfl
 |_::_,[]=>rfl
 |u::us,x::xs=>by simp[b9,ca us xs]
theorem cc:∀(us:List (O->O)) (_:∀u∈us,od u) (xs:zb) (w:World) (S:Nat->Prop) (j:Nat) (y:O) (v:Value),(b9 us xs)[j]?=some y->(∀x,xs[j]?=some x->qO w S x v)->qO w S y v
 |[],_,_,_,_,_,y,_,a,b=>b y a
 |_::_,_,[],_,_,_,_,_,a,_=>by simp[b9]at a
 |u::us,c,x::xs,w,S,0,y,v,a,b=>by simp only[b9,Kc,qu]at a;rw[<-a];exact c u (by simp) w S x v (b x rfl)
 |u::us,c,x::xs,w,S,j+1,y,v,a,b=>cc us (fun u h=>c u (by simp[h])) xs w S j y v (by simpa[b9]using a) (fun x d=>b x (by simpa using d))
theorem od.agg{us:List (O->O)}(a:∀u∈us,od u):od (tZ us):=fun w S y v h=>by
 cases h with
 |agg b c=>exact .agg (by rw[ca];exact b) fun j d x e f=>cc us a _ w S j d x e fun z g=>c j z x g f
 |_=>first
  |exact .v (by assumption)
  |exact .nil
  |exact .em (by assumption)
  |(simp only[tZ];constructor<;>assumption)
theorem od.qS{us:List (O->O)}(a:∀u∈us,od u):od (FH us):=fun w S y v h=>by
 cases h with
 |qS b c=>exact .qS (by rw[ca];exact b) fun j d x e f=>cc us a _ w S j d x e fun z g=>c j z x g f
 |_=>first
  |exact .v (by assumption)
  |exact .nil
  |exact .em (by assumption)
  |(simp only[FH];constructor<;>assumption)
end Go.AM
namespace Go.AM
open Go.RowKit Go.Sort Go.Proofs
variable{dr:Prop}
def Zg(xs:List zb)(i:Nat):zb:=xs.getD (if i<xs.length then i else 0) []
theorem jq{xs:List zb}(h:xs≠[])(i:Nat):Zg xs i∈xs:=by
 have b:0<xs.length:=Yl.2 h;have a:(if i<xs.length then i else 0)<xs.length:=by split<;>assumption
 unfold Zg;rw[Q9,zm a];exact zz _
theorem BL{xs:List zb}{i:Nat}(h:i<xs.length):Zg xs i=xs[i]:=by unfold Zg;rw[zl h,Q9,zm h];rfl
def cd(cf:zb->zb->Int)(xs:List zb)(i j:Nat):Int:=cf (Zg xs i) (Zg xs j)
def vC(cf:zb->zb->Int)(xs:List zb):Array Nat:=pdq (ltOf (cd cf xs)) (Array.range xs.length) 0 xs.length (Lib.bitLen xs.length) true true
def vq(cf:zb->zb->Int)(xs:List zb):List zb:=if xs.length=0 then[]else(vC cf xs).toList.map (Zg xs)
structure Z9 (cf:List O->List O->Int) (xs:List (List O)):Prop where
 irrefl:∀x∈xs,0<=cf x x
 trans:∀x∈xs,∀y∈xs,∀z∈xs,cf x y<0->cf y z<0->cf x z<0
 ntrans:∀x∈xs,∀y∈xs,∀z∈xs,0<=cf x y->0<=cf y z->0<=cf x z
section
variable{cf:zb->zb->Int}{xs:List zb}
theorem so{i j:Nat}(h:ltOf (cd cf xs) i j=true):cf (Zg xs i) (Zg xs j)<0:=wT h
theorem ch{i j:Nat}(h:ltOf (cd cf xs) i j=false):0<=cf (Zg xs i) (Zg xs j):=Int.not_lt.1 (of_decide_eq_false h)
theorem BM{i j:Nat}(h:cf (Zg xs i) (Zg xs j)<0):ltOf (cd cf xs) i j=true:=decide_eq_true h
theorem sq{i j:Nat}(h:0<=cf (Zg xs i) (Zg xs j)):ltOf (cd cf xs) i j=false:=decide_eq_false (Int.not_lt.2 h)
theorem Z9.swo(h:Z9 cf xs)(a:xs≠[]):SWO (ltOf (cd cf xs)) where
 irrefl i:=sq (h.irrefl _ (jq a i))
 trans i j k b c:=BM (h.trans _ (jq a i) _ (jq a j) _ (jq a k) (so b) (so c))
 ntrans i j k b c:=sq (h.ntrans _ (jq a i) _ (jq a j) _ (jq a k) (ch b) (ch c))
theorem Ws(h:Z9 cf xs)(a:xs≠[]):PermIn 0 xs.length (Array.range xs.length) (vC cf xs)/\SortedIn (ltOf (cd cf xs)) 0 xs.length (vC cf xs):=
 pdq_sorts (ltOf (cd cf xs)) (h.swo a) (Array.range xs.length) 0 xs.length (Lib.bitLen xs.length) true true (kj _) (by simp) (Or.inl rfl)
theorem Wt(h:Z9 cf xs)(a:xs≠[]):(vC cf xs).size=xs.length:=by have:=(Ws h a).1.1;simpa using this
theorem ZN(h:Z9 cf xs):(vq cf xs).Perm xs:=by
 unfold vq;split
 ·rename_i a;have:xs=[]:=qy.1 a;subst this;exact .refl _
 ·rename_i a;have c:xs≠[]:=by rintro rfl;simp at a
  obtain⟨k,_,d⟩:=(Ws h c).1;have hs:=Wt h c;have f:(vC cf xs).extract 0 xs.length=vC cf xs:=by rw[<-hs];simp
  have g:(Array.range xs.length).extract 0 xs.length=Array.range xs.length:=by
   conv=>lhs;rw[show xs.length=(Array.range xs.length).size by simp]
   simp
  rw[f,g]at d;have e:=d.map (Zg xs);have j:(Array.range xs.length).toList.map (Zg xs)=xs:=by
   apply List.ext_getElem
   ·simp
   ·intro i l b;simp[BL b]
  rw[j]at e;exact e
theorem Wu(h:Z9 cf xs):(vq cf xs).Pairwise (fun x y=>0<=cf y x):=by
 unfold vq;split
 ·exact List.Pairwise.nil
 ·rename_i f;have c:xs≠[]:=by rintro rfl;simp at f
  have hs:=Wt h c;have g:=(Ws h c).2;rw[tl,List.pairwise_iff_getElem];intro i j d a b;have e:=g i j (kj _) b (by simp at a;omega);simp at d a;rw[HE _ i d,HE _ j a]at e;simpa using ch e
theorem Wv(h:Z9 cf xs):(vq cf xs).length=xs.length:=(ZN h).length_eq
end
def gI(P:Program)(f k:Nat):Prop:=
 (∀(α:Type) [Inhabited α] (V:α->List Value) (_:∀x,(V x).length=k) (_:∀x,∀v∈V x,v.oneCell'=true) (cf:α->α->Int) (_:SWO (ltOf cf)) (g:Nat) (blk off cap:Nat) (d:Array α) (w:World)
  (_:∀args w,(callFunc g args).run P w=.ok (.enter g args) w) (_:CmpLays P g #[] V k cf blk off d.size w) (_:HoldsK V k w blk off d) (_:blk<w.heap.size) (_:d.size<4611686018427387904),
  Calls P f #[.slice (some ⟨blk,off,none⟩) d.size cap,.func (.func g) #[] #[]] w fun e a=>
   e=.returned (.tuple #[])/\∃n b,a=sortWorldK V k w blk off n (pdq (ltOf cf) d 0 d.size (Lib.bitLen d.size) true true) b) /\
 ∀(p:Option Addr) (cap:Nat) (c:Value) (w:World),Calls P f #[.slice p 0 cap,c] w fun e a=>e=.returned (.tuple #[])/\a=w
def sr(P:Program)(g k:Nat)(cf:zb->zb->Int)(dom:zb->Prop):Prop:=
 (∀args w,(callFunc g args).run P w=.ok (.enter g args) w)/\∃a,zh P g a/\∀x y,x.length=k->y.length=k->dom x->dom y->a [.agg x,.agg y] (fun _=>none) 0=some (.v (.int .i64 (cf x y)),fun _=>none,0)
open Classical in
noncomputable def QT (k:Nat) (g:Nat) (cf:zb->zb->Int) (dom:zb->Prop):AM.Spec:=fun args Y Z=>
 match args with
 |[.nil,.fn _ _ _]=>some (.qS [],Y,Z)
 |[.own id off n,.fn (.func a) [] []]=>if n=0 then some (.qS [],Y,Z)else match Y id with
  |some b=>if a=g/\b.arr=true/\b.s=k/\off+n<=b.es.length/\n<4611686018427387904/\Z9 cf ((b.es.drop off).take n)/\∀x∈(b.es.drop off).take n,dom x then
    some (.qS [],qb Y id (some ⟨b.e,b.s,b.arr,b.es.take off++vq cf ((b.es.drop off).take n)++b.es.drop (off+n)⟩),Z)else none
  |none=>none
 |_=>none
theorem o9{W a:World}(h:Fr True W (fun _=>False) a):∃q d,a=grow (W.drewN q) d:=by
 refine⟨a.drawn-W.drawn,a.heap.extract W.heap.size a.heap.size,?_⟩;obtain⟨b,f,e,p,c⟩:=a;obtain⟨g,j,k,o,l,m⟩:=h;simp only at g j k o l m;unfold grow World.drewN;simp only[World.mk.injEq];refine⟨?_,j,by have:=l trivial;omega,g,k⟩;apply Array.ext_getElem?;intro i;by_cases n:i<W.heap.size
 ·rw[m i n (fun h=>h),nZ n]
 ·rw[Array.getElem?_append_right (by omega),Array.getElem?_extract];by_cases r:i<b.size
  ·rw[zl (by omega)];congr 1;omega
  ·rw[zg (by omega),Array.getElem?_eq_none (by omega)]
theorem jN.grown{P:Program}{Y:Hp}{Z:Nat}{S:Nat->Prop}{G:Nat->GI}{w d:World}(h:Inv P w S G Y Z)(c:Fr dr w (fun _=>False) d):jN dr P Y Z S G w Y Z S G d:=by
 have e:∀b,b<w.heap.size->d.heap[b]?=w.heap[b]?:=fun b a=>c.block b a (fun h=>h)
 refine⟨⟨fun b a=>q8 (h.st b a) c.size,h.top,fun id b a=>?_,h.apart,h.inj,h.KJ.mono fun b a=>⟨a,e b (h.st b a)⟩⟩,zi _,fun _ _=>rfl,fun _ a=>a,fun _ a=>.inl a,fun id b a=>.inl ⟨id,b,a,rfl⟩,⟨c.os,c.tape,c.output,c.size,c.drawn,fun k g _=>c.block k g (fun h=>h)⟩⟩;have f:=h.live id b a;exact f.mono (fun b a=>⟨a,e b (h.st b a)⟩) (zi _) (fun _ _=>rfl) (e _ f.lt)
theorem Ww{α:Type}[Inhabited α](V:α->List Value)(k:Nat)(w:World)(blk off m:Nat)(d:Array α)(a:Array Obj):Fr dr (putRowK V k w blk off d) (fun _=>False) (sortWorldK V k w blk off m d a):=by
 refine⟨rfl,rfl,rfl,?_,fun _=>?_,fun b c _=>?_⟩
 ·show _<=(_++a).size;rw[Array.size_append];exact Nat.le_add_right _ _
 ·exact Nat.le_add_right _ _
 ·exact nZ c
theorem xO{α:Type}[Inhabited α](V:α->List Value)(k:Nat)(w:World)(blk off:Nat)(d:Array α){a:Array Value}{e:TypeId}(h:w.heap[blk]?=some (.cells a e (0,0))) :
  putRowK V k w blk off d=w.setRow blk (putCells (fun v:Value=>v) off (flatK V k d) a):=by
 unfold putRowK putRow mapBlock World.setRow;congr 1;apply Array.ext_getElem?;intro i;simp only[vH];by_cases b:blk=i
 ·subst b;simp only[qa,h,zO,onCells];rfl
 ·simp[b]
section
variable{P:Program}{f k g:Nat}{cf:zb->zb->Int}{dom:zb->Prop}
theorem YB(h0:0<k)(hfn:∃fn,P.funcs[f]?=some fn/\(fn.name== "runtime.NumGoroutine")=false/\fn.body.isNone=false)(hso:gI P f k)(hco:sr P g k cf dom):yU dr P f (QT k g cf dom):=by
 refine⟨hfn,?_⟩;intro args Y Z r Y' Z' h w S G vs T hz;unfold QT at h;split at h
 ·injection h with h;injection h with e1 h;injection h with e2 e3;subst e1;subst e2;subst e3;obtain⟨u,us,rfl,hu,z⟩:=hz.y8;obtain⟨v,us,rfl,hv,z⟩:=z.y8;obtain rfl:=z.Wb;obtain rfl:=hu.xp;refine(hso.2 none 0 v w).mono fun e w' hh=>?_
  obtain⟨rfl,rfl⟩:=hh;exact⟨_,_,_,rfl,.refl T,jn⟩
 ·rename_i id off n g';obtain⟨u,us,rfl,hu,z⟩:=hz.y8;obtain⟨v,us,rfl,hv,z⟩:=z.y8;obtain rfl:=z.Wb;have o:=hu.vI;obtain⟨cap,g1,g2,g3,g4,rfl⟩:=hu.ve;split at h
  ·rename_i hn0;subst hn0;injection h with h
   injection h with e1 h;injection h with e2 e3;subst e1;subst e2;subst e3;refine(hso.2 _ cap v w).mono fun e w' hh=>?_
   obtain⟨rfl,rfl⟩:=hh;exact⟨_,_,_,rfl,.refl T,jn⟩
  rename_i hn0;split at h
  case h_2=>cases h
  rename_i b hb;split at h
  case isFalse=>cases h
  rename_i hc;obtain⟨rfl,harr,hbk,SI,hn,hW,M⟩:=hc;injection h with h
  injection h with e1 h;injection h with e2 e3;subst e1;subst e2;subst e3;have d:=T.live id b hb;obtain⟨us,ts,rfl,hus,hts,_,_⟩:=hv.iY;obtain rfl:us=#[]:=Array.eq_empty_of_size_eq_zero (by simpa using hus.symm);obtain rfl:ts=#[]:=Array.eq_empty_of_size_eq_zero (by simpa using hts.symm);have A:(G id).s=k:=by rw[<-d.bs];exact hbk
  obtain⟨N,c1,c2,c3⟩:=d.row o;rw[A]at c3 g4;obtain⟨xs,Q⟩:=yX ((b.es.drop off).take n);rw[Q]at hW M;have H:xs.length=n:=by rw[<-Q];simp;omega
  have I:xs≠[]:=by rintro rfl;simp at H;omega
  have B:∀x∈xs,x.length=k:=fun x I=>by rw[<-A];rw[<-Q]at I;exact d.len o x (List.mem_of_mem_drop (List.mem_of_mem_take I))
  have hxg:∀i,i<n->xs[i]?=b.es[off+i]?:=fun i T=>by rw[<-Q,wG,zl T,wu]
  let ix:Nat->Nat:=fun i=>if i<n then i else 0
  have hix:∀i,ix i<n:=fun i=>by show(if i<n then i else 0)<n;split<;>omega
  have hel:∀i,xs[ix i]?=some (Zg xs i):=fun i=>by
   unfold Zg;rw[Q9];show xs[if i<n then i else 0]?=_;have:(if i<n then i else 0)<xs.length:=by rw[H];exact hix i
   rw[H,zm this];rfl
  let V:Nat->List Value:=fun i=>(List.range k).map fun j=>(N[(off+ix i)*k+j]?).getD undef
  have hek:∀x,(V x).length=k:=fun x=>by simp[V]
  have l:∀i j C,(Zg xs i)[j]?=some C->∃u,N[(off+ix i)*k+j]?=some u/\(V i)[j]?=some u/\qO w S C u/\u.oneCell'=true:=fun i j C hj=>by
   have J:j<k:=by have:=(ze.1 hj).1;rw[B _ (jq I i)]at this;exact this
   obtain⟨u,U,L⟩:=c3 (off+ix i) j (Zg xs i) C (by rw[<-hxg _ (hix i)];exact hel i) hj;rw[harr]at L;refine⟨u,U,?_,L.1 rfl,L.2.2⟩;simp[V,J,U]
  have E:∀i j,j<k->∃C,(Zg xs i)[j]?=some C:=fun i j hj=>by
   have:j<(Zg xs i).length:=by rw[B _ (jq I i)];exact hj
   exact⟨_,zm this⟩
  have h1c:∀x,∀v∈V x,v.oneCell'=true:=fun x v hv=>by obtain⟨j,hj,rfl⟩:=zZ.1 hv;obtain⟨C,SJ⟩:=E x j (vy.1 hj);obtain⟨u,U,_,_,q4⟩:=l x j C SJ;rw[U];exact q4
  have hblk:(G id).g<w.heap.size:=d.lt;have F:∀m D (p:Array Nat) K,S K->(sortWorldK V k w (G id).g (off*k) m p D).heap[K]?=w.heap[K]?:=fun m D p K a=>by
   have R:K<(putRowK V k w (G id).g (off*k) p).heap.size:=by rw[xO V k w _ _ p c1,size_setRow];exact T.st K a
   rw[(Ww (dr:=True) V k w (G id).g (off*k) m p D).block K R (fun h=>h),xO V k w _ _ p c1];exact setRow_other _ _ _ _ fun e=>T.apart id b hb (e ▸ a)
  have SK:∀m D (p:Array Nat),w.heap.size<=(sortWorldK V k w (G id).g (off*k) m p D).heap.size:=fun m D p=>by have:=(Ww (dr:=True) V k w (G id).g (off*k) m p D).size;rw[xO V k w _ _ p c1,size_setRow]at this;exact this
  obtain⟨eg,spec,hsp,EB⟩:=hco;have hcmp:CmpLays P g' #[] V k (cd cf xs) (G id).g (off*k) n w:=by
   intro m D p OX x y;have SL:∀x,qO (sortWorldK V k w (G id).g (off*k) m p D) S (.agg (Zg xs x)) (.agg (V x).toArray):=fun x=>by
    refine .agg (by simp[hek,B _ (jq I x)]) fun j C u hj hu=>?_
    obtain⟨u',_,L,q3,_⟩:=l x j C hj;have:u=u':=by simpa[L]using hu.symm
    subst this;exact q3.mono fun K a=>⟨a,F m D p K a⟩
   have:=hsp.2 _ _ _ _ _ _ (EB _ _ (B _ (jq I x)) (B _ (jq I y)) (M _ (jq I x)) (M _ (jq I y))) (sortWorldK V k w (G id).g (off*k) m p D) S G [.agg (V x).toArray,.agg (V y).toArray]
    ⟨fun K a=>q8 (T.st K a) (SK m D p),fun _ _ h=>(nomatch h),fun _ _ h=>(nomatch h),fun _ _ h=>(nomatch h),fun _ _ _ _ h=>(nomatch h),T.KJ.mono fun K a=>⟨a,F m D p K a⟩⟩ (.cons (.c (SL x)) (.cons (.c (SL y)) .nil))
   refine this.mono fun e w' hh=>?_
   obtain⟨v,S',G',rfl,st,hv⟩:=hh;obtain⟨rfl,_⟩:=hv.wj;refine⟨rfl,o9 ⟨st.fr.os,st.fr.tape,st.fr.output,st.fr.size,st.fr.drawn,fun k hk _=>st.fr.block k hk ?_⟩⟩;rintro⟨_,_,h,_⟩;cases h
  have hH:HoldsK V k w (G id).g (off*k) (Array.range n):=by
   intro t ht;have UN:t<n*k:=by simpa using ht
   have hd:=Nat.div_add_mod t k;have hm:=Nat.mod_lt t h0;have hdl:t/k<n:=(Nat.div_lt_iff_lt_mul h0).2 UN;rw[get_flatK _ _ _ _ (by simpa using UN)];have hr:(Array.range n)[t/k]! = t/k:=by rw[HE _ _ (by simpa using hdl)];simp
   obtain⟨C,SJ⟩:=E (t/k) (t % k) hm;obtain⟨u,U,L,_,_⟩:=l (t/k) (t % k) C SJ;have hixe:ix (t/k)=t/k:=zl hdl;constructor
   ·rw[cell_of_row w _ _ N _ _ c1,hr,List.getElem!_eq_getElem?_getD,L];rw[hixe]at U;have:off*k+t=(off+t/k)*k+t % k:=by rw[w8,VU (t/k) k];omega
    rw[this,U];rfl
   ·simp[World.frozen?,c1]
  have hsw:=hW.swo I;have key:=hso.1 Nat V hek h1c (cd cf xs) hsw g' (G id).g (off*k) cap (Array.range n) w eg (by simpa using hcmp) hH hblk (by simpa using hn);have es1:(Array.range n).size=n:=by simp
  rw[es1]at key;rw[A];refine key.mono fun e w' hh=>?_
  obtain⟨rfl,m,D,rfl⟩:=hh;have hidx:pdq (ltOf (cd cf xs)) (Array.range n) 0 n (Lib.bitLen n) true true=vC cf xs:=by unfold vC;rw[H]
  rw[hidx];have hds:(vC cf xs).size=n:=by rw[Wt hW I,H]
  have I1:(vq cf xs).length=n:=by rw[Wv hW,H]
  have hpl:off+(vq cf xs).length<=b.es.length:=by rw[I1];exact SI
  have SM:∀i,i<n->(vq cf xs)[i]?=some (Zg xs (vC cf xs)[i]!):=fun i hin=>by unfold vq;rw[zg (by omega),z8,Array.getElem?_toList,HE _ i (by omega),jO (by omega)];rfl
  refine⟨_,S,G,rfl,?_,jn⟩;rw[Q];have AW:=jN.set (dr:=dr) T hb o (putCells (fun v:Value=>v) (off*k) (flatK V k (vC cf xs)) N) (b.es.take off++vq cf xs++b.es.drop (off+n)) (by simp[putCells,c2])
   (fun c hc=>by
    rw[qt]at hc;rcases wg.1 hc with hc|hc
    ·exact d.len o c (List.mem_of_mem_take hc)
    rcases wg.1 hc with hc|hc
    ·rw[A];exact B c ((ZN hW).mem_iff.1 hc)
    ·exact d.len o c (List.mem_of_mem_drop hc))
   (by have:=xM b.es (vq cf xs) off hpl;rw[I1]at this;rw[this];exact d.fit o)
   (fun i j c C q W=>by
    have SN:=xC b.es (vq cf xs) off i hpl;rw[I1]at SN;rw[SN]at q;rw[A];split at q
    ·rename_i hin;rw[SM _ (by omega)]at q;injection q with q
     subst q;have J:j<k:=by have:=(ze.1 W).1;rw[B _ (jq I _)]at this;exact this
     obtain⟨u,U,L,q3,q4⟩:=l _ j C W;refine⟨u,?_,fun _=>q3,.c q3,q4⟩;obtain⟨i',rfl⟩:∃i',i=off+i':=⟨i-off,by omega⟩;have e1:off+i'-off=i':=by omega
     rw[e1]at L;have e2:(off+i')*k+j=off*k+(i'*k+j):=by rw[w8];omega
     have R:i'*k+j<n*k:=v7 (by omega) J;have hcl:off*k+(i'*k+j)<N.size:=by rw[c2];have:=d.fit o;rw[A]at this;have h5:(off+n)*k<=b.es.length*k:=z6 k SI;rw[w8]at h5;omega
     rw[e2];unfold putCells;rw[Array.getElem?_mapIdx,jO hcl];simp only[zO,size_flatK,hds];rw[zl ⟨by omega,by omega⟩,show off*k+(i'*k+j)-off*k=i'*k+j by omega,get_flatK _ _ _ _ (by rw[hds];exact R)];have e3:(i'*k+j)/k=i':=by rw[VU,Nat.mul_add_div h0,Nat.div_eq_of_lt J];rfl
     have e4:(i'*k+j) % k=j:=by rw[VU,Nat.mul_add_mod,aT J]
     rw[e3,e4,List.getElem!_eq_getElem?_getD,L];rfl
    ·rename_i hin;obtain⟨u,U,L⟩:=c3 i j c C q W;refine⟨u,?_,L⟩;have J:j<k:=by have:=(ze.1 W).1;rw[d.len o c (zI q),A]at this;exact this
     unfold putCells;rw[Array.getElem?_mapIdx,U];simp only[zO,size_flatK,hds];rw[zg];rintro⟨a1,a2⟩;apply hin;constructor
     ·apply Nat.not_lt.1;intro R;have:(i+1)*k<=off*k:=z6 k R;rw[w8]at this;omega
     ·apply Nat.not_le.1;intro hle;have:(off+n)*k<=i*k:=z6 k hle;rw[w8]at this;omega)
  rw[<-xO V k w _ _ _ c1]at AW;exact AW.trans (jN.grown AW.inv (Ww V k w (G id).g (off*k) m (vC cf xs) D))
 ·cases h
end
end Go.AM
namespace Go.AM
variable{dr:Prop}
variable{dr:Prop}
section
variable{C:Ctx}{pf:FuncId->Bool}{N:Nat}
def Wp(dr:Prop)(C:Ctx)(N:Nat)(c:Code)(st:St)(K:Exit->St->Prop):Prop:=
 ∀(d:World) (g L:Nat->Prop) (h:Nat) (i:Nat->GI) (f:Nat) (a:Act) (w:World) (Q:Exit->Act->World->Prop),f<=d.heap.size->aW dr C.P d g L N h i f st a w ->
  (∀e b j k,K e b->aW dr C.P d g L N h i f b j k->Q e j k)->c.wpIn Fence.wide 0 C.P Q a w
theorem Wp.of(b:j9 dr C pf){c:Code}{st:St}{K:Exit->St->Prop}(f:jS pf C.dyn C.AV C.bk N c=true)(h:vB C c st K):Wp dr C N c st K:=by obtain⟨e,d,i,j⟩:=h;intro k l L m n o a w Q p hs q;exact bY b.spec b.quiet b.box b.iter b.mixed c f Fence.wide 0 (.inl rfl) (.inl rfl) k l L m n o st d e a w Q p i hs fun r s g=>q e d r s j g
theorem Wp.mono{c:Code}{st:St}{K f:Exit->St->Prop}(h:Wp dr C N c st K)(g:∀e b,K e b->f e b):Wp dr C N c st f:=
 fun i j L k l m a w Q n hs o=>h i j L k l m a w Q n hs fun e b p q d=>o e b p q (g e b d)
def ss(dr:Prop)(C:Ctx)(N:Nat)(y:Code)(K:Exit->St->Prop)(e:Exit)(st:St):Prop:=match e with
 | .normal=>Wp dr C N y st K
 |e=>K e st
theorem Wp.seq{x y:Code}{st:St}{K:Exit->St->Prop}(h:Wp dr C N x st (ss dr C N y K)):Wp dr C N (.seq x y) st K:=by
 intro c d L f g i a w Q j hs k;refine wpIn_seq (h c d L f g i a w _ j hs fun e m n o l b=>?_);cases e<;>first
  |exact l c d L f g i n o Q j b k
  |exact k _ _ _ _ l b
theorem Wp.block{id:Nat}{b:Code}{st:St}{K:Exit->St->Prop}(h:Wp dr C N b st (Zf id K)):Wp dr C N (.block id b) st K:=by
 intro j k L l m n a w Q o hs f;refine wpIn_block (h j k L l m n a w _ o hs fun e p q r d c=>?_);cases e with
 |exit i=>
  unfold Zf at d;unfold Exit.inBlock;simp only at d⊢;split at d
  ·rename_i g;rw[zl g];exact f _ _ _ _ d c
  ·rename_i g;rw[zg g];exact f _ _ _ _ d c
 |_=>exact f _ _ _ _ d c
theorem Wp.cond{c:Operand}{x y:Code}{st:St}{K:Exit->St->Prop}{b:Bool}(e:get st.X c=some (.v (.bool b)))(h:Wp dr C N (if b=true then x else y) st K):Wp dr C N (.cond c x y) st K:=by intro f g L i j k a w Q l hs m;obtain⟨S,G,d⟩:=hs;obtain⟨n,_⟩:=(Wf d.vT e).wj;exact wpIn_cond n (h f g L i j k a w Q l ⟨S,G,d⟩ m)
def gJ(I:Nat->St->Prop)(n:Nat)(K:Exit->St->Prop)(e:Exit)(st:St):Prop:=match e with
 | .normal=>∃m,m<n/\I m st
 |e=>K e st
theorem Wp.loop{b:Code}{st:St}{K:Exit->St->Prop}(I:Nat->St->Prop)(n:Nat)(q:I n st)(h:∀n st,I n st->Wp dr C N b st (gJ I n K)):Wp dr C N (.loop b) st K:=by
 intro i j L l o p a w Q r hs s;refine wpIn_loop_rounds (n+1) ?_;have f:∀(k n:Nat) (st:St) (a:Act) (w:World),n<k->I n st->aW dr C.P i j L N l o p st a w->Code.roundsIn Fence.wide 0 C.P b Q k a w:=by
  intro k
  induction k with
  |zero=>intro n st a w t;omega
  |succ k u=>
   intro n st a w t v hs;rw[roundsIn_succ];refine h n st v i j L l o p a w _ r hs fun e g x y c d=>?_
   cases e with
   |normal=>obtain⟨m,A,z⟩:=c;exact u m g x y (by omega) z d
   |_=>exact s _ _ _ _ c d
 exact f _ n st a w (by omega) q hs
def KH(dr:Prop)(C:Ctx)(N:Nat)(c:Array Oper)(l:List Nat)(st:St)(K:St->Prop):Prop:=
 ∀(d:World) (e L:Nat->Prop) (f:Nat) (g:Nat->GI) (h:Nat) (a:Act) (w:World) (Q:Exit->Act->World->Prop),aW dr C.P d e L N f g h st a w ->
  (∀b i j,K b->aW dr C.P d e L N f g h b i j->Q .normal i j)->wpOpsIn Fence.wide 0 C.P c Q l a w
theorem Wp.region{id:Nat}{b:Array Oper}{st:St}{K:Exit->St->Prop}(h:KH dr C N b (List.range b.size) st (Zo K)):Wp dr C N (.region id b false) st K:=
 fun e f L g i j a w Q _ hs k=>wpIn_region (h e f L g i j a w Q hs fun c l m n d=>k .normal c l m n d)
theorem KH.nil{b:Array Oper}{st:St}{K:St->Prop}(h:K st):KH dr C N b [] st K:=fun d e L f g i a w Q hs c=>c st a w h hs
theorem KH.cons(P:j9 dr C pf){k:Array Oper}{i:Nat}{o:Oper}{l:List Nat}{st q:St}{K:St->Prop}(R:k[i]?=some o)(r:∀d,o.dst=some d->d<N)(j:w7 C k o st=some q)(h:KH dr C N k l q K):KH dr C N k (i::l) st K:=by
 intro s t L u z A a w Q hs B;simp only[wpOpsIn,R];obtain⟨S,G,m⟩:=hs;unfold w7 at j;rw[bX m.vT];split at j
 ·rename_i D;rw[zl D];split at j
  ·rename_i x Y Z n;injection j with j
   subst j;have E:∀c,o.op≠.defer c:=by intro c F;rw[F]at n;simp[zF]at n
   refine⟨fun f _=>trivial,?_⟩;rw[Oper.semAt_eq _ _ _ E];have H:=KS P.spec m.inv (a:=a.eval) (fun y W T=>Wf m.vT T) (o:=o) n;rcases H with⟨v,I,S',G',p,J,M⟩|⟨g,vs,p,F⟩
   ·have b:=h s t L u z A _ I Q ⟨S',G',m.step J M r⟩ B;rcases p with p|⟨p,rfl⟩
    ·rw[p];exact b
    ·rw[p];exact b
   ·rw[p];refine⟨fun h=>by simp[Fence.wide]at h,ec.2 (F.mono fun e I U=>?_)⟩;obtain⟨v,S',G',rfl,J,M⟩:=U;exact h s t L u z A _ I Q ⟨S',G',m.step J M r⟩ B
  ·cases j
 ·rename_i D;rw[zg D];injection j with j
  subst j;exact⟨fun f _=>trivial,h s t L u z A _ w Q ⟨S,G,m.step (.refl m.inv) jn r⟩ B⟩
end
section
variable{P:Program}{w:World}{S:Nat->Prop}{G:Nat->GI}{Y:Hp}{Z:Nat}
end
section
variable{C:Ctx}{pf:Nat->Bool}{f:FuncId}{fn:Func}{code:Code}
theorem lW{st:St}{a:Act}{w:World}{S:Nat->Prop}{G:Nat->GI}(l:Inv C.P w S G st.Y st.Z)(f:∀t,zR w S G st.Z (st.X t) (a.tmps.getD t undef)){r:O}(h:kI C.P fn st=some r):∃v,(results fn a.tmps).run C.P w=.ok v w/\zR w S G st.Z r v:=by
 unfold kI at h;have go:∀xs,wz (fn.results.toList.map (Zu C.P st))=some xs->r=(match xs with|[x]=>x|xs=>.qS xs)->∃v,(results fn a.tmps).run C.P w=.ok v w/\zR w S G st.Z r v:=by
  intro xs g b;obtain⟨us,m,c⟩:=QC l f g;have e:(results fn a.tmps).run C.P w=.ok (if h:us.toArray.size=1 then us.toArray[0]else .tuple us.toArray) w:=by unfold results;rw[Array.mapM_eq_mapM_toList];simp only[jY,Sem.run_map];erw [m];rfl
  refine⟨_,e,?_⟩
  match xs,c,b with
  |[],c,b=>rw[c.Wb];subst b;exact .qS rfl (by simp)
  |[y],c,b=>obtain⟨u,rfl,i⟩:=Wl c;subst b;simpa using i
  |y::z::ys,c,b=>have k:=c.1;subst b;rw[dif_neg (by simp at k⊢;omega)];exact .qS (by simpa using k) (fun j n u o i=>c.2 j n u o (by simpa using i))
 split at h
 ·rename_i y p;injection h with h
  exact go [y] p h.symm
 ·rename_i xs d g;injection h with h
  refine go xs g ?_;rw[<-h]
  match xs,d with
  |[],_=>rfl
  |[y],d=>exact(d y rfl).elim
  |y::z::ys,_=>rfl
 ·cases h
theorem XW(q:C.P.funcs[f]?=some fn)(s:fn.body=some code){args:zb}{Y:Hp}{Z:Nat}{R:O->Hp->Nat->Prop}(U:Wp dr C fn.ntmps code ⟨ka args,Y,Z⟩ (KW C.P fn R))
  {w:World} {S:Nat->Prop} {G:Nat->GI} {vs:List Value} (W:Inv C.P w S G Y Z) (u:Zip (zR w S G Z) args vs) (hn:args.length<=fn.ntmps) :
  Calls C.P f vs.toArray w fun e i=>∃x Y' Z' v S' G',R x Y' Z'/\e=.returned v/\jN dr C.P Y Z S G w Y' Z' S' G' i/\zR i S' G' Z' x v:=by
 refine ec.1 (callsIn_of_wp_marks (n:=0) q s trivial ?_);have m:aW dr C.P w S (yu Y G) fn.ntmps Z G w.heap.size ⟨ka args,Y,Z⟩ {tmps:=vs.toArray++Array.replicate (fn.ntmps-vs.toArray.size) undef,defers:=[]} w:=by
  refine⟨S,G,W,fun t=>?_,?_,.nil (zi _),fun _ h=>h,fun _ h=>.inl h,fun id b d=>.inl ⟨id,b,d,rfl⟩,Fr.refl _ _,zi _,fun _ _=>rfl⟩
  ·have y:vs.length=args.length:=u.1.symm;unfold ka;by_cases ht:t<args.length
   ·have l:args[t]?=some args[t]:=zm ht;have N:vs[t]?=some (vs[t]'(by omega)):=zm (by omega);have h3:=u.2 t _ _ l N;have z:(vs.toArray++Array.replicate (fn.ntmps-vs.toArray.size) undef)[t]?=vs[t]?:=by rw[nZ (by simpa using(by omega:t<vs.length))];simp
    simp only[l,aV];rw[Qx,z,N];exact h3
   ·have l:args[t]?=none:=q5 (by omega);have z:(vs.toArray++Array.replicate (fn.ntmps-vs.toArray.size) undef).getD t undef=undef:=by rw[Qx,Array.getElem?_append_right (by simpa using(by omega:vs.length<=t)),Array.getElem?_replicate];split<;>rfl
    simp only[l,Option.getD_none];rw[z];exact jn
  ·have y:vs.length=args.length:=u.1.symm;simp;omega
 refine U w S (yu Y G) Z G w.heap.size _ w _ (zi _) m fun e st A Q c B=>?_
 obtain⟨S',G',a⟩:=B;obtain⟨hd0,T,E,F,g⟩:=a.defers;have H:(e=.normal\/e=.ret)/\∃r,kI C.P fn st=some r/\R r st.Y st.Z:=by
  cases e<;>first
   |exact⟨.inl rfl,c⟩
   |exact⟨.inr rfl,c⟩
   |exact c.elim
 obtain⟨H,r,I,hR⟩:=H;have o:LeavesInM Fence.wide 0 C.P fn A.tmps (fun e i=>∃x Y' Z' v S' G',R x Y' Z'/\e=.returned v/\jN dr C.P Y Z S G w Y' Z' S' G' i/\zR i S' G' Z' x v) A.defers .returning Q:=by
  rw[E];refine Wo (dr:=dr) T Q F (fun D hD=>(g D hD).2.1) fun i k=>?_
  have p:∀b,b∈T->Ym S' G' st.Y b:=fun b d=>⟨(g b d).2.2.1,(g b d).2.2.2⟩
  have j:=a.inv.frame k p;have J:∀t,zR i S' G' st.Z (st.X t) (A.tmps.getD t undef):=fun t=>(a.vT t).mono (fun b d=>⟨d,k.block b (a.inv.st b d) fun K=>(p b K).1 d⟩) (zi _) (fun _ _=>rfl)
  have hk:jN dr C.P Y Z S G w st.Y st.Z S' G' i:=⟨j,a.up,a.loc,a.s0,a.s1,a.own,a.fr.trans k fun b d l=>by have:=(g b l).1;omega⟩;obtain⟨v,L,M⟩:=lW j J I;exact⟨v,L,r,_,_,v,S',G',hR,rfl,hk,M⟩
 rcases H with rfl|rfl
 ·exact o
 ·exact o
end
variable{dr:Prop}
def V8:Op->Bool
 | .move _|.assign _|.pick _ _ _|.load _ _|.binOp _ _ _ _ _|.unOp _ _ _|.convert _ _ _|.fieldAddr _ _ _|.field _ _ _|.indexAddr _ _ _|.index _ _ _|.extract _ _=>true
 | .slice _ _ _ _ none=>true
 | .call c=>match c.callee with
  | .builtin .len=>true
  | .builtin .min=>true
  | .builtin .max=>true
  |_=>false
 |_=>false
def gK(C:Ctx)(st:St)(op:Op):Option O:=(zF C (get st.X) st.Y st.Z op).map (·.1)
theorem YC{o:Option O}{Y:Hp}{Z:Nat}:(o.map fun y=>(y,Y,Z))=((o.map fun y=>(y,Y,Z)).map (·.1)).map fun x=>(x,Y,Z):=by cases o<;>rfl
theorem jU{o:Option O}{Y:Hp}{Z:Nat}:(o.bind fun y=>some (y,Y,Z))=((o.bind fun y=>some (y,Y,Z)).map (·.1)).map fun x=>(x,Y,Z):=by cases o<;>rfl
theorem ua{C:Ctx}{st:St}{op:Op}(h:V8 op=true):zF C (get st.X) st.Y st.Z op=(gK C st op).map fun x=>(x,st.Y,st.Z):=by
 unfold gK;generalize get st.X=ρ;cases op with
 |move x=>simp only[Fo];exact YC
 |assign x=>simp only[tY];exact YC
 |pick c a b=>simp only[Fp];exact YC
 |load t a=>simp only[Fs];cases ρ a<;>(try rfl);exact jU
 |binOp op t x y j=>simp only[Lo];cases ρ x<;>cases ρ y<;>(try rfl);exact jU
 |unOp op t x=>simp only[Po];cases ρ x<;>(try rfl);exact jU
 |convert s d x=>simp only[Fq];cases ρ x<;>(try rfl);exact jU
 |fieldAddr t x f=>simp only[gG];cases ρ x<;>(try rfl);exact jU
 |field t x f=>simp only[BG];cases ρ x<;>(try rfl);exact jU
 |indexAddr t x i=>simp only[gH];cases ρ x<;>cases ρ i<;>(try rfl);exact jU
 |index t x i=>simp only[BH];cases ρ x<;>cases ρ i<;>(try rfl);exact jU
 |extract x i=>simp only[o5];cases ρ x<;>(try rfl);exact jU
 |slice t x k n g=>
  cases g with
  |none=>simp only[BI];cases ρ x<;>(try rfl);exact jU
  |some m=>simp[V8]at h
 |call c=>
  obtain⟨e,args,ts⟩:=c;cases e with
  |builtin b=>
   simp only[o6];cases wz (args.toList.map ρ)with
   |none=>rfl
   |some xs=>
    simp only[Option.bind_eq_bind,zH];cases b<;>(try (simp[V8]at h;done))
    case len=>
     cases xs with
     |nil=>rfl
     |cons x l=>
      cases l with
      |nil=>simp only[Fx];cases ts[0]?<;>(try rfl);exact jU
      |cons _ _=>rfl
    case min=>simp only[Fy];exact YC
    case max=>simp only[Fz];exact YC
  |_=>simp[V8]at h
 |_=>simp[V8]at h
def kz(C:Ctx)(g:FuncId):Prop:=∀a,C.Γ g=some a->xu a
def jH(C:Ctx)(op:Op):Prop:=∀st:St,zF C (get st.X) st.Y st.Z op=(gK C st op).map fun x=>(x,st.Y,st.Z)
theorem yA{C:Ctx}{op:Op}(h:V8 op=true):jH C op:=fun _=>ua h
@[simp]theorem TT(C:Ctx)(g:FuncId)(a:Array Operand)(ts:Array TypeId)(h:kz C g):jH C (.call ⟨.value (.func g),a,ts⟩):=by
 intro st;unfold gK;simp only[Fv,BF];cases wz (a.toList.map (get st.X))with
 |none=>rfl
 |some xs=>
  simp only[Option.bind_eq_bind,zH];cases hs:C.Γ g with
  |none=>simp[yF,hs]
  |some b=>
   rw[o7 C st.Y st.Z g [] [] xs b hs];cases c:b ([]++xs++[]) st.Y st.Z with
   |none=>rfl
   |some r=>obtain⟨x,Y',Z'⟩:=r;obtain⟨⟨rfl,rfl⟩,_⟩:=h b hs _ _ _ _ _ _ c;rfl
theorem yZ{P:Program}{l:Qh}{g:Nat}{a:AM.Spec}(h:lookup l g=some a)(b:xu a):kz (qp P l) g:=fun s hs=>by
 have:lookup l g=some s:=hs;rw[h]at this;injection this with this
 exact this ▸ b
@[simp]theorem TU(C:Ctx)(x:Operand):jH C (.move x):=yA rfl
@[simp]theorem Ol(C:Ctx)(x:Operand):jH C (.assign x):=yA rfl
@[simp]theorem TV(C:Ctx)(c a b:Operand):jH C (.pick c a b):=yA rfl
@[simp]theorem TW(C:Ctx)(t:TypeId)(x:Operand):jH C (.load t x):=yA rfl
@[simp]theorem U8(C:Ctx)(o:BinOp)(t a:TypeId)(x y:Operand):jH C (.binOp o t x y a):=yA rfl
@[simp]theorem zaC(C:Ctx)(o:UnOp)(t:TypeId)(x:Operand):jH C (.unOp o t x):=yA rfl
@[simp]theorem TX(C:Ctx)(t u:TypeId)(x:Operand):jH C (.convert t u x):=yA rfl
@[simp]theorem zaD(C:Ctx)(t:TypeId)(x:Operand)(f:Nat):jH C (.fieldAddr t x f):=yA rfl
@[simp]theorem zaE(C:Ctx)(t:TypeId)(x:Operand)(f:Nat):jH C (.field t x f):=yA rfl
@[simp]theorem zaF(C:Ctx)(t:TypeId)(x i:Operand):jH C (.indexAddr t x i):=yA rfl
@[simp]theorem zaG(C:Ctx)(t:TypeId)(x i:Operand):jH C (.index t x i):=yA rfl
@[simp]theorem zaH(C:Ctx)(x:Operand)(i:Nat):jH C (.extract x i):=yA rfl
@[simp]theorem zaI(C:Ctx)(t:TypeId)(x:Operand)(a b:Option Operand):jH C (.slice t x a b none):=yA rfl
@[simp]theorem U9(C:Ctx)(a:Array Operand)(ts:Array TypeId):jH C (.call ⟨.builtin .len,a,ts⟩):=yA rfl
@[simp]theorem zaa(C:Ctx)(a:Array Operand)(ts:Array TypeId):jH C (.call ⟨.builtin .min,a,ts⟩):=yA rfl
@[simp]theorem zab(C:Ctx)(a:Array Operand)(ts:Array TypeId):jH C (.call ⟨.builtin .max,a,ts⟩):=yA rfl
def bc{α:Type}(y:Bool)(a b:α):α:=match y with
 |true=>a
 |false=>b
@[simp]theorem TY{α:Type}(a b:α):bc true a b=a:=rfl
@[simp]theorem PL{α:Type}(a b:α):bc false a b=b:=rfl
@[simp]theorem zac{α:Type}(y:Bool)(a b:α):bc (!y) a b=bc y b a:=by cases y<;>rfl
@[simp]theorem TZ{α:Type}(y:Bool)(a:α):bc y a a=a:=by cases y<;>rfl
def bx(y:Bool):Bool:=y
@[simp]theorem T0:bx true=true:=rfl
@[simp]theorem PM:bx false=false:=rfl
@[simp]theorem zad{α:Type}(y:Bool)(a b c:α):bc y (bc y a b) c=bc y a c:=by cases y<;>rfl
@[simp]theorem zae{α:Type}(y:Bool)(a b c:α):bc y a (bc y b c)=bc y a c:=by cases y<;>rfl
def er(C:Ctx)(st:St)(op:Op)(y:Option Bool)(b:Bool):Option O:=if y=some b then gK C st op else some (.qS [])
section
variable(C:Ctx)(d:Option Tmp)(op:Op)(st:St)
theorem cj(y:Option Bool)(b:Bool)(h:jH C op):vj C d op st y b=(er C st op y b).map fun x=>⟨put st.X d x,st.Y,st.Z⟩:=by
 unfold vj er;rw[h st];split
 ·cases gK C st op<;>rfl
 ·rfl
@[simp low] theorem LA(y b:Bool)(h:jH C op):vj C d op st (some y) b=(er C st op (some y) b).map fun x=>⟨put st.X d x,st.Y,st.Z⟩:=cj C d op st _ b h
@[simp]theorem PN(y:Bool)(p q:Option Bool)(b:Bool)(h:jH C op):vj C d op st (bc y p q) b=(er C st op (bc y p q) b).map fun x=>⟨put st.X d x,st.Y,st.Z⟩:=cj C d op st _ b h
@[simp]theorem T1(y:Bool)(p q:Option Bool)(b:Bool):er C st op (bc y p q) b=bc y (er C st op p b) (er C st op q b):=by cases y<;>rfl
@[simp]theorem Om(b:Bool):er C st op none b=some (.qS []):=rfl
@[simp]theorem zaf(y:Bool):er C st op (some y) true=bc (bx y) (gK C st op) (some (.qS [])):=by cases y<;>rfl
@[simp]theorem zag(y:Bool):er C st op (some y) false=bc (bx y) (some (.qS [])) (gK C st op):=by cases y<;>rfl
end
@[simp]theorem On(y:Bool)(a b:O):YA (bc y a b)=bc y (YA a) (YA b):=by cases y<;>rfl
@[simp]theorem T2{α:Type}(y:Bool)(a b:α):bc y (some a) (some b)=some (bc y a b):=by cases y<;>rfl
@[simp]theorem PO(y z:Bool)(w:O):ZM (some (.v (.bool y))) (some (bc (bx y) (.v (.bool z)) w)) (some (.v (.bool false)))=some (.v (.bool (y&&z))):=by cases y<;>rfl
@[simp]theorem T3(y z:Bool)(w:O):ZM (some (.v (.bool y))) (some (.v (.bool true))) (some (bc (bx y) w (.v (.bool z))))=some (.v (.bool (y||z))):=by cases y<;>rfl
@[simp]theorem PQ{α:Type}(y c:Bool)(a b d0 d:α):bc y (bc c (bc y a b) d) d0=bc y (bc c a d) d0:=by cases y<;>rfl
@[simp]theorem PR{α:Type}(y c:Bool)(a b d0 d:α):bc y (bc c d (bc y a b)) d0=bc y (bc c d a) d0:=by cases y<;>rfl
@[simp]theorem PS{α:Type}(y c:Bool)(a b d e:α):bc y d (bc c (bc y a b) e)=bc y d (bc c b e):=by cases y<;>rfl
@[simp]theorem PT{α:Type}(y c:Bool)(a b d e:α):bc y d (bc c e (bc y a b))=bc y d (bc c e b):=by cases y<;>rfl
@[simp]theorem PU{α:Type}(y c d:Bool)(a b d0 e f:α):bc y (bc c (bc d (bc y a b) f) e) d0=bc y (bc c (bc d a f) e) d0:=by cases y<;>rfl
@[simp]theorem PW{α:Type}(y c d:Bool)(a b d0 e f:α):bc y (bc c (bc d f (bc y a b)) e) d0=bc y (bc c (bc d f a) e) d0:=by cases y<;>rfl
@[simp]theorem PX{α:Type}(y c d:Bool)(a b d0 e f:α):bc y (bc c e (bc d (bc y a b) f)) d0=bc y (bc c e (bc d a f)) d0:=by cases y<;>rfl
@[simp]theorem PY{α:Type}(y c d:Bool)(a b d0 e f:α):bc y (bc c e (bc d f (bc y a b))) d0=bc y (bc c e (bc d f a)) d0:=by cases y<;>rfl
@[simp]theorem PZ{α:Type}(y c d:Bool)(a b e f g:α):bc y e (bc c (bc d (bc y a b) g) f)=bc y e (bc c (bc d b g) f):=by cases y<;>rfl
@[simp]theorem Oo{α:Type}(y c d:Bool)(a b e f g:α):bc y e (bc c (bc d g (bc y a b)) f)=bc y e (bc c (bc d g b) f):=by cases y<;>rfl
@[simp]theorem Oq{α:Type}(y c d:Bool)(a b e f g:α):bc y e (bc c f (bc d (bc y a b) g))=bc y e (bc c f (bc d b g)):=by cases y<;>rfl
@[simp]theorem Ot{α:Type}(y c d:Bool)(a b e f g:α):bc y e (bc c f (bc d g (bc y a b)))=bc y e (bc c f (bc d g b)):=by cases y<;>rfl
section
variable(P:Program)(C:Ctx)(Y:Hp)(Z:Nat)(t u:TypeId)(y:Bool)(a b:O)
@[simp]theorem T4:kx P Y t (bc y a b)=bc y (kx P Y t a) (kx P Y t b):=by cases y<;>rfl
@[simp]theorem T5(o:BinOp)(x:O):Qa P o t (bc y a b) x=bc y (Qa P o t a x) (Qa P o t b x):=by cases y<;>rfl
@[simp]theorem T6(o:BinOp)(x:O):Qa P o t x (bc y a b)=bc y (Qa P o t x a) (Qa P o t x b):=by cases y<;>rfl
@[simp]theorem P0(c:Bool)(o:BinOp)(x:O):Yo c P o t (bc y a b) x=bc y (Yo c P o t a x) (Yo c P o t b x):=by cases y<;>rfl
@[simp]theorem P1(c:Bool)(o:BinOp)(x:O):Yo c P o t x (bc y a b)=bc y (Yo c P o t x a) (Yo c P o t x b):=by cases y<;>rfl
@[simp]theorem zaJ(o:UnOp):EW o (bc y a b)=bc y (EW o a) (EW o b):=by cases y<;>rfl
@[simp]theorem T7:JU P t u (bc y a b)=bc y (JU P t u a) (JU P t u b):=by cases y<;>rfl
@[simp]theorem FK(f:Nat):ye P t f (bc y a b)=bc y (ye P t f a) (ye P t f b):=by cases y<;>rfl
@[simp]theorem Ig(f:Nat):kl P t f (bc y a b)=bc y (kl P t f a) (kl P t f b):=by cases y<;>rfl
@[simp]theorem E1(x:O):qi P Y t (bc y a b) x=bc y (qi P Y t a x) (qi P Y t b x):=by cases y<;>rfl
@[simp]theorem E2(x:O):qi P Y t x (bc y a b)=bc y (qi P Y t x a) (qi P Y t x b):=by cases y<;>rfl
@[simp]theorem Ou(x:O):xA P t (bc y a b) x=bc y (xA P t a x) (xA P t b x):=by cases y<;>rfl
@[simp]theorem Ov(x:O):xA P t x (bc y a b)=bc y (xA P t x a) (xA P t x b):=by cases y<;>rfl
@[simp]theorem zah:Yp P t (bc y a b)=bc y (Yp P t a) (Yp P t b):=by cases y<;>rfl
@[simp]theorem Ow(c d:Option (Option O)):yL P Y t (bc y a b) c d=bc y (yL P Y t a c d) (yL P Y t b c d):=by cases y<;>rfl
@[simp]theorem Ox(x:O)(c:Option (Option O)):yL P Y t x (some (some (bc y a b))) c=bc y (yL P Y t x (some (some a)) c) (yL P Y t x (some (some b)) c):=by cases y<;>rfl
@[simp]theorem Oy(x:O)(c:Option (Option O)):yL P Y t x c (some (some (bc y a b)))=bc y (yL P Y t x c (some (some a))) (yL P Y t x c (some (some b))):=by cases y<;>rfl
@[simp]theorem LB(i:Nat):QS i (bc y a b)=bc y (QS i a) (QS i b):=by cases y<;>rfl
@[simp]theorem P2(p q:Option O):ZM (some (bc y a b)) p q=bc y (ZM (some a) p q) (ZM (some b) p q):=by cases y<;>rfl
@[simp low] theorem P3(p q:Option O):ZM p (some (bc y a b)) q=bc y (ZM p (some a) q) (ZM p (some b) q):=by cases y<;>rfl
@[simp low] theorem P4(p q:Option O):ZM p q (some (bc y a b))=bc y (ZM p q (some a)) (ZM p q (some b)):=by cases y<;>rfl
@[simp]theorem P5(c:Bool)(d:List Nat)(F:zb->Option O)(l:zb):zp c d F (bc y a b::l) Y Z=bc y (zp c d F (a::l) Y Z) (zp c d F (b::l) Y Z):=by cases y<;>rfl
@[simp]theorem P6(c:Bool)(d:List Nat)(F:zb->Option O)(x:O)(l:zb):zp c d F (x::bc y a b::l) Y Z=bc y (zp c d F (x::a::l) Y Z) (zp c d F (x::b::l) Y Z):=by cases y<;>rfl
@[simp]theorem P7(c:Bool)(d:List Nat)(F:zb->Option O)(x z:O)(l:zb):zp c d F (x::z::bc y a b::l) Y Z=bc y (zp c d F (x::z::a::l) Y Z) (zp c d F (x::z::b::l) Y Z):=by cases y<;>rfl
end
@[simp]theorem zai{α c:Type}(y:Bool)(f:α->c)(a b:Option α):(bc y a b).map f=bc y (a.map f) (b.map f):=by cases y<;>rfl
@[simp]theorem T8{α c:Type}(y:Bool)(f:α->Option c)(a b:Option α):(bc y a b).bind f=bc y (a.bind f) (b.bind f):=by cases y<;>rfl
attribute [simp] gK
variable{dr:Prop}
def fg(k:Nat)(D:List (Tmp×Tmp))(i:Nat):List (Tmp×Tmp):=if i=k then D else[]
@[simp]theorem LC(P:Program)(l:Qh)(k:Nat)(D:List (Tmp×Tmp))(i:Nat):(vk P l (fg k D)).dyn i=if i=k then D else[]:=rfl
@[simp]theorem BN(P:Program)(l:Qh)(k:Nat)(D:List (Tmp×Tmp))(i:Nat)(a:Array Oper)(d:Bool)(st:St)(K:Exit->St->Prop)(h:¬i=k):vB (vk P l (fg k D)) (.region i a d) st K=bV (vk P l (fg k D)) a a.toList st (Zo K):=xE _ i a d st K (by simp[h]) rfl
theorem ck{a b:Tmp}{st:St}{id i j id' i' j':Nat}{blk:Blk}(d:st.X a=.ref id i j)(e:st.X b=.ref id' i' j')(f:id≠id')(g:st.Y id'=some blk)(h:blk.arr=false):xz [(a,b)] st:=by
 intro p Y;obtain rfl:=yk.1 Y;intro k l m c;rw[d]at c;injection c with c _ _
 subst c;exact⟨id',i',j',blk,e,f,g,h⟩
theorem cn{w:World}{S:Nat->Prop}{G:Nat->GI}{Z:Nat}:∀{us vs:List Value},(∀u∈us,lit u=true)->Zip (zR w S G Z) (us.map O.v) vs->vs=us
 |[],vs,_,h=>by have:=h.1;simp at this;exact qy.1 this.symm
 |u::us,vs,a,h=>by
  obtain⟨v,b,rfl,d,e⟩:=h.y8;rw[cn (fun x f=>a x (by simp[f])) e];congr 1;cases d with
  |c g=>exact g.wj.1
theorem gL{P:Program}{g:FuncId}{F:zb->Option O}(j:∃fn,P.funcs[g]?=some fn/\(fn.name== "runtime.NumGoroutine")=false/\fn.body.isNone=false)
  (h:∀args r,F args=some r->∃us:List Value,args=us.map O.v/\(∀u∈us,lit u=true)/\∃v,r=.v v/\lit v=true/\∀w,Calls P g us.toArray w fun e q=>e=.returned v/\q=w):yU dr P g (zp false [] F):=by
 refine⟨j,?_⟩;intro args Y Z r Y' Z' hs w S G vs s t;unfold zp at hs;split at hs
 ·rename_i k Y1 m;split at hs
  ·rename_i r0 z;obtain⟨us,e,A,v,rfl,B,C⟩:=h _ _ z;have D:yn [] k=k:=by cases k<;>rfl
   rw[D]at e;subst e;have d:args=us.map O.v:=by
    have n:∀(args:zb) (us:List Value) (Y1:Hp),zt Y args=some (us.map O.v,Y1)->args=us.map O.v:=by
     intro args
     induction args with
     |nil=>intro us Y1 b;simp only[zt]at b;injection b with b;injection b with b _
     |cons x l E=>
      intro us Y1 b;simp only[zt]at b;split at b
      ·rename_i y Y2 a;split at b
       ·rename_i J o p;injection b with b
        injection b with b _;cases us with
        |nil=>simp at b
        |cons u us=>
         simp only[zL,zn]at b;obtain⟨rfl,rfl⟩:=b;have H:x=.v u/\Y2=Y:=by
          unfold zS at a;split at a
          ·split at a
           ·injection a with a;injection a with a _;cases a
           ·cases a
          ·unfold qh at a;split at a<;>first
            |(split at a<;>first|(split at a<;>first|(injection a with a;injection a with a _;cases a;done)|cases a)|cases a)
            |(injection a with a;injection a with i f;first|(exact⟨by rw[<-i],f.symm⟩)|cases i)
            |cases a
         obtain⟨rfl,rfl⟩:=H;rw[E us o p];rfl
       ·cases b
      ·cases b
    exact n args us Y1 m
   subst d;simp only[O.flat,true_or,qa]at hs;injection hs with hs
   injection hs with i f;injection f with f I;subst i;subst f;subst I;rw[cn A t];refine(C w).mono fun e q b=>?_
   obtain⟨rfl,rfl⟩:=b;exact⟨v,S,G,rfl,jN.refl s,.c (.v B)⟩
  ·cases hs
 ·cases hs
theorem YD:∀(l cs:zb) (off:Nat),off+l.length<=cs.length->wW cs off l=cs.take off++l++cs.drop (off+l.length)
 |[],cs,off,_=>by simp
 |x::l,cs,off,h=>by
  simp only[zd]at h;rw[wW,YD l (cs.set off x) (off+1) (by simp;omega)];have b:(cs.set off x).take (off+1)=cs.take off++[x]:=by
   rw[qR (by simp;omega)];have c:(cs.set off x).take off=cs.take off:=by
    apply List.ext_getElem?;intro j;simp only[wG,List.getElem?_set];by_cases a:j<off
    ·simp[a,show¬off=j by omega]
    ·simp[a]
   rw[c];simp
  have d:(cs.set off x).drop (off+1+l.length)=cs.drop (off+(x::l).length):=by rw[List.drop_set_of_lt (by omega)];simp only[zd];congr 1;omega
  rw[b,d];simp
@[simp]theorem BO(z cs:zb)(h:cs.length=z.length):wW z 0 cs=cs:=by rw[YD cs z 0 (by omega)];simp[h]
@[simp]theorem E3(x:O)(z cs:zb)(h:cs.length=z.length):wW (x::z) 1 cs=x::cs:=by rw[YD cs (x::z) 1 (by simp;omega)];simp[show 1+cs.length=z.length+1 by omega]
@[simp]theorem EC(X:Nat->O):AM.get X (.const .nilIface)=some (.v .nilIface):=rfl
section
variable(C:Ctx)(ρ:Operand->Option O)(Y:Hp)(Z:Nat)
def pa:O->Option O
 | .ref id i j=>some (.ref id i j)
 | .ptr cs=>some (.ptr cs)
 |_=>none
@[simp]theorem LD(id i j:Nat):pa (.ref id i j)=some (.ref id i j):=rfl
@[simp]theorem LF(cs:zb):pa (.ptr cs)=some (.ptr cs):=rfl
@[simp]theorem Ih(x:Operand):zF C ρ Y Z (.nilCheck x)=(do let p <-ρ x;let r <-pa p;some (r,Y,Z)):=by
 simp only[zF];cases ρ x with
 |none=>rfl
 |some p=>cases p<;>rfl
end
@[simp]theorem P8(i:Nat):O.cells (.mp i)=[.mp i]:=rfl
@[simp]theorem Oz(i:Nat):O.we (.mp i)=true:=rfl
variable{dr:Prop}
def ao(c:UInt8):zb:=[.v (.int .u8 c.toNat)]
def QD(U:TypeId)(l:za):Blk:=⟨U,1,true,l.map ao⟩
def YE(T:TypeId):Blk:=⟨T,2,false,[[.v (.pointer none),.nil]]⟩
def kb(T:TypeId)(id m n:Nat):Blk:=⟨T,2,false,[[.ref id 0 0,.own m 0 n]]⟩
def lX:List zb->Option za
 |[]=>some []
 |[.v (.int .u8 z)]::l=>if z=(UInt8.ofNat z.toNat).toNat then(lX l).map (UInt8.ofNat z.toNat::·)else none
 |_=>none
@[simp]theorem P9(l:za):lX (l.map ao)=some l:=by
 induction l with
 |nil=>rfl
 |cons c l a=>simp[lX,ao]at a⊢;simp[a]
theorem lY:∀{es:List zb} {l:za},lX es=some l->es=l.map ao
 |[],l,h=>by simp only[lX]at h;injection h with h;subst h;rfl
 |e::es,l,h=>by
  unfold lX at h;split at h
  ·rename_i a;cases a
  ·rename_i z l' a;injection a with b c
   subst b;subst c;split at h
   ·rename_i d;obtain⟨i,f,g⟩:=zD h;have:=lY f;subst this;subst g;simp only[zL,ao];rw[<-d]
   ·cases h
  ·cases h
def cp(U:TypeId)(Y:Hp)(m n:Nat)(c:Blk):Option (za×Hp):=
 if c.e=U/\c.s=1/\c.arr=true then(lX c.es).bind fun l=>if n=l.length then some (l,qb Y m none)else none else none
def J1(T U:TypeId)(Y:Hp)(id:Nat)(b:Blk):Option (za×Hp):=
 if b.e=T/\b.s=2/\b.arr=false then match b.es with
  |[[.v (.pointer none),.nil]]=>some ([],Y)
  |[[.ref i 0 0,.own m 0 n]]=>if i=id/\m≠id then(Y m).bind (cp U Y m n)else none
  |_=>none
 else none
def ub(T U:TypeId)(Y:Hp)(id Z:Nat)(l t:za)(r:O):Option (O×Hp×Nat):=
 if l.length+t.length<=140737488355328 then some (r,qb (qb Y Z (some (QD U (l++t)))) id (some (kb T id Z (l++t).length)),Z+1)else none
def kc(T U:TypeId)(F:zb->Option (za×O)):AM.Spec:=fun args Y Z=>match args with
 | .ref id 0 0::rest=>if rest.all O.noOwn=true then(zt Y rest).bind fun p=>(F p.1).bind fun q=>(Y id).bind fun b=>(J1 T U Y id b).bind fun s=>ub T U s.2 id Z s.1 q.1 q.2 else none
 |_=>none
theorem gM{T U:TypeId}{F:zb->Option (za×O)}{rest a:zb}{Y Y1:Hp}{id Z:Nat}{t:za}{r:O}(c:zt Y rest=some (a,Y1))(d:rest.all O.noOwn=true)(e:F a=some (t,r)) :
  kc T U F (.ref id 0 0::rest) Y Z=(Y id).bind fun b=>(J1 T U Y id b).bind fun s=>ub T U s.2 id Z s.1 t r:=by
 simp[kc,c,d,e]
@[simp]theorem OA(T U:TypeId)(Y:Hp)(id:Nat):J1 T U Y id (YE T)=some ([],Y):=by simp[J1,YE]
@[simp]theorem fh(T U:TypeId)(Y:Hp)(id m n:Nat)(h:¬m=id):J1 T U Y id (kb T id m n)=(Y m).bind (cp U Y m n):=by simp[J1,kb,h]
@[simp]theorem LG(U:TypeId)(Y:Hp)(m n:Nat)(l:za)(h:n=l.length):cp U Y m n (QD U l)=some (l,qb Y m none):=by simp[cp,QD,h]
theorem Jo{T U:TypeId}{Y Y1:Hp}{id:Nat}{b:Blk}{l:za}(h:J1 T U Y id b=some (l,Y1)) :
  (b=YE T/\l=[]/\Y1=Y)\/∃m,m≠id/\b=kb T id m l.length/\Y m=some (QD U l)/\Y1=qb Y m none:=by
 unfold J1 at h;split at h
 ·rename_i k;obtain⟨d,f,g⟩:=k;obtain⟨e,s,a,es⟩:=b;simp only at d f g h;subst d;subst f;subst g;split at h
  ·injection h with h;injection h with o p;exact .inl ⟨rfl,o.symm,p.symm⟩
  ·rename_i i m n;split at h
   ·rename_i r;obtain⟨rfl,t⟩:=r;cases q:Y m with
    |none=>rw[q]at h;cases h
    |some c=>
     rw[q]at h;simp only[zH]at h;unfold cp at h;split at h
     ·rename_i k;obtain⟨d,f,g⟩:=k;cases j:lX c.es with
      |none=>rw[j]at h;cases h
      |some l'=>
       rw[j]at h;simp only[zH]at h;split at h
       ·rename_i u;injection h with h
        injection h with o p;subst o;subst p;subst u;refine .inr ⟨m,t,rfl,?_,rfl⟩;obtain⟨e,s,a,es⟩:=c;simp only at d f g j;rw[q,d,f,g,lY j];rfl
       ·cases h
     ·cases h
   ·cases h
  ·cases h
 ·cases h
section
variable{P:Program}{w w':World}{S S':Nat->Prop}{G G':Nat->GI}{Y Y':Hp}{Z Z':Nat}
theorem pb{r:O}{v:Value}(h:zR w S G Z r v)(a:r.flat=true):qO w S r v:=by
 cases h with
 |c h=>exact h
 |qS e f=>
  refine .qS e fun j b u d g=>?_
  simp only[O.flat,qc]at a;have i:=a b (zI d);have k:=f j b u d g;cases b with
  |v x=>cases k with|c h=>exact h
  |_=>simp[O.isV]at i
 |_=>simp[O.flat]at a
theorem jN.ED{n:World}{j:Nat->Prop}{d:Nat->GI}{Y2:Hp}{e:Nat}(h:jN dr P Y Z S G w Y2 e j d n){id:Nat}{s b:Blk}(x:Y id=some s)(hid:id<Z)(y:ji P n j d e (d id) b)(z:¬j (d id).g)
  (t:∀k c,Y2 k=some c->k≠id->(d k).g≠(d id).g):jN dr P Y Z S G w (qb Y2 id (some b)) e j d n:=by
 have i:∀k c,qb Y2 id (some b) k=some c->(k=id/\c=b)\/(k≠id/\Y2 k=some c):=by
  intro k c a;by_cases f:k=id
  ·subst f;simp at a;exact .inl ⟨rfl,a.symm⟩
  ·rw[zc _ _ _ _ f]at a;exact .inr ⟨f,a⟩
 have A:=h.up;refine⟨⟨h.inv.st,fun k c a=>?_,fun k c a=>?_,fun k c a=>?_,fun k o c p a q r=>?_,h.inv.KJ⟩,h.up,h.loc,h.Wa,h.from_,fun k c a=>?_,h.fr⟩
 ·rcases i k c a with⟨rfl,_⟩|⟨_,a⟩
  ·omega
  ·exact h.inv.top k c a
 ·rcases i k c a with⟨rfl,rfl⟩|⟨_,a⟩
  ·exact y
  ·exact h.inv.live k c a
 ·rcases i k c a with⟨rfl,rfl⟩|⟨_,a⟩
  ·exact z
  ·exact h.inv.apart k c a
 ·rcases i k c a with⟨l,_⟩|⟨l,u⟩<;>rcases i o p q with⟨m,_⟩|⟨m,v⟩
  ·rw[l,m]
  ·exact(t o p v m (by rw[<-r,l])).elim
  ·exact(t k c u l (by rw[r,m])).elim
  ·exact h.inv.inj k o c p u v r
 ·rcases i k c a with⟨rfl,rfl⟩|⟨_,a⟩
  ·exact .inl ⟨k,s,x,by rw[h.loc k hid]⟩
  ·exact h.own k c a
end
structure vo (T U:TypeId) (Y:Hp) (Z:Nat) (l:List UInt8) (b0:Blk) (K:Hp->Hp):Prop where
 pos:0<Z
 top:∀j b,Y j=some b->j<Z
 SO:Y 0=some b0
 ok:∀h:Hp,(∀j,j<Z->h j=Y j)->J1 T U h 0 b0=some (l,K h)
 Wa:∀(h:Hp) (j:Nat),Z<=j->K h j=h j
theorem vo.new(T U:TypeId):vo T U (qb (fun _=>none) 0 (some (YE T))) 1 [] (YE T) (fun h=>h):=
 ⟨by omega,fun j b h=>by by_cases e:j=0<;>simp_all,by simp,fun h _=>by simp,fun _ _ _=>rfl⟩
theorem vo.use(T U:TypeId)(l:za):vo T U (qb (qb (fun _=>none) 0 (some (kb T 0 1 l.length))) 1 (some (QD U l))) 2 l (kb T 0 1 l.length) (fun h=>qb h 1 none):=
 ⟨by omega,fun j b h=>by by_cases e:j=0<;>by_cases c:j=1<;>simp_all,by rw[zc _ _ _ _ (by omega)];simp,fun h a=>by rw[fh _ _ _ _ _ _ (by omega),a 1 (by omega)];simp,fun h j d=>zc _ _ _ _ (by omega)⟩
def fi(T U:TypeId)(o:Option (O×Hp×Nat))(l:za)(r:O):Prop:=∃Y Z m,o=some (r,Y,Z)/\Y 0=some (kb T 0 m l.length)/\Y m=some (QD U l)
theorem xX{T U:TypeId}{C:Ctx}{fn:Func}{code:Code}{args:zb}{Y:Hp}{Z:Nat}{l:za}{r:O}(a:fn.body=some code)
  (h:vB C code ⟨ka args,Y,Z⟩ (KW C.P fn fun x Y' _=>x=r/\∃m,Y' 0=some (kb T 0 m l.length)/\Y' m=some (QD U l))):fi T U (yd C fn args Y Z) l r:=by
 obtain⟨x,Y',Z',b,rfl,m,c,d⟩:=wX a h;exact⟨Y',Z',m,b,c,d⟩
section
variable{C:Ctx}{pf:FuncId->Bool}{f:FuncId}{fn:Func}{code:Code}
theorem vN(hg:j9 dr C pf)(a:Kd C pf f fn code)(T U:TypeId)(F:zb->Option (za×O))
  (hF:∀aZ t r,F aZ=some (t,r)->r.flat=true/\aZ.length+1<=fn.ntmps/\∀Y Z l b0 K,vo T U Y Z l b0 K->l.length+t.length<=140737488355328->fi T U (yd C fn (.ref 0 0 0::aZ) Y Z) (l++t) r):yU dr C.P f (kc T U F):=by
 refine⟨⟨fn,a.func,a.name,by rw[a.body];rfl⟩,?_⟩;intro args Y Z r Y' Z' h w S G vs B hz;unfold kc at h;split at h
 case h_2=>cases h
 rename_i id rest;obtain⟨u,us,rfl,hu,hz'⟩:=hz.y8;split at h
 case isFalse=>cases h
 rename_i hno;obtain⟨⟨aZ,hpx⟩,AY,h⟩:=zT.1 h;obtain rfl:=Yf AY hno;obtain⟨⟨t,r0⟩,hF0,h⟩:=zT.1 h;obtain⟨b,hb,h⟩:=zT.1 h;obtain⟨⟨l,Y2⟩,hbo,h⟩:=zT.1 h;simp only at h hbo;unfold ub at h;split at h
 case isFalse=>cases h
 rename_i hlen;injection h with h
 injection h with e1 h;injection h with e2 e3;subst e1;subst e2;subst e3;obtain⟨S1,k1,hz1,hSS⟩:=ym (dr:=dr) B AY hz';obtain rfl:=hSS hno;obtain⟨SP,hn,hE⟩:=hF aZ t r0 hF0;have hrp:=hu.xT;obtain⟨hid,rfl⟩:=hu.jQ;have o:=B.live id b hb;obtain⟨E,UO,Gs,b0,K,y,hinv,hG0,SQ,hD,hp2n,hp2s⟩:∃(E:Hp) (UO:Nat) (Gs:Nat->GI) (b0:Blk) (K:Hp->Hp),vo T U E UO l b0 K/\Inv C.P w S1 Gs E UO/\Gs 0=G id /\
   (∀x,yu E Gs x->yu hpx G x)/\(∀k c,Y2 k=some c->k≠id->hpx k=some c/\¬yu E Gs (G k).g)/\True/\True:=by
  rcases Jo hbo with⟨rfl,rfl,rfl⟩|⟨m,hmid,rfl,hm,rfl⟩
  ·have L:∀k c,qb (fun _=>none) 0 (some (YE T)) k=some c->k=0/\c=YE T:=by
    intro k c a;unfold qb at a;split at a
    ·injection a with a;exact⟨by assumption,a.symm⟩
    ·cases a
   refine⟨_,_,fun _=>G id,_,_,vo.new T U,⟨B.st,fun k c a=>by rw[(L k c a).1];omega,fun k c a=>?_,fun k c a=>?_,fun k k' c c' a M _=>by rw[(L k c a).1,(L k' c' M).1],B.KJ⟩,rfl,?_,fun k c a H=>⟨a,?_⟩,trivial,trivial⟩
   ·rw[(L k c a).2];refine⟨o.bs,fun p=>⟨o.size p,o.len p,o.fit p,?_⟩,o.Fa⟩;obtain⟨I,q1,q2,q3⟩:=o.row p;refine⟨I,q1,q2,fun i j c pv n d=>?_⟩;obtain⟨u,Q,q⟩:=q3 i j c pv n d;refine⟨u,Q,fun h=>by simp[YE]at h,?_,q.2.2⟩;have hc:qO w S1 pv u:=by
     have h6:=q.2.1;obtain rfl:i=0:=by have:=(ze.1 n).1;simpa[YE]using this
     simp only[YE,Kc,qu]at n;subst n
     match j,d with
     | 0,d=>simp at d;subst d;cases h6 with|c h=>exact h
     | 1,d=>simp at d;subst d;cases h6 with|c h=>exact h
     |j+2,d=>simp at d
    exact .c hc
   ·exact B.apart id _ hb
   ·rintro x ⟨k,c,a,rfl⟩;exact⟨id,_,hb,rfl⟩
   ·rintro⟨k',c',M,R⟩;exact H (B.inj k id c _ a hb R.symm)
  ·have L:∀k c,qb (qb (fun _=>none) 0 (some (kb T 0 1 l.length))) 1 (some (QD U l)) k=some c->(k=0/\c=kb T 0 1 l.length)\/(k=1/\c=QD U l):=by
    intro k c a;unfold qb at a;split at a
    ·injection a with a;exact .inr ⟨by assumption,a.symm⟩
    ·split at a
     ·injection a with a;exact .inl ⟨by assumption,a.symm⟩
     ·cases a
   have N:=B.live m _ hm;have SR:(G id).g≠(G m).g:=fun R=>hmid (B.inj m id _ _ hm hb R.symm)
   have g1:∀k,k=1->(fun k=>if k=0 then G id else G m) k=G m:=fun k a=>by subst a;rfl
   refine⟨_,_,fun k=>if k=0 then G id else G m,_,_,vo.use T U l,⟨B.st,fun k c a=>?_,fun k c a=>?_,fun k c a=>?_,fun k k' c c' a M R=>?_,B.KJ⟩,rfl,?_,fun k c a H=>?_,trivial,trivial⟩
   ·rcases L k c a with⟨rfl,_⟩|⟨rfl,_⟩<;>omega
   ·rcases L k c a with⟨rfl,rfl⟩|⟨rfl,rfl⟩
    ·refine⟨o.bs,fun p=>⟨o.size p,?_,o.fit p,?_⟩,fun p=>(Nat.lt_irrefl 0 (by rw[zl rfl]at p;omega)).elim⟩
     ·intro c hc;have:=o.len p [.ref id 0 0,.own m 0 l.length] (by simp[kb]);simp only[kb,yk]at hc;subst hc;simpa using this
     ·obtain⟨I,q1,q2,q3⟩:=o.row p;refine⟨I,q1,q2,fun i j c pv n d=>?_⟩;obtain rfl:i=0:=by have:=(ze.1 n).1;simpa[kb]using this
      simp only[kb,Kc,qu]at n;subst n
      match j,d with
      | 0,d=>obtain⟨u,Q,q⟩:=q3 0 0 _ (.ref id 0 0) (by simp[kb];rfl) rfl;simp at d;subst d;refine⟨u,Q,fun h=>by simp[kb]at h,?_,q.2.2⟩;obtain⟨_,rfl⟩:=q.2.1.jQ;exact zR.ref (G:=fun k=>if k=0 then G id else G m) (id:=0) (by omega) q.2.1.xT
      | 1,d=>obtain⟨u,Q,q⟩:=q3 0 1 _ (.own m 0 l.length) (by simp[kb];rfl) rfl;simp at d;subst d;refine⟨u,Q,fun h=>by simp[kb]at h,?_,q.2.2⟩;obtain⟨cap,a1,a2,a3,a4,rfl⟩:=q.2.1.ve;exact zR.own (G:=fun k=>if k=0 then G id else G m) (id:=1) (by omega) a2 a3 a4 q.2.1.vI
      |j+2,d=>simp at d
    ·refine⟨N.bs,fun p=>⟨N.size p,N.len p,N.fit p,?_⟩,N.Fa⟩;obtain⟨I,q1,q2,q3⟩:=N.row p;refine⟨I,q1,q2,fun i j c pv n d=>?_⟩;obtain⟨u,Q,q⟩:=q3 i j c pv n d;exact⟨u,Q,q.1,.c (q.1 rfl),q.2.2⟩
   ·rcases L k c a with⟨rfl,rfl⟩|⟨rfl,rfl⟩
    ·exact B.apart id _ hb
    ·exact B.apart m _ hm
   ·rcases L k c a with⟨rfl,rfl⟩|⟨rfl,rfl⟩<;>rcases L k' c' M with⟨rfl,rfl⟩|⟨rfl,rfl⟩
    ·rfl
    ·exact(SR R).elim
    ·exact(SR R.symm).elim
    ·rfl
   ·rintro x ⟨k,c,a,rfl⟩;rcases L k c a with⟨rfl,rfl⟩|⟨rfl,rfl⟩
    ·exact⟨id,_,hb,rfl⟩
    ·exact⟨m,_,hm,rfl⟩
   ·have hkm:k≠m:=by rintro rfl;simp at a
    refine⟨yH a,?_⟩;rintro⟨k',c',M,R⟩;rcases L k' c' M with⟨rfl,rfl⟩|⟨rfl,rfl⟩
    ·exact H (B.inj k id c _ (yH a) hb R.symm)
    ·exact hkm (B.inj k m c _ (yH a) hm R.symm)
 obtain⟨hpe,nxe,m',hef,UP,J⟩:=hE _ _ _ _ _ y hlen;have hz2:Zip (zR w S1 Gs UO) (.ref 0 0 0::aZ) (.pointer (some ⟨(G id).g,0*(G id).s+0,none⟩)::us):=
  .cons (by rw[<-hG0];exact .ref y.pos (by rw[hG0];exact hrp)) hz1.closed
 refine(Kk hg.spec hg.quiet hg.box hg.iter hg.mixed a.func a.body a.ok hef hinv hz2 (by simpa using hn)).mono fun e w' hh=>?_
 obtain⟨v,S',G',R,k,L⟩:=hh;have z:G' 0=G id:=by rw[k.loc 0 y.pos,hG0]
 have hm0:m'≠0:=by rintro rfl;rw[UP]at J;injection J with J;have:=zk Blk.arr J;simp[kb,QD]at this
 have hsub:∀k c,qb Y2 id none k=some c->hpx k=some c/\¬yu E Gs (G k).g:=fun k c a=>by
  have H:k≠id:=by rintro rfl;simp at a
  exact hD k c (yH a) H
 have kk:=b6 (dr:=dr) (D:=yu E Gs) (Y2:=qb Y2 id none) B hsub SQ k.fr k.inv k.Wa k.from_ J rfl (k.own m' _ J);have A:qb G Z (G' m') id=G id:=zc _ _ _ _ (by omega);have W:=k.inv.live 0 _ UP;have EE:=kk.ED (id:=id) (b:=kb T id Z (l++t).length) hb hid ?_ ?_ ?_
 ·have hpe':qb (qb (qb Y2 id none) Z (some (QD U (l++t)))) id (some (kb T id Z (l++t).length))=qb (qb Y2 Z (some (QD U (l++t)))) id (some (kb T id Z (l++t).length)):=by
   funext j;by_cases h1:j=id
   ·subst h1;simp
   ·rw[zc _ _ _ _ h1,zc _ _ _ _ h1];by_cases h2:j=Z
    ·subst h2;simp
    ·rw[zc _ _ _ _ h2,zc _ _ _ _ h2,zc _ _ _ _ h1]
  rw[hpe']at EE;exact⟨v,_,_,R,EE,.c (pb L SP)⟩
 ·rw[A,<-z];refine⟨W.bs,fun p=>⟨W.size p,?_,W.fit p,?_⟩,fun p=>by rw[z]at p;omega⟩
  ·intro c hc;have:=W.len p [.ref 0 0 0,.own m' 0 (l++t).length] (by simp[kb]);simp only[kb,yk]at hc;subst hc;simpa using this
  ·obtain⟨I,q1,q2,q3⟩:=W.row p;refine⟨I,q1,q2,fun i j c pv n d=>?_⟩;obtain rfl:i=0:=by have:=(ze.1 n).1;simpa[kb]using this
   simp only[kb,Kc,qu]at n;subst n
   match j,d with
   | 0,d=>obtain⟨u,Q,q⟩:=q3 0 0 _ (.ref 0 0 0) (by simp[kb];rfl) rfl;simp at d;subst d;refine⟨u,Q,fun h=>by simp[kb]at h,?_,q.2.2⟩;obtain⟨_,rfl⟩:=q.2.1.jQ;have:=zR.ref (w:=w') (S:=S') (G:=qb G Z (G' m')) (Z:=Z+1) (id:=id) (i:=0) (j:=0) (by omega) (by rw[A];exact hrp);rw[A]at this;rw[z];exact this
   | 1,d=>obtain⟨u,Q,q⟩:=q3 0 1 [.ref 0 0 0,.own m' 0 (l++t).length] (.own m' 0 (l++t).length) (by simp[kb]) rfl;injection d with d;subst d;exact⟨u,Q,fun h=>by simp[kb]at h,b7 q.2.1,q.2.2⟩
   |j+2,d=>simp at d
 ·rw[A,<-z];exact k.inv.apart 0 _ UP
 ·intro j c d H;rw[A];by_cases hjn:j=Z
  ·subst hjn;simp only[q9];rw[<-z];exact fun SC=>hm0 (k.inv.inj m' 0 _ _ J UP SC)
  ·rw[zc _ _ _ _ hjn]at d⊢;obtain⟨a1,a2⟩:=hsub j c d;exact fun SC=>H (B.inj j id c b a1 hb SC)
end
end Go.AM
