/- Lemmas. -/
import Derived.ProofKit
import Derived.Test.YtnbicamkimignaaGreatDoorG7
set_option maxRecDepth 8000
open Go Proofs Proofs.YtnbicamkimignaaGreatDoor Proofs.Tryz RowKit AM SpanLaw Q Zz
namespace Go.AM
variable{dr:Prop}
section
variable{C:Ctx}{pf:FuncId→Bool}
theorem bh{w:World}{S:Nat→Prop}{G:Nat→GI}{f:St}{a:Act}(D:Inv C.P w S G f.Y f.Z)(hs:∀t,qK w S G f.Z (f.σ t) (a.tmps.getD t undef)) :
  ∀{l:List ResultVar} {xs:zc},yS (l.map (Jn C.P f))=some xs→∃vs,(l.mapM (m:=Sem) fun r=>match r with
   | .tmp t=>pure (a.tmps.getD t undef)
   | .cell p t=>do loadVar t (←asAddr (a.tmps.getD p undef))).run C.P w=.ok vs w∧Zip (qK w S G f.Z) xs vs
 |[],xs,h=>by
  simp only[kp,yS]at h;injection h with h
  subst h;exact⟨[],by simp,.nil⟩
 |r::l,xs,h=>by
  simp only[qF]at h;cases d:Jn C.P f r with
  |none=>rw[d]at h;simp[yS]at h
  |some p=>
   rw[d]at h;simp only[yS]at h;cases E:yS (l.map (Jn C.P f))with
   |none=>rw[E]at h;simp at h
   |some ys=>
    rw[E]at h;simp at h;subst h;obtain⟨vs,K,L⟩:=bh D hs E;cases r with
    |tmp t=>
     simp only[Jn]at d;injection d with d
     subst d;refine⟨a.tmps.getD t undef::vs,?_,.cons (hs t) L⟩;simp only[List.mapM_cons,Zd,WR,kY,K]
    |cell q t=>
     simp only[Jn]at d;obtain⟨v,w',S',G',Q,k,hx⟩:=r8 (dr:=True) D d (hs q);have z:=hs q;have F:∃v,(do loadVar t (←asAddr (a.tmps.getD q undef)):Sem Value).run C.P w=.ok v w∧qK w S G f.Z p v:=by
      unfold xU at d;split at d
      ·rename_i cs n;rw[n]at z;have H:=z.VO;generalize a.tmps.getD q undef=u at *;cases H with
       |ptr us R T=>obtain⟨v,A,o⟩:=ai (G:=G) (Z:=f.Z) (w:=w) (S:=S) d _ us (fun j B M=>⟨(R j B M).2,.c (T j B M)⟩);exact⟨v,by simp[asAddr,A],o⟩
      ·rename_i id i j n;rw[n]at z;have I:=z.eS;obtain⟨hid,U⟩:=z.YE;rw[U]at Q⊢;split at d
       ·rename_i b W;split at d
        ·rename_i c H;obtain⟨x,X,h4,h5⟩:=(D.live id b W).row I;have y:∀k:Nat,w.cell? ((⟨(G id).g,i*(G id).s+j,none⟩:Addr).add k)=x[i*(G id).s+j+k]?:=by intro k;rw[jH,cell_of_row w _ _ x _ _ X]
         obtain⟨v,A,o⟩:=ai (G:=G) (Z:=f.Z) (w:=w) (S:=S) d ⟨(G id).g,i*(G id).s+j,none⟩ (fun k=>(x[i*(G id).s+j+k]?).getD undef) (fun k B N=>by
          rw[wF]at N;obtain⟨u,h6,h7⟩:=h5 i (j+k) c B H N;rw[y];have e:i*(G id).s+j+k=i*(G id).s+(j+k):=by omega
          rw[e,h6];exact⟨rfl,h7.2.1⟩)
         exact⟨v,by simp[asAddr,A],o⟩
        ·cases d
       ·cases d
      ·cases d
     obtain⟨v,A,J⟩:=F;refine⟨v::vs,?_,.cons J L⟩;simp only[List.mapM_cons,Zd,A,kY,K,WR]
theorem c9{P:Program}{fn:Func}{a:Array Value}{R:Ending→World→Prop}:∀(c:List Nat) (w:World),c.Nodup→(∀D∈c,w.heap[D]?=some (.deferred (some [])))→(∀f,Fr dr w (fun b=>b∈c) f→LeavesIn Fence.wide 0 P fn a R [] .returning f)→LeavesInM Fence.wide 0 P fn a R (c.map iG) .returning w
 |[],w,_,_,h=>h w (Fr.refl _ _)
 |D::c,w,i,hd,h=>by
  obtain⟨j,l⟩:=List.nodup_cons.1 i;refine⟨by simp,.inl ⟨D,_,rfl,run_takeDeferred (hd D (by simp)),c9 c _ l (fun g d=>?_) fun f m=>h f ?_⟩⟩
  ·exact(zh0 (k:=g) (r:=D) fun e=>j (by rw[←e];exact d)).trans (hd g (by simp[d]))
  ·exact(F8 (.deferred none) (fun b=>b∈D::c) (by simp)).trans m (fun b _ n=>by simp[n])
theorem K8(Q:∀g a,C.Γ g=some a→km dr C.P g a)(R:∀g a,pf g=true→C.Γ g=some a→W9 a)(T:∀g a,C.bk g=true→C.Γ g=some a→vZ a)(hit:∀g it,C.it g=some it→Co dr C.P g it)(hm:C.P.follows .mixedOrders=true)
  {f:FuncId} {fn:Func} {code:Code} (hf:C.P.funcs[f]?=some fn) (l:fn.body=some code) (U:Zj pf C.dyn C.lds C.bk fn.ntmps code=true)
  {args:zc} {Y Y':Hp} {Z F:Nat} {x:O} (h:yr C fn args Y Z=some (x,Y',F)) {w:World} {S:Nat→Prop} {G:Nat→GI} {vs:List Value} (hi:Inv C.P w S G Y Z) (W:Zip (qK w S G Z) args vs) (hn:args.length≤fn.ntmps) :
  Calls C.P f vs.toArray w fun e w'=>∃v S' G',e=.returned v∧kJ dr C.P Y Z S G w Y' F S' G' w'∧qK w' S' G' F x v:=by
 unfold yr at h;simp only[l]at h;refine zkl.1 (callsIn_of_wp_marks (n:=0) hf l trivial ?_);have I:BP dr C.P w S (kN Y G) fn.ntmps Z G w.heap.size ⟨ve args,Y,Z⟩ {tmps:=vs.toArray++Array.replicate (fn.ntmps-vs.toArray.size) undef,defers:=[]} w:=by
  refine⟨S,G,hi,fun t=>?_,?_,.nil (ze _),fun _ h=>h,fun _ h=>.inl h,fun id b l=>.inl ⟨id,b,l,rfl⟩,Fr.refl _ _,ze _,fun _ _=>rfl⟩
  ·have X:vs.length=args.length:=W.1.symm;unfold ve;by_cases ht:t<args.length
   ·have q:args[t]?=some args[t]:=zu ht;have m:vs[t]?=some (vs[t]'(by omega)):=zu (by omega);have h3:=W.2 t _ _ q m;have h4:(vs.toArray++Array.replicate (fn.ntmps-vs.toArray.size) undef)[t]?=vs[t]?:=by rw[Array.getElem?_append_left (by simpa using(by omega:t<vs.length))];simp
    simp only[q,WS];rw[Array.getD_eq_getD_getElem?,h4,m];exact h3
   ·have q:args[t]?=none:=Jj (by omega);have h4:(vs.toArray++Array.replicate (fn.ntmps-vs.toArray.size) undef).getD t undef=undef:=by rw[Array.getD_eq_getD_getElem?,Array.getElem?_append_right (by simpa using(by omega:vs.length≤t)),Array.getElem?_replicate];split<;>rfl
    simp only[q,Option.getD_none];rw[h4];exact xp
  ·have X:vs.length=args.length:=W.1.symm;simp;omega
 have J:∀(e:Exit) (c:St),(e=.normal∨e=.ret)→wB C code ⟨ve args,Y,Z⟩=some (e,c)→(WA C.P fn c).map (fun x=>(x,c.Y,c.Z))=some (x,Y',F) →
   code.wpIn Fence.wide 0 C.P (bodyPostM Fence.wide 0 C.P fn fun e w'=>∃v S' G',e=.returned v∧kJ dr C.P Y Z S G w Y' F S' G' w'∧qK w' S' G' F x v) {tmps:=vs.toArray++Array.replicate (fn.ntmps-vs.toArray.size) undef,defers:=[]} w:=by
  intro e c he o hr;obtain⟨r,i,A⟩:=zX hr;injection A with e1 A
  injection A with e2 e3;subst e1;subst e2;subst e3;refine F9 Q R T hit hm code U Fence.wide 0 (.inl rfl) (.inl rfl) w S (kN Y G) Z G w.heap.size _ c e _ w _ (ze _) o I fun H w1 hs'=>?_
  obtain⟨S',G',d⟩:=hs';obtain⟨hd0,Ds,hd1,hd2,p⟩:=d.defers;have K:LeavesInM Fence.wide 0 C.P fn H.tmps (fun e w'=>∃v S' G',e=.returned v∧kJ dr C.P Y Z S G w c.Y c.Z S' G' w'∧qK w' S' G' c.Z r v) H.defers .returning w1:=by
   rw[hd1];refine c9 (dr:=dr) Ds w1 hd2 (fun D hD=>(p D hD).2.1) fun w' B=>?_
   have L:∀b,b∈Ds→cN S' G' c.Y b:=fun b l=>⟨(p b l).2.2.1,(p b l).2.2.2⟩
   have s:=d.inv.frame B L;have N5:∀t,qK w' S' G' c.Z (c.σ t) (H.tmps.getD t undef):=fun t=>(d.JM t).mono (fun b l=>⟨l,B.block b (d.inv.st b l) fun hb'=>(L b hb').1 l⟩) (ze _) (fun _ _=>rfl)
   have hk:kJ dr C.P Y Z S G w c.Y c.Z S' G' w':=⟨s,d.up,d.loc,d.s0,d.s1,d.own,d.fr.trans B fun b l q=>by have:=(p b q).1;omega⟩;have M:∃v,(results fn H.tmps).run C.P w'=.ok v w'∧qK w' S' G' c.Z r v:=by
    unfold WA at i;have go:∀xs,yS (fn.results.toList.map (Jn C.P c))=some xs→r=(match xs with|[x]=>x|xs=>.yb xs)→∃v,(results fn H.tmps).run C.P w'=.ok v w'∧qK w' S' G' c.Z r v:=by
     intro xs hx k;obtain⟨us,q,m⟩:=bh s N5 hx;have N:(results fn H.tmps).run C.P w'=.ok (if h:us.toArray.size=1 then us.toArray[0]else .tuple us.toArray) w':=by unfold results;rw[Array.mapM_eq_mapM_toList];simp only[Zd,Sem.run_map];erw [q];rfl
     refine⟨_,N,?_⟩
     match xs,m,k with
     |[],m,k=>rw[m.Yi];subst k;exact .yb rfl (by simp)
     |[y],m,k=>obtain⟨u,rfl,hu⟩:=Qv m;subst k;simpa using hu
     |y::z::ys,m,k=>have hl:=m.1;subst k;rw[dif_neg (by simp at hl⊢;omega)];exact .yb (by simpa using hl) (fun j pv u hj hu=>m.2 j pv u hj (by simpa using hu))
    split at i
    ·rename_i y hy;injection i with i
     exact go [y] hy i.symm
    ·rename_i xs E hx;injection i with i
     refine go xs hx ?_;rw[←i]
     match xs,E with
     |[],_=>rfl
     |[y],E=>exact(E y rfl).elim
     |y::z::ys,_=>rfl
    ·cases i
   obtain⟨v,hv1,hv2⟩:=M;exact⟨v,hv1,v,S',G',rfl,hk,hv2⟩
  rcases he with rfl|rfl
  ·exact K
  ·exact K
 split at h
 ·rename_i c o;exact J _ c (.inl rfl) o h
 ·rename_i c o;exact J _ c (.inr rfl) o h
 ·cases h
end
variable{dr:Prop}
def O.isV:O→Bool
 | .v _=>true
 |_=>false
def O.flat:O→Bool
 | .v _=>true
 | .yb cs=>cs.all O.isV
 |_=>false
def OZ(s:Nat):O→O
 | .nil=>.sl s []
 |x=>x
def yf:List Nat→zc→zc
 |s::a,x::l=>OZ s x::yf a l
 |_,l=>l
def Ga(x y:O):Prop:=x=y∨(x=.nil∧∃s,y=.sl s [])
def gH:O→O→Prop
 | .yb xs,.yb ys=>xs.length=ys.length∧∀(j:Nat) (x y:O),xs[j]?=some x→ys[j]?=some y→Ga x y
 |x,y=>Ga x y
def zi(a:Bool)(b:List Nat)(F:zc→Option O):AM.Spec:=fun args Y Z=>
 match zA Y args with
 |some (c,Y1)=>match F (yf b c)with
  |some r=>if r.flat=true∨args.all O.noOwn=true then some (r,Y,Z)else if a=true then some (r,Y1,Z)else none
  |none=>none
 |none=>none
def yO(a:List Nat)(F:zc→Option (Option jz)):AM.Spec:=fun args Y Z=>
 match zA Y args with
 |some (c,Y1)=>match F (yf a c)with
  |some none=>some (.nil,Y1,Z)
  |some (some b)=>some (.own Z 0 b.es.length,qZ Y1 Z (some b),Z+1)
  |none=>none
 |none=>none
def mz(d:List Nat)(F:Option jz→zc→Option (Option jz)):AM.Spec:=fun args Y Z=>
 match args with
 | .nil::l=>match zA Y l with
  |some (a,Y1)=>match F none (yf d a)with
   |some none=>some (.nil,Y1,Z)
   |some (some b)=>some (.own Z 0 b.es.length,qZ Y1 Z (some b),Z+1)
   |none=>none
  |none=>none
 | .own id 0 n::l=>match zA Y l with
  |some (a,Y1)=>match Y1 id with
   |some c=>if c.arr=true∧n=c.es.length then match F (some c) (yf d a)with
     |some none=>some (.nil,qZ Y1 id none,Z)
     |some (some b)=>some (.own Z 0 b.es.length,qZ (qZ Y1 id none) Z (some b),Z+1)
     |none=>none
    else none
   |none=>none
  |none=>none
 |_=>none
theorem zt(a:List Nat)(F:zc→Option O):W9 (zi false a F):=by
 intro args Y Z r Y' d h;unfold zi at h;split at h
 ·split at h
  ·split at h
   ·injection h with h;injection h with _ h;injection h with b c;exact⟨b.symm,c.symm⟩
   ·simp at h
  ·cases h
 ·cases h
structure iF (C:Ctx) (pf:FuncId→Bool) (f:FuncId) (fn:Func) (code:Code):Prop where
 func:C.P.funcs[f]?=some fn
 name:(fn.name== "runtime.NumGoroutine")=false
 body:fn.body=some code
 ok:Zj pf C.dyn C.lds C.bk fn.ntmps code=true
structure Yj (dr:Prop) (C:Ctx) (pf:FuncId→Bool):Prop where
 spec:∀g spec,C.Γ g=some spec→km dr C.P g spec
 quiet:∀g spec,pf g=true→C.Γ g=some spec→W9 spec
 mixed:C.P.follows .mixedOrders=true
 box:∀g spec,C.bk g=true→C.Γ g=some spec→vZ spec:=by intro _ _ h;cases h
 iter:∀g it,C.it g=some it→Co dr C.P g it:=by intro _ _ h;cases h
abbrev Good:=Yj True
section
variable{C:Ctx}{pf:FuncId→Bool}{f:FuncId}{fn:Func}{code:Code}
theorem kJ.outer{P:Program}{Y:Hp}{Z:Nat}{S:Nat→Prop}{G:Nat→GI}{w w':World}(h:Inv P w S G Y Z)(k:Fr dr w (fun _=>False) w') :
  kJ dr P Y Z S G w Y Z (fun b=>S b∨(w.heap.size≤b∧b<w'.heap.size)) G w':=by
 have c:∀b,b<w.heap.size→w'.heap[b]?=w.heap[b]?:=fun b a=>k.block b a fun h=>h
 have d:∀b,S b→(S b∨(w.heap.size≤b∧b<w'.heap.size))∧w'.heap[b]?=w.heap[b]?:=fun b a=>⟨.inl a,c b (h.st b a)⟩
 refine⟨⟨fun b a=>?_,h.top,fun id b a=>(h.live id b a).mono d (ze _) (fun _ _=>rfl) (c _ (h.live id b a).lt),fun id b a hs=>?_,h.inj,h.eR.mono d⟩,ze _,fun _ _=>rfl,fun _ a=>.inl a,fun b a=>?_,fun id b a=>.inl ⟨id,b,a,rfl⟩,⟨k.os,k.tape,k.output,k.size,k.drawn,fun b a _=>c b a⟩⟩
 ·rcases a with a|a
  ·exact zlO (h.st b a) k.size
  ·exact a.2
 ·rcases hs with hs|hs
  ·exact h.apart id b a hs
  ·have:=(h.live id b a).lt;omega
 ·rcases a with a|a
  ·exact .inl a
  ·exact .inr (.inr a.1)
theorem sr{P:Program}{w:World}{S:Nat→Prop}(G:Nat→GI)(a:∀b,S b→b<w.heap.size)(c:Ln P w S):Inv P w S G (fun _=>none) 0:=
 ⟨a,fun _ _ h=>(by cases h),fun _ _ h=>(by cases h),fun _ _ h=>(by cases h),fun _ _ _ _ h=>(by cases h),c⟩
theorem bW{G:Nat→GI}{b:Nat}(h:kN (fun _=>none) G b):False:=by obtain⟨_,_,h,_⟩:=h;cases h
theorem Zip.closed{w:World}{S:Nat→Prop}{G:Nat→GI}{Z:Nat}{xs:zc}{us:List Value}(h:Zip (wT w S) xs us):Zip (qK w S G Z) xs us:=h.imp fun _ _ h=>.c h
theorem Cp{w w':World}{S S':Nat→Prop}{r:O}{v:Value}(h:wT w S r v)(a:r.flat=true):wT w' S' r v:=by
 cases h with
 |v h=>exact .v h
 |yb b e=>
  refine .yb b fun j c u d f=>?_
  simp only[O.flat,qW]at a;have:=a c (zO d);have g:=e j c u d f;cases c<;>simp[O.isV]at this;obtain⟨rfl,b⟩:=g.yH;exact .v b
 |_=>simp[O.flat]at a
theorem xq(c:Yj dr C pf)(i:iF C pf f fn code){args:zc}{x:O}{Y1:Hp}{a:Nat}(h:yr C fn args (fun _=>none) 0=some (x,Y1,a))(l:args.length≤fn.ntmps)
  {w:World} {S:Nat→Prop} {vs:List Value} (m:∀b,S b→b<w.heap.size) (j:Ln C.P w S) (n:Zip (wT w S) args vs) :
  Calls C.P f vs.toArray w fun e w'=>∃v S' G',e=.returned v∧Fr dr w (fun _=>False) w'∧Inv C.P w' S' G' Y1 a∧qK w' S' G' a x v∧(∀b,S b→S' b)∧(∀b,S' b→S b∨w.heap.size≤b)∧(∀id blk,Y1 id=some blk→w.heap.size≤(G' id).g):=by
 refine(K8 c.spec c.quiet c.box c.iter c.mixed i.func i.body i.ok h (sr (fun _=>⟨0,0,0⟩) m j) n.closed l).mono fun e w' o=>?_
 obtain⟨v,S',G',p,k,q⟩:=o;refine⟨v,S',G',p,⟨k.fr.os,k.fr.tape,k.fr.output,k.fr.size,k.fr.drawn,fun b d _=>k.fr.block b d bW⟩,k.inv,q,k.ZC,fun b d=>?_,fun id blk d=>?_⟩
 ·rcases k.from_ b d with h|h|h
  ·exact .inl h
  ·exact(bW h).elim
  ·exact .inr h
 ·rcases k.own id blk d with h|h
  ·exact(bW h).elim
  ·exact h
theorem ss{w:World}{S:Nat→Prop}{x:O}{u:Value}(h:wT w S x u)(s:Nat):wT w S (OZ s x) u:=by
 unfold OZ;split
 ·cases h;exact .sl (es:=[]) (fun _ _=>undef) (by simp) (by simp) (by simp[maxLen]) (by simp) (by simp) (by simp)
 ·exact h
theorem Qy{w:World}{S:Nat→Prop}:∀{a:List Nat} {xs:zc} {us:List Value},Zip (wT w S) xs us→Zip (wT w S) (yf a xs) us
 |[],xs,us,h=>by unfold yf;exact h
 |s::a,[],us,h=>by unfold yf;exact h
 |s::a,x::xs,us,h=>by obtain⟨u,b,rfl,c,d⟩:=h.jl;simp only[yf];exact .cons (ss c s) (Qy d)
theorem Im{w:World}{S:Nat→Prop}{x y:O}{u:Value}(h:wT w S x u)(a:Ga x y):wT w S y u:=by
 rcases a with rfl|⟨rfl,s,rfl⟩
 ·exact h
 ·exact ss h s
theorem JU{w:World}{S:Nat→Prop}{x y:O}{u:Value}(h:wT w S x u)(a:gH x y):wT w S y u:=by
 unfold gH at a;split at a
 ·cases h with
  |yb g d=>
   rename_i xs ys us;refine .yb (by omega) fun j e v c f=>?_
   have b:j<xs.length:=by rw[a.1];exact(zq.1 c).1
   exact Im (d j xs[j] v (zu b) f) (a.2 j xs[j] e (zu b) c)
 ·exact Im h a
theorem Cq(hg:Yj dr C pf)(q:iF C pf f fn code)(j:Bool)(ns:List Nat)(F:zc→Option O)(hF:∀args r,F args=some r→args.length≤fn.ntmps∧∃s,zz C fn args=some s∧gH s r):km dr C.P f (zi j ns F):=by
 refine⟨⟨fn,q.func,q.name,by rw[q.body];rfl⟩,?_⟩;intro args Y Z r Y' Z' h w S G vs T hz;unfold zi at h;split at h
 ·rename_i aZ Y1 u;split at h
  ·rename_i s y;obtain⟨hn,rr,a,z⟩:=hF _ s y;unfold zz at a;split at a
   ·rename_i x hpe nxe A;obtain⟨⟨r1,U⟩,B,k⟩:=zX a;simp only at k;subst k;obtain⟨S1,t,D,E⟩:=jC (dr:=dr) T u hz;refine(xq hg q A hn t.inv.st t.inv.eR (Qy D)).mono fun e w' hh=>?_
    obtain⟨v,S',G',W,X,l,hx,hs0,H,_⟩:=hh;obtain⟨S2,k2,I⟩:=KZ (dr:=dr) l B hx;have J:=JU I z;have m:∀b,S2 b→S1 b∨(w.heap.size≤b∧b<w'.heap.size):=by
     intro b i;have n:=k2.inv.st b i;rcases k2.from_ b i with h1|⟨id,blk,h1,rfl⟩|h1
     ·rcases H b h1 with K|K
      ·exact .inl K
      ·exact .inr ⟨K,n⟩
     ·rcases Nat.lt_or_ge (G' id).g w.heap.size with h3|h3
      ·rename_i o;have:=o id blk h1;omega
      ·exact .inr ⟨h3,n⟩
     ·exact absurd h1 (by omega)
    split at h
    ·rename_i d;injection h with h
     injection h with L h;injection h with M N;subst L;subst M;subst N;refine⟨v,_,G,W,kJ.outer T X,.c ?_⟩;rcases d with Q|R
     ·exact Cp J Q
     ·have p:=E R;exact J.mono fun b i=>⟨by rw[←p];exact m b i,rfl⟩
    ·split at h
     ·injection h with h;injection h with L h;injection h with M N;subst L;subst M;subst N;exact⟨v,_,G,W,t.trans (kJ.outer t.inv X),.c (J.mono fun b i=>⟨m b i,rfl⟩)⟩
     ·cases h
   ·cases a
  ·cases h
 ·cases h
end
variable{dr:Prop}
section
variable{P:Program}{Y1 Y2 hpe:Hp}{Z nxe:Nat}{S1 S':Nat→Prop}{G G':Nat→GI}{w w':World}{D:Nat→Prop}
theorem Kg(f:Inv P w S1 G Y1 Z)(a:∀id b,Y2 id=some b→Y1 id=some b∧¬D (G id).g)(m:∀b,D b→kN Y1 G b)(d:Fr dr w D w')(e:Inv P w' S' G' hpe nxe)(i:∀b,S1 b→S' b)(j:∀b,S' b→S1 b∨D b∨w.heap.size≤b) :
  kJ dr P Y1 Z S1 G w Y2 Z S' G w':=by
 have n:∀b,S1 b→¬D b:=fun b c hd=>by obtain⟨id,blk,q,rfl⟩:=m b hd;exact f.apart id blk q c
 have r:∀b,S1 b→S' b∧w'.heap[b]?=w.heap[b]?:=fun b c=>⟨i b c,d.block b (f.st b c) (n b c)⟩
 refine⟨⟨e.st,fun id b c=>f.top id b (a id b c).1,fun id b c=>?_,fun id b c hs=>?_,fun id id' b p c o s=>f.inj id id' b p (a id b c).1 (a id' p o).1 s,e.eR⟩,ze _,fun _ _=>rfl,i,fun b c=>?_,fun id b c=>.inl ⟨id,b,(a id b c).1,rfl⟩,⟨d.os,d.tape,d.output,d.size,d.drawn,fun k t u=>d.block k t fun hd=>u (m k hd)⟩⟩
 ·have l:=f.live id b (a id b c).1;exact l.mono r (ze _) (fun _ _=>rfl) (d.block _ l.lt (a id b c).2)
 ·have l:=f.live id b (a id b c).1;rcases j _ hs with h|h|h
  ·exact f.apart id b (a id b c).1 h
  ·exact(a id b c).2 h
  ·have:=l.lt;omega
 ·rcases j b c with h|h|h
  ·exact .inl h
  ·exact .inr (.inl (m b h))
  ·exact .inr (.inr h)
theorem da(B:Inv P w S1 G Y1 Z)(f:∀id b,Y2 id=some b→Y1 id=some b∧¬D (G id).g)(M:∀b,D b→kN Y1 G b)(Q:Fr dr w D w')(l:Inv P w' S' G' hpe nxe)(F:∀b,S1 b→S' b)(H:∀b,S' b→S1 b∨D b∨w.heap.size≤b)
  {id:Nat} {b:jz} (C:hpe id=some b) (v:b.arr=true) (s:D (G' id).g∨w.heap.size≤(G' id).g) :
  kJ dr P Y1 Z S1 G w (qZ Y2 Z (some b)) (Z+1) S' (qZ G Z (G' id)) w':=by
 have x:=Kg B f M Q l F H;have y:∀id' z,Y2 id'=some z→(G id').g≠(G' id).g:=fun id' z N q=>by
  rcases s with h|h
  ·exact(f id' z N).2 (q ▸ h)
  ·have:=(B.live id' z (f id' z N).1).lt;omega
 have r:∀k,k<Z→qZ G Z (G' id) k=G k:=fun k a=>qY _ _ _ _ (by omega)
 have m:∀k,k≠Z→qZ Y2 Z (some b) k=Y2 k:=fun k a=>qY _ _ _ _ a
 have I:∀b,S' b→S' b∧w'.heap[b]?=w'.heap[b]?:=fun b C=>⟨C,rfl⟩
 have e:∀k c,Y2 k=some c→k<Z:=fun k c a=>B.top k c (f k c a).1
 refine⟨⟨l.st,fun k c a=>?_,fun k c a=>?_,fun k c a=>?_,fun k n c A a o q=>?_,l.eR⟩,by omega,r,x.ZC,x.from_,fun n c a=>?_,x.fr⟩
 ·by_cases d:k=Z
  ·omega
  ·rw[m k d]at a;have:=e k c a;omega
 ·by_cases d:k=Z
  ·subst d;simp only[w9]at a⊢;injection a with a
   subst a;have t:=l.live id _ C;refine⟨t.bs,fun E=>⟨t.size E,t.len E,t.fit E,?_⟩,t.ent⟩;obtain⟨J,R,S,T⟩:=t.row E;refine⟨J,R,S,fun i j c U K W=>?_⟩;obtain⟨u,X,L⟩:=T i j c U K W;exact⟨u,X,L.1,.c (L.1 v),L.2.2⟩
  ·rw[m k d]at a;rw[r k (e k c a)];exact(x.inv.live k c a).mono I (by omega) r rfl
 ·by_cases d:k=Z
  ·subst d;simp only[w9];exact l.apart id b C
  ·rw[m k d]at a;rw[r k (e k c a)];exact x.inv.apart k c a
 ·by_cases d:k=Z<;>by_cases p:n=Z
  ·omega
  ·subst d;rw[m n p]at o;rw[r n (e n A o)]at q;simp only[w9]at q;exact(y n A o q.symm).elim
  ·subst p;rw[m k d]at a;rw[r k (e k c a)]at q;simp only[w9]at q;exact(y k c a q).elim
  ·rw[m k d]at a;rw[m n p]at o;rw[r k (e k c a),r n (e n A o)]at q;exact B.inj k n c A (f k c a).1 (f n A o).1 q
 ·by_cases d:n=Z
  ·subst d;simp only[w9];rcases s with h|h
   ·exact .inl (M _ h)
   ·exact .inr h
  ·rw[m n d]at a;rw[r n (e n c a)];exact .inl ⟨n,c,(f n c a).1,rfl⟩
theorem db{id n:Nat}{v:Value}(h:qK w' S' G' nxe (.own id 0 n) v):qK w' S' (qZ G Z (G' id)) (Z+1) (.own Z 0 n) v:=by have a:=h.Zb;obtain⟨cap,e,b,c,d,rfl⟩:=h.xd;have:=qK.own (w:=w') (S:=S') (G:=qZ G Z (G' id)) (Z:=Z+1) (id:=Z) (off:=0) (n:=n) (cap:=cap) (by omega) b c (by simpa using d) (by simpa using a);simpa using this
end
section
variable{C:Ctx}{pf:FuncId→Bool}{f:FuncId}{fn:Func}{code:Code}
def kd(r:Option jz)(x:O)(Y:Hp)(_:Nat):Prop:=match r with
 |none=>x=.nil
 |some b=>∃id,x=.own id 0 b.es.length∧Y id=some b∧b.arr=true
theorem jw(K:Yj dr C pf)(n:iF C pf f fn code)(M:List Nat)(F:zc→Option (Option jz))(L:∀args r,F args=some r→args.length≤fn.ntmps∧∃x Y Z,yr C fn args (fun _=>none) 0=some (x,Y,Z)∧kd r x Y Z) :
  km dr C.P f (yO M F):=by
 refine⟨⟨fn,n.func,n.name,by rw[n.body];rfl⟩,?_⟩;intro args Y Z r Y' R h w S G vs N Q;unfold yO at h;split at h
 ·rename_i T Y1 s;obtain⟨S1,g,o,_⟩:=jC (dr:=dr) N s Q;have i:∀id b,Y1 id=some b→Y1 id=some b∧¬False:=fun id b h=>⟨h,fun h=>h⟩
  split at h
  ·rename_i j;obtain⟨t,x,hpe,nxe,k,d⟩:=L _ none j;injection h with h
   injection h with u h;injection h with y z;subst u;subst y;subst z;simp only[kd]at d;subst d;refine(xq K n k t g.inv.st g.inv.eR (Qy o)).mono fun e w' A=>?_
   obtain⟨v,S',G',B,E,a,H,l,m,_⟩:=A;have I:=Kg (dr:=dr) (D:=fun _=>False) (Y2:=Y1) g.inv i (fun _ h=>h.elim) E a l (fun b J=>(m b J).imp (fun h=>h) .inr);have:=H.xc;subst this;exact⟨_,_,_,B,g.trans I,.c .nil⟩
  ·rename_i b j;obtain⟨t,x,hpe,nxe,k,d⟩:=L _ (some b) j;injection h with h
   injection h with u h;injection h with y z;subst u;subst y;subst z;obtain⟨id,rfl,hid,p⟩:=d;refine(xq K n k t g.inv.st g.inv.eR (Qy o)).mono fun e w' A=>?_
   obtain⟨v,S',G',B,E,a,H,l,m,q⟩:=A;have I:=da (dr:=dr) (D:=fun _=>False) (Y2:=Y1) g.inv i (fun _ h=>h.elim) E a l (fun b J=>(m b J).imp (fun h=>h) .inr) hid p (.inr (q id b hid));exact⟨_,_,_,B,g.trans I,db H⟩
  ·cases h
 ·cases h
theorem Cr(z:Yj dr C pf)(a:iF C pf f fn code)(ns:List Nat)(F:Option jz→zc→Option (Option jz))
  (Q:∀args r,F none args=some r→args.length+1≤fn.ntmps∧∃x Y Z,yr C fn (.nil::args) (fun _=>none) 0=some (x,Y,Z)∧kd r x Y Z)
  (h1:∀b args r,F (some b) args=some r→args.length+1≤fn.ntmps∧(b.arr=true→∃x Y Z,yr C fn (.own 0 0 b.es.length::args) (qZ (fun _=>none) 0 (some b)) 1=some (x,Y,Z)∧kd r x Y Z)) :
  km dr C.P f (mz ns F):=by
 refine⟨⟨fn,a.func,a.name,by rw[a.body];rfl⟩,?_⟩;intro args Y Z r Y' Z' h w S G vs hi hz;unfold mz at h;split at h
 ·rename_i l;obtain⟨u,us,rfl,hu,R⟩:=hz.jl;have:=hu.xc;subst this;split at h
  ·rename_i aZ Y1 T;obtain⟨S1,d,U,_⟩:=jC (dr:=dr) hi T R;have B:Zip (wT w S1) (.nil::yf ns aZ) (.slice none 0 0::us):=.cons .nil (Qy U);have p:∀id b,Y1 id=some b→Y1 id=some b∧¬False:=fun id b h=>⟨h,fun h=>h⟩
   split at h
   ·rename_i q;obtain⟨J,x,hpe,nxe,t,m⟩:=Q _ none q;injection h with h
    injection h with W h;injection h with X e3;subst W;subst X;subst e3;simp only[kd]at m;subst m;refine(xq z a t (by simpa using J) d.inv.st d.inv.eR B).mono fun e w' hh=>?_
    obtain⟨v,S',G',K,I,E,A,hs0,hs1,_⟩:=hh;have k2:=Kg (dr:=dr) (D:=fun _=>False) (Y2:=Y1) d.inv p (fun _ h=>h.elim) I E hs0 (fun b L=>(hs1 b L).imp (fun h=>h) .inr);have:=A.xc;subst this;exact⟨_,_,_,K,d.trans k2,.c .nil⟩
   ·rename_i b q;obtain⟨J,x,hpe,nxe,t,m⟩:=Q _ (some b) q;injection h with h
    injection h with W h;injection h with X e3;subst W;subst X;subst e3;obtain⟨id,rfl,hid,H⟩:=m;refine(xq z a t (by simpa using J) d.inv.st d.inv.eR B).mono fun e w' hh=>?_
    obtain⟨v,S',G',K,I,E,A,hs0,hs1,hown⟩:=hh;have k2:=da (dr:=dr) (D:=fun _=>False) (Y2:=Y1) d.inv p (fun _ h=>h.elim) I E hs0 (fun b L=>(hs1 b L).imp (fun h=>h) .inr) hid H (.inr (hown id b hid));exact⟨_,_,_,K,d.trans k2,db A⟩
   ·cases h
  ·cases h
 ·rename_i id n l;obtain⟨u,us,rfl,hu,R⟩:=hz.jl;split at h
  ·rename_i aZ Y1 T;obtain⟨S1,d,U,_⟩:=jC (dr:=dr) hi T R;have hu1:qK w S1 G Z (.own id 0 n) u:=hu.mono (d.same hi) (ze _) (fun _ _=>rfl);split at h
   ·rename_i b0 M;split at h
    ·rename_i hc;obtain⟨hba,rfl⟩:=hc;have Ua:=hu1.Zb;obtain⟨cap,g1,g2,g3,g4,rfl⟩:=hu1.xd;have y:=d.inv.live id b0 M;have N:Inv C.P w S1 (fun _=>G id) (qZ (fun _=>none) 0 (some b0)) 1:=by
      have A:∀k b,qZ (fun _=>none) 0 (some b0) k=some b→k=0∧b=b0:=by
       intro k b a;unfold qZ at a;split at a
       ·injection a with a;exact⟨by assumption,a.symm⟩
       ·cases a
      refine⟨d.inv.st,fun k b a=>by rw[(A k b a).1];omega,fun k b a=>?_,fun k b a=>?_,fun k k' b b' a hk' _=>by rw[(A k b a).1,(A k' b' hk').1],d.inv.eR⟩
      ·rw[(A k b a).2];refine⟨y.bs,fun Q=>⟨y.size Q,y.len Q,y.fit Q,?_⟩,y.ent⟩;obtain⟨cur,q1,q2,q3⟩:=y.row Q;refine⟨cur,q1,q2,fun i j c pv hi' hj=>?_⟩;obtain⟨u,h4,h5⟩:=q3 i j c pv hi' hj;exact⟨u,h4,h5.1,.c (h5.1 hba),h5.2.2⟩
      ·exact d.inv.apart id b0 M
     have B:Zip (qK w S1 (fun _=>G id) 1) (.own 0 0 b0.es.length::yf ns aZ) (.slice (some ⟨(G id).g,0*(G id).s,none⟩) b0.es.length cap::us):=
      .cons (.own (G:=fun _=>G id) (id:=0) (by omega) g2 g3 g4 Ua) (Qy U).closed
     have o:∀b,kN (qZ (fun _=>none) 0 (some b0)) (fun _=>G id) b→b=(G id).g:=by rintro b ⟨_,_,_,rfl⟩;rfl
     have hD:∀b,b=(G id).g→kN Y1 G b:=fun b L=>⟨id,b0,M,L.symm⟩
     have p:∀k b,qZ Y1 id none k=some b→Y1 k=some b∧¬(G k).g=(G id).g:=fun k b a=>by
      have hne:k≠id:=by rintro rfl;simp at a
      exact⟨YO a,fun K=>hne (d.inv.inj k id b b0 (YO a) M K)⟩
     have frD:∀{w':World},Fr dr w (kN (qZ (fun _=>none) 0 (some b0)) (fun _=>G id)) w'→Fr dr w (fun b=>b=(G id).g) w':=fun I=>⟨I.os,I.tape,I.output,I.size,I.drawn,fun k a J=>I.block k a fun hl=>J (o k hl)⟩
     split at h
     ·rename_i q;obtain⟨J,hx1⟩:=h1 b0 _ none q;obtain⟨x,hpe,nxe,t,m⟩:=hx1 hba;injection h with h
      injection h with W h;injection h with X e3;subst W;subst X;subst e3;simp only[kd]at m;subst m;refine(K8 z.spec z.quiet z.box z.iter z.mixed a.func a.body a.ok t N B (by simpa using J)).mono fun e w' hh=>?_
      obtain⟨v,S',G',K,k,A⟩:=hh;have k2:=Kg (dr:=dr) (D:=fun b=>b=(G id).g) (Y2:=qZ Y1 id none) d.inv p hD (frD k.fr) k.inv k.ZC (fun b L=>by
       rcases k.from_ b L with h|h|h
       ·exact .inl h
       ·exact .inr (.inl (o b h))
       ·exact .inr (.inr h))
      have:=A.xc;subst this;exact⟨_,_,_,K,d.trans k2,.c .nil⟩
     ·rename_i b q;obtain⟨J,hx1⟩:=h1 b0 _ (some b) q;obtain⟨x,hpe,nxe,t,m⟩:=hx1 hba;injection h with h
      injection h with W h;injection h with X e3;subst W;subst X;subst e3;obtain⟨id',rfl,hid,H⟩:=m;refine(K8 z.spec z.quiet z.box z.iter z.mixed a.func a.body a.ok t N B (by simpa using J)).mono fun e w' hh=>?_
      obtain⟨v,S',G',K,k,A⟩:=hh;have k2:=da (dr:=dr) (D:=fun b=>b=(G id).g) (Y2:=qZ Y1 id none) d.inv p hD (frD k.fr) k.inv k.ZC (fun b L=>by
       rcases k.from_ b L with h|h|h
       ·exact .inl h
       ·exact .inr (.inl (o b h))
       ·exact .inr (.inr h)) hid H (by
       rcases k.own id' b hid with h|h
       ·exact .inl (o _ h)
       ·exact .inr h)
      exact⟨_,_,_,K,d.trans k2,db A⟩
     ·cases h
    ·cases h
   ·cases h
  ·cases h
 ·cases h
end
end Go.AM
namespace Go.AM
open Go.RowKit Go.WideShapes Go.ChangeShapes
variable{dr:Prop}
def Cs(P:Program):Nat→List Field→Option Nat
 |o,[]=>some o
 |o,f::a=>if f.offset=o then Cs P (o+P.cellsOf f.type) a else none
def lC(P:Program)(T:List TypeId):Bool:=T.all fun t=>match P.underlying t with
 |some .bool|some (.int _)|some .string=>P.cellsOf t==1
 |some (.slice e)=>P.cellsOf t==1&&T.contains e&&decide (0<P.cellsOf e)
 |some (.struct a)=>Cs P 0 a.toList==some (P.cellsOf t)&&a.toList.all fun f=>T.contains f.type
 |_=>false
structure Bounds (H:Type) (Bl:Nat→Prop) (Bd:DataW H→Prop):Prop where
 slice:∀es sp,Bd (.slice es sp)→Bl es.length∧∀d∈es,Bd d
 nil:Bl 0
 agg:∀l,Bd (.agg l)→∀d∈l,Bd d
 str:∀b,Bd (.lit (.string b))→Bl b.length
section
variable{H:Type}{V:TypeId×Value→H}{P:Program}{w:World}{sp:Nat→Bool}{held:Bool}{Bl:Nat→Prop}{Bd:DataW H→Prop}
theorem pL{α:Type}{l:List α}{o n j:Nat}(a:j<n):((l.drop o).take n)[j]?=l[o+j]?:=by rw[qG,zf a,wF]
theorem su{R:O→Value→Prop}{Q:Field→zc→Prop}:∀(e:List Field) (o n:Nat) (cs:List Value),Cs P o e=some n→cs.length=n →
  (∀f∈e,∃a,Zip R a ((cs.drop f.offset).take (P.cellsOf f.type))∧Q f a) →
  ∃a:zc,a.length+o=n∧(∀(j:Nat) (g:O) (u:Value),a[j]?=some g→cs[o+j]?=some u→R g u)∧∀f∈e,o≤f.offset∧Q f ((a.drop (f.offset-o)).take (P.cellsOf f.type))
 |[],o,n,cs,c,p,_=>by
  simp only[Cs]at c;injection c with c
  subst c;exact⟨[],by simp,by simp,by simp⟩
 |f::e,o,n,cs,c,p,h=>by
  simp only[Cs]at c;split at c
  ·rename_i s;obtain⟨d,q,t⟩:=h f (by simp);obtain⟨i,y,v,w⟩:=su e (o+P.cellsOf f.type) n cs c p (fun f' b=>h f' (by simp[b]));have l:d.length=P.cellsOf f.type:=by have:=q.1;simp only[yM,List.length_drop]at this;omega
   refine⟨d++i,by simp;omega,fun j g u k r=>?_,fun f' b=>?_⟩
   ·by_cases m:j<d.length
    ·rw[qV m]at k;refine q.2 j g u k ?_;rw[pL (by omega),s];exact r
    ·rw[qg (by omega)]at k;refine v (j-d.length) g u k ?_;rw[show o+P.cellsOf f.type+(j-d.length)=o+j from by omega];exact r
   ·rcases zL.1 b with rfl|b
    ·refine⟨by omega,?_⟩;have:((d++i).drop (f'.offset-o)).take (P.cellsOf f'.type)=d:=by rw[show f'.offset-o=0 from by omega,yj,←l,List.take_left]
     rw[this];exact t
    ·obtain⟨z,x⟩:=w f' b;refine⟨by omega,?_⟩;have:(d++i).drop (f'.offset-o)=i.drop (f'.offset-(o+P.cellsOf f.type)):=by rw[List.drop_append,zb9 (by omega),wN];congr 1;omega
     rw[this];exact x
  ·cases c
end
section
variable{C:Ctx}{pf:FuncId→Bool}{f:FuncId}{fn:Func}{code:Code}
theorem LX(o:Yj dr C pf)(g:iF C pf f fn code){args:zc}(h:zz C fn args=some (.v (.bool true)))(p:args.length≤fn.ntmps){w:World}{vs:List Value}(i:w.ShapedOpen C.P)(a:∀t∈Kd,B0 w (fun b=>b<w.heap.size) t)(q:Zip (wT w (fun b=>b<w.heap.size)) args vs) :
  Calls C.P f vs.toArray w fun e m=>e=.returned (.bool true)∧Below w.heap.size w m:=by
 unfold zz at h;split at h
 ·rename_i x s u j;obtain⟨⟨r,Y2⟩,l,n⟩:=zX h;simp only at n;subst n;refine(xq o g j p (fun _ y=>y) (Ln.Tk i a) q).mono fun e m z=>?_
  obtain⟨v,E,F,A,c,d,B,_⟩:=z;obtain⟨G,_,D⟩:=KZ (dr:=dr) d l B;obtain⟨rfl,_⟩:=D.yH;exact⟨A,c.os,c.tape,c.output,c.size,fun k g=>c.block k g fun h=>h⟩
 ·cases h
end
end Go.AM
namespace Go.AM
variable{dr:Prop}
attribute [congr] Ce Cf
attribute [simp] OP OQ Uk LS c8 OR LU Ul OU OT F2 F4 Cg uD LR F5 pJ F6 fc
 pK F7 Cj Cl OV
@[simp]theorem zgi(K:Exit→St→Prop)(st:St):Jr K st=K .normal st:=rfl
@[simp]theorem Uo(id i:Nat)(K:Exit→St→Prop)(st:St)(h:¬i=id):JS id K (.exit i) st=K (.exit i) st:=by simp[JS,h]
@[simp]theorem jd{α:Type}(f:Nat→α)(k:Nat)(x:α):qZ f k x k=x:=by simp[qZ]
@[simp]theorem zw{α:Type}(f:Nat→α)(k i:Nat)(x:α)(h:¬i=k):qZ f k x i=f i:=by simp[qZ,h]
@[simp]theorem zgj(a:Nat→O)(d:Nat)(x:O):put a (some d) x=qZ a d x:=rfl
@[simp]theorem zgk(a:Nat→O)(x:O):put a none x=a:=rfl
@[simp]theorem zeV(args:zc)(t:Nat):ve args t=(args[t]?).getD (.yb []):=rfl
@[simp]theorem zii(a:Nat→O)(t:Nat):get a (.tmp t)=some (a t):=rfl
@[simp]theorem O0(a:Nat→O)(f:Nat):get a (.func f)=some (.fn (.func f) [] []):=rfl
@[simp]theorem zij(a:Nat→O)(k:IntKind)(n:Int):get a (.const (.int k n))=some (.v (.int k n)):=rfl
@[simp]theorem zgl(a:Nat→O)(b:Bool):get a (.const (.bool b))=some (.v (.bool b)):=rfl
@[simp]theorem zik(a:Nat→O)(s:ByteArray):get a (.const (.string s))=some (.v (.string s)):=rfl
@[simp]theorem zil(a:Nat→O):get a (.const (.slice none 0 0))=some .nil:=rfl
@[simp]theorem zcp(a:Nat→O):get a (.const .nilFunc)=some (.v .nilFunc):=rfl
@[simp]theorem zim(a:Nat→O)(cs:Array Value):get a (.const (.agg cs))=(xb cs.toList).map .agg:=rfl
@[simp]theorem zdj(C:Ctx)(b:Array Oper)(d:Option Tmp)(op:Op)(t:TypeId)(p:String)(c:Array Edge)(a:St):jn C b ⟨d,op,t,p,c,none⟩ a =
  (qt C (get a.σ) a.Y a.Z op).map fun r=>⟨put a.σ d r.1,r.2.1,r.2.2⟩:=OW C b d op t p c a
def ZF(C:Ctx)(d:Option Tmp)(op:Op)(a:St)(y:Option Bool)(b:Bool):Option St:=
 if y=some b then(qt C (get a.σ) a.Y a.Z op).map fun r=>⟨put a.σ d r.1,r.2.1,r.2.2⟩else some ⟨put a.σ d (.yb []),a.Y,a.Z⟩
theorem uG{C:Ctx}{d:Option Tmp}{op:Op}{a:St}{y c:Option Bool}{b:Bool}(h:y=c):ZF C d op a y b=ZF C d op a c b:=by rw[h]
@[simp]theorem zdk(C:Ctx)(c:Array Oper)(d:Option Tmp)(op:Op)(t:TypeId)(p:String)(e:Array Edge)(j:Nat)(b:Bool)(a:St):jn C c ⟨d,op,t,p,e,some (j,b)⟩ a =
  ZF C d op a (Q4 c a.σ j) b:=by
 unfold jn ZF Region.wanted;simp only[eO];split
 ·cases qt C (get a.σ) a.Y a.Z op<;>rfl
 ·rfl
@[simp]theorem zeW(C:Ctx)(d:Option Tmp)(op:Op)(a:St)(b:Bool):ZF C d op a (some b) b=(qt C (get a.σ) a.Y a.Z op).map fun r=>⟨put a.σ d r.1,r.2.1,r.2.2⟩:=by simp[ZF]
@[simp]theorem zgm(C:Ctx)(d:Option Tmp)(op:Op)(a:St):ZF C d op a (some true) false=some ⟨put a.σ d (.yb []),a.Y,a.Z⟩:=by simp[ZF]
@[simp]theorem zgn(C:Ctx)(d:Option Tmp)(op:Op)(a:St):ZF C d op a (some false) true=some ⟨put a.σ d (.yb []),a.Y,a.Z⟩:=by simp[ZF]
@[simp]theorem zdl(C:Ctx)(d:Option Tmp)(op:Op)(a:St)(b:Bool):ZF C d op a none b=some ⟨put a.σ d (.yb []),a.Y,a.Z⟩:=by simp[ZF]
attribute [congr] uG
def Xj:O→Option Bool
 | .v (.bool b)=>some b
 |_=>none
@[simp]theorem zcq(b:Bool):Xj (.v (.bool b))=some b:=rfl
@[simp]theorem zdm(l:zc):Xj (.yb l)=none:=rfl
def Gb(a:Nat→O):Option Nat→Option Bool
 |some d=>Xj (a d)
 |none=>none
@[simp]theorem zcr(a:Nat→O)(d:Nat):Gb a (some d)=Xj (a d):=rfl
@[simp]theorem zeX(a:Array Oper)(b:Nat→O)(j:Nat):Q4 a b j=Gb b ((a[j]?).bind (·.dst)):=by
 unfold Q4 Gb Xj;cases (a[j]?).bind (·.dst)with
 |none=>rfl
 |some d=>rfl
section
variable(C:Ctx)(ρ:Operand→Option O)(Y:Hp)(Z:Nat)
@[simp]theorem Up(x:Operand):qt C ρ Y Z (.move x)=(ρ x).map fun y=>(y,Y,Z):=rfl
@[simp]theorem LY(x:Operand):qt C ρ Y Z (.assign x)=(ρ x).map fun y=>(y,Y,Z):=rfl
def YP(c a b:Option O):Option O:=match c with
 |some (.v (.bool true))=>a
 |some (.v (.bool false))=>b
 |_=>none
@[simp]theorem zdn(a b:Option O):YP (some (.v (.bool true))) a b=a:=rfl
@[simp]theorem zcs(a b:Option O):YP (some (.v (.bool false))) a b=b:=rfl
@[simp]theorem Uq(c a b:Operand):qt C ρ Y Z (.pick c a b)=(YP (ρ c) (ρ a) (ρ b)).map fun y=>(y,Y,Z):=by
 unfold YP;simp only[qt];generalize ρ c=o;cases o with
 |none=>rfl
 |some p=>cases p<;>(try rfl);rename_i x;cases x<;>(try rfl);rename_i t;cases t<;>rfl
@[simp]theorem zdo(op:BinOp)(t a:TypeId)(x y:Operand):qt C ρ Y Z (.binOp op t x y a)=(do let p ←ρ x;let q ←ρ y;let r ←Xa (isK y) C.P op t p q;some (r,Y,Z)):=by simp only[qt];cases ρ x<;>cases ρ y<;>(try rfl);simp;cases Xa (isK y) C.P op t _ _<;>rfl
@[simp]theorem zgo(op:UnOp)(t:TypeId)(x:Operand):qt C ρ Y Z (.unOp op t x)=(do let p ←ρ x;let r ←TV op p;some (r,Y,Z)):=by simp only[qt];cases ρ x<;>(try rfl);simp;cases TV op _<;>rfl
@[simp]theorem Ur(s d:TypeId)(x:Operand):qt C ρ Y Z (.convert s d x)=(do let p ←ρ x;let r ←a7 C.P s d p;some (r,Y,Z)):=by simp only[qt];cases ρ x<;>(try rfl);simp;cases a7 C.P s d _<;>rfl
@[simp]theorem Us(t:TypeId)(x:Operand):qt C ρ Y Z (.load t x)=(do let p ←ρ x;let r ←xU C.P Y t p;some (r,Y,Z)):=by simp only[qt];cases ρ x<;>(try rfl);simp;cases xU C.P Y t _<;>rfl
@[simp]theorem zgp(t:TypeId)(a x:Operand):qt C ρ Y Z (.store t a x)=(do let p ←ρ a;let q ←ρ x;let h ←Q2 C.P Y t p q;some (.yb [],h,Z)):=by simp only[qt];cases ρ a<;>cases ρ x<;>(try rfl);simp;cases Q2 C.P Y t _ _<;>rfl
@[simp]theorem uH(t:TypeId)(x:Operand)(f:Nat):qt C ρ Y Z (.fieldAddr t x f)=(do let p ←ρ x;let r ←jj C.P t f p;some (r,Y,Z)):=by simp only[qt];cases ρ x<;>(try rfl);simp;cases jj C.P t f _<;>rfl
@[simp]theorem O1(t:TypeId)(x:Operand)(f:Nat):qt C ρ Y Z (.field t x f)=(do let p ←ρ x;let r ←Qe C.P t f p;some (r,Y,Z)):=by simp only[qt];cases ρ x<;>(try rfl);simp;cases Qe C.P t f _<;>rfl
@[simp]theorem uI(t:TypeId)(x i:Operand):qt C ρ Y Z (.indexAddr t x i)=(do let p ←ρ x;let q ←ρ i;let r ←wb C.P Y t p q;some (r,Y,Z)):=by simp only[qt];cases ρ x<;>cases ρ i<;>(try rfl);simp;cases wb C.P Y t _ _<;>rfl
@[simp]theorem O2(t:TypeId)(x i:Operand):qt C ρ Y Z (.index t x i)=(do let p ←ρ x;let q ←ρ i;let r ←Q3 C.P t p q;some (r,Y,Z)):=by simp only[qt];cases ρ x<;>cases ρ i<;>(try rfl);simp;cases Q3 C.P t _ _<;>rfl
@[simp]theorem O3(t:TypeId)(x:Operand)(lo a:Option Operand):qt C ρ Y Z (.slice t x lo a none)=(do let p ←ρ x;let r ←js C.P Y t p (lo.map ρ) (a.map ρ);some (r,Y,Z)):=by simp only[qt];cases ρ x<;>(try rfl);simp;cases js C.P Y t _ _ _<;>rfl
@[simp]theorem Ut(t:TypeId)(l c:Operand):qt C ρ Y Z (.makeSlice t l c)=(do let p ←ρ l;let q ←ρ c;YN C.P Y Z t p q):=by simp only[qt];cases ρ l<;>cases ρ c<;>rfl
def Kh(i:Nat):O→Option O
 | .yb vs=>vs[i]?
 |_=>none
@[simp]theorem Uu(i:Nat)(vs:zc):Kh i (.yb vs)=vs[i]?:=rfl
@[simp]theorem Gc(x:Operand)(i:Nat):qt C ρ Y Z (.extract x i)=(do let p ←ρ x;let r ←Kh i p;some (r,Y,Z)):=by
 simp only[qt];cases ρ x with
 |none=>rfl
 |some p=>cases p<;>(try rfl);simp[Kh];rename_i vs;cases vs[i]?<;>rfl
@[simp]theorem zgq(t:TypeId):qt C ρ Y Z (.alloc t)=(do let n ←q8 C.P t;let z ←jr C.P t;if 0<n∧z.length=n then some (.ref Z 0 0,qZ Y Z (some ⟨t,n,false,[z]⟩),Z+1)else none):=by simp only[qt];cases q8 C.P t<;>cases jr C.P t<;>rfl
@[simp]theorem zjl(t:TypeId)(x:Operand):qt C ρ Y Z (.box t x)=(do let n ←q8 C.P t;let y ←ρ x;if 0<n∧y.cells.length=n∧y.cells.all O.wY=true then some (.ref Z 0 0,qZ Y Z (some ⟨t,n,false,[y.cells]⟩),Z+1)else none):=by simp only[qt];cases q8 C.P t<;>cases ρ x<;>rfl
@[simp]theorem zgr(t:TypeId)(ps:Array (Nat×Operand)):qt C ρ Y Z (.build t ps)=(do let q ←vM ρ ps.toList;let r ←zR C.P t q;some (r,Y,Z)):=by simp only[qt];cases vM ρ ps.toList<;>(try rfl);simp;cases zR C.P t _<;>rfl
@[simp]theorem TW(t:TypeId)(n:Nat)(ps:Array (Nat×Operand)):qt C ρ Y Z (.buildSlice t n ps)=(do let q ←vM ρ ps.toList;zv C.P Y Z t n q):=by simp only[qt];cases vM ρ ps.toList<;>rfl
@[simp]theorem zct(f:Fn)(a b:Array Operand):qt C ρ Y Z (.makeFunc f a b)=(do let p ←yS (a.toList.map ρ);let q ←yS (b.toList.map ρ);some (.fn f p q,Y,Z)):=by simp only[qt];cases yS (a.toList.map ρ)<;>cases yS (b.toList.map ρ)<;>rfl
@[simp]theorem Uv(f:Operand)(args:Array Operand)(ts:Array TypeId):qt C ρ Y Z (.call {callee:=.value f,args:=args,argTypes:=ts})=(do let xs ←yS (args.toList.map ρ);jQ C Y Z (ρ f) xs):=by simp only[qt,ZK];cases yS (args.toList.map ρ)<;>rfl
@[simp]theorem Gd(b:Builtin)(args:Array Operand)(ts:Array TypeId):qt C ρ Y Z (.call {callee:=.builtin b,args:=args,argTypes:=ts})=(do let xs ←yS (args.toList.map ρ);yQ C.P Y Z ts b xs):=by simp only[qt,ZK];cases yS (args.toList.map ρ)<;>rfl
end
@[simp]theorem zcu{α:Type}:yS ([]:List (Option α))=some []:=rfl
@[simp]theorem Uw{α:Type}(x:α)(l:List (Option α)):yS (some x::l)=(yS l).map (x::·):=rfl
@[simp]theorem zeY(ρ:Operand→Option O):vM ρ []=some []:=rfl
@[simp]theorem zdp(ρ:Operand→Option O)(i:Nat)(x:Operand)(l:List (Nat×Operand)):vM ρ ((i,x)::l)=(do let p ←ρ x;let r ←vM ρ l;some ((i,p)::r)):=by simp only[vM];cases ρ x<;>cases vM ρ l<;>rfl
theorem Ge(C:Ctx)(Y:Hp)(Z g:Nat)(first a xs:zc)(b:AM.Spec)(h:C.Γ g=some b):jQ C Y Z (some (.fn (.func g) first a)) xs=b (first++xs++a) Y Z:=by simp[jQ,h]
section
variable(P:Program)(Y:Hp)(Z:Nat)(t:TypeId)
@[simp]theorem zin(op:BinOp)(k:IntKind)(a b:Int):jP P op t (.v (.int k a)) (.v (.int k b))=Oo op k a b:=by simp[jP]
@[simp]theorem zio(op:BinOp)(a b:ByteArray):jP P op t (.v (.string a)) (.v (.string b))=Oq op a b:=rfl
@[simp]theorem zjm(b:Bool):TV .not (.v (.bool b))=some (.v (.bool !b)):=rfl
@[simp]theorem zjn(k:IntKind)(n:Int):TV .neg (.v (.int k n))=some (.v (.int k (k.wrap (0-n)))):=rfl
@[simp]theorem zgs(cs:zc):xU P Y t (.ptr cs)=zV P t cs:=rfl
@[simp]theorem zgt(id i j:Nat):xU P Y t (.ref id i j)=(do let b ←Y id;let c ←b.es[i]?;zV P t (c.drop j)):=by
 simp only[xU];cases Y id with
 |none=>rfl
 |some b=>simp;cases b.es[i]?<;>rfl
@[simp]theorem TX(f:Nat)(cs:zc):jj P t f (.ptr cs)=(do let q ←wu P t f;if q.2.1=0 then none else some (.ptr (cs.drop q.1))):=by simp only[jj];cases wu P t f<;>rfl
@[simp]theorem TY(f id i j:Nat):jj P t f (.ref id i j)=(do let q ←wu P t f;if q.2.1=0 then none else some (.ref id i (j+q.1))):=by simp only[jj];cases wu P t f<;>rfl
@[simp]theorem ziq(s:ByteArray):Qr P t (.v (.string s))=match P.underlying t with|some .string=>some (.v (.int .i64 s.size))|_=>none:=rfl
@[simp]theorem zjo(s:Nat)(es:List zc):Qr P t (.sl s es)=(yK P t).map fun _=>.v (.int .i64 es.length):=rfl
@[simp]theorem zir:Qr P t .nil=(yK P t).map fun _=>.v (.int .i64 0):=rfl
@[simp]theorem zis(id off n:Nat):Qr P t (.own id off n)=(yK P t).map fun _=>.v (.int .i64 n):=rfl
theorem sv(i:Int)(x:O)(d:∀cs,x≠.ptr cs)(e:∀a b c,x≠.ref a b c):Zu P t i x=none:=by
 unfold Zu;split
 ·split
  ·split
   ·split
    ·exact absurd rfl (d _)
    ·exact absurd rfl (e _ _ _)
    ·rfl
   ·rfl
  ·rfl
 ·rfl
@[simp]theorem zgu(s:Nat)(es:List zc)(k:IntKind)(i:Int):wb P Y t (.sl s es) (.v (.int k i))=(do let e ←yK P t;let n ←q8 P e;if s=n∧0<n∧0≤i then(es[i.toNat]?).map .ptr else none):=by
 simp only[wb];cases yK P t with
 |none=>exact(sv P t i _ (fun _=>by simp) (fun _ _ _=>by simp)).trans rfl
 |some e=>simp;cases q8 P e<;>rfl
@[simp]theorem zeZ(id off n:Nat)(k:IntKind)(i:Int):wb P Y t (.own id off n) (.v (.int k i))=(do let e ←yK P t;let m ←q8 P e;let b ←Y id;if b.e=e∧0<m∧0≤i∧i.toNat<n then some (.ref id (off+i.toNat) 0)else none):=by
 simp only[wb];cases yK P t with
 |none=>exact(sv P t i _ (fun _=>by simp) (fun _ _ _=>by simp)).trans rfl
 |some e=>simp;cases q8 P e<;>(try rfl);simp;cases Y id<;>rfl
end
@[simp]theorem Ux(P:Program)(Y:Hp)(Z:Nat)(ts:Array TypeId)(x:O):yQ P Y Z ts .len [x]=(do let t ←ts[0]?;let y ←Qr P t x;some (y,Y,Z)):=by
 simp only[yQ];cases ts[0]? with
 |none=>rfl
 |some t=>simp;cases Qr P t x<;>rfl
@[simp]theorem Uy(P:Program)(Y:Hp)(Z:Nat)(ts:Array TypeId)(xs:zc):yQ P Y Z ts .min xs=(Ot xs).map fun y=>(y,Y,Z):=rfl
@[simp]theorem Uz(P:Program)(Y:Hp)(Z:Nat)(ts:Array TypeId)(xs:zc):yQ P Y Z ts .max xs=(Ou xs).map fun y=>(y,Y,Z):=rfl
@[simp]theorem zdq(P:Program)(Y:Hp)(Z:Nat)(ts:Array TypeId)(s x:O):yQ P Y Z ts .append [s,x]=(do let t ←ts[0]?;let u ←ts[1]?;wU P Y Z t u s x):=by simp only[yQ];cases ts[0]?<;>cases ts[1]?<;>rfl
@[simp]theorem ze0(P:Program)(Y:Hp)(n:Nat)(e t u:TypeId)(i o k:Nat):Xb P Y n e t u (.own i o k)=if u=t then view Y n (.own i o k)else none:=rfl
@[simp]theorem zgv(P:Program)(Y:Hp)(n:Nat)(e t u:TypeId)(k:Nat)(es:List zc):Xb P Y n e t u (.sl k es)=if u=t then view Y n (.sl k es)else none:=rfl
@[simp]theorem ze1(P:Program)(Y:Hp)(n:Nat)(e t u:TypeId):Xb P Y n e t u .nil=if u=t then view Y n .nil else none:=rfl
@[simp]theorem zgw(P:Program)(Y:Hp)(n:Nat)(e t u:TypeId):Xb P Y n e t u .em=if u=t then view Y n .em else none:=rfl
@[simp]theorem zfa(P:Program)(Y:Hp)(n:Nat)(e t u:TypeId)(b:ByteArray):Xb P Y n e t u (.v (.string b))=if Uf P u=true∧Ie P e=true then some (b.data.toList.map fun c=>[.v (.int .u8 c.toNat)])else none:=rfl
@[simp]theorem zfb(P:Program)(Y:Hp)(Z:Nat)(ts:Array TypeId)(x:O):yQ P Y Z ts .clear [x]=(do let t ←ts[0]?;eY P Y Z t x):=by simp only[yQ];cases ts[0]?<;>rfl
@[simp]theorem zgx(P:Program)(Y:Hp)(Z:Nat)(ts:Array TypeId)(s x:O):yQ P Y Z ts .copy [s,x]=(do let t ←ts[0]?;Ig P Y Z t s x):=by simp only[yQ];cases ts[0]?<;>rfl
attribute [simp] Ot ag Ou ah Oo Oq jt WA Jn
@[simp]theorem zfc(cs:zc):O.cells (.agg cs)=cs:=rfl
@[simp]theorem zfd(cs:zc):O.cells (.yb cs)=[.yb cs]:=rfl
@[simp]theorem zit(x:Value):O.cells (.v x)=[.v x]:=rfl
@[simp]theorem zfe:O.cells .nil=[.nil]:=rfl
@[simp]theorem zgy:O.cells .em=[.em]:=rfl
@[simp]theorem zgz(s:Nat)(es:List zc):O.cells (.sl s es)=[.sl s es]:=rfl
@[simp]theorem zff(cs:zc):O.cells (.ptr cs)=[.ptr cs]:=rfl
@[simp]theorem zfg(i o n:Nat):O.cells (.own i o n)=[.own i o n]:=rfl
@[simp]theorem zfh(i o n:Nat):O.cells (.ref i o n)=[.ref i o n]:=rfl
@[simp]theorem zgA(f:Fn)(a b:zc):O.cells (.fn f a b)=[.fn f a b]:=rfl
@[simp]theorem zgB(x:Value):O.wY (.v x)=true:=rfl
@[simp]theorem zdr:O.wY .nil=true:=rfl
@[simp]theorem zfi:O.wY .em=true:=rfl
@[simp]theorem zfj(s:Nat)(es:List zc):O.wY (.sl s es)=true:=rfl
@[simp]theorem zds(cs:zc):O.wY (.ptr cs)=true:=rfl
@[simp]theorem zdt(i o n:Nat):O.wY (.own i o n)=true:=rfl
@[simp]theorem zdu(i o n:Nat):O.wY (.ref i o n)=true:=rfl
@[simp]theorem zfk(f:Fn)(a b:zc):O.wY (.fn f a b)=true:=rfl
@[simp]theorem zdv(cs:zc):O.wY (.agg cs)=false:=rfl
@[simp]theorem zdw(cs:zc):O.wY (.yb cs)=false:=rfl
attribute [simp] we qf zA qU AM.freeze O.flat O.isV O.noOwn
@[simp]theorem UA(i o n:Nat):O.vK (.own i o n)=true:=rfl
@[simp]theorem zdx(x:Value):O.vK (.v x)=false:=rfl
@[simp]theorem UB:O.vK .nil=false:=rfl
@[simp]theorem zcv:O.vK .em=false:=rfl
@[simp]theorem zcw(s:Nat)(es:List zc):O.vK (.sl s es)=false:=rfl
@[simp]theorem UC(cs:zc):O.vK (.ptr cs)=false:=rfl
@[simp]theorem UD(i o n:Nat):O.vK (.ref i o n)=false:=rfl
@[simp]theorem zcx(f:Fn)(a b:zc):O.vK (.fn f a b)=false:=rfl
@[simp]theorem ziu{α:Type}(f:Nat→α)(k:Nat)(x y:α):qZ (qZ f k x) k y=qZ f k y:=by funext i;simp only[qZ];split<;>rfl
@[simp]theorem zfl(P:Program)(Y:Hp)(t:TypeId)(id i j:Nat)(x:O):Q2 P Y t (.ref id i j) x=(do
  let a ←Y id;let q ←(if a.arr=true then qf Y x else some (x,Y));let b ←q.2 id;let n ←q8 P t;let c ←b.es[i]?
  if q.1.cells.length=n∧j+n≤c.length∧q.1.cells.all O.wY=true then some (qZ q.2 id (some ⟨b.e,b.s,b.arr,b.es.set i (jt c j q.1.cells)⟩))else none):=by
 simp only[Q2];cases Y id with
 |none=>rfl
 |some a=>
  simp only[Option.bind_eq_bind,zS];generalize (if a.arr=true then qf Y x else some (x,Y))=o;cases o with
  |none=>rfl
  |some q=>
   obtain⟨y,d⟩:=q;simp only[zS];cases d id with
   |none=>rfl
   |some b=>
    simp only[zS];cases q8 P t with
    |none=>rfl
    |some n=>simp only[zS];cases b.es[i]?<;>rfl
@[simp]theorem ziv(x y:Value)(Y:Hp)(Z:Nat):wH (.v y) (.v x) Y Z=(x=y):=by simp[wH]
def VV:O→Int
 | .v (.int _ n)=>n
 |_=>0
@[simp]theorem zfm(k:IntKind)(n:Int):VV (.v (.int k n))=n:=rfl
theorem zn{n:Int}(a:-9223372036854775808≤n)(b:n≤9223372036854775807):IntKind.i64.wrap n=n:=by rw[vI];omega
variable{dr:Prop}
open Classical in
noncomputable def qv {α b:Type} (V:α→zc) (pre:α→Prop) (out:α→b):zc→Option b:=fun args=>
 if h:∃a,args=V a∧pre a then some (out (Classical.choose h))else none
theorem zJ{α e:Type}{V:α→zc}{pre:α→Prop}{out:α→e}(d:∀a b,V a=V b→a=b){a:α}(h:pre a):qv V pre out (V a)=some (out a):=by have c:∃b,V a=V b∧pre b:=⟨a,rfl,h⟩;unfold qv;rw[zjj c];have:=jN c;rw[←d _ _ this.1]
theorem zr{α c:Type}{V:α→zc}{pre:α→Prop}{out:α→c}{args:zc}{r:c}(h:qv V pre out args=some r):∃a,args=V a∧pre a∧r=out a:=by
 unfold qv at h;split at h
 ·rename_i b;injection h with h
  have:=jN b;exact⟨_,this.1,this.2,h.symm⟩
 ·cases h
abbrev Jg:=List (Nat×AM.Spec)
def lookup:Jg→Nat→Option AM.Spec
 |[],_=>none
 |(k,s)::l,g=>if g=k then some s else lookup l g
@[simp]theorem gI(k:Nat)(s:AM.Spec)(l:Jg)(g:Nat):lookup ((k,s)::l) g=if g=k then some s else lookup l g:=rfl
def qb(P:Program)(l:Jg):Ctx:=⟨P,lookup l,fun _=>[],fun _=>[],fun _=>false,fun _=>[],fun _=>none⟩
@[simp]theorem zfn(P:Program)(l:Jg)(i:Nat):(qb P l).dyn i=[]:=rfl
@[simp]theorem TZ(P:Program)(l:Jg)(i:Nat)(a:Array Oper)(d:Bool)(b:St)(K:Exit→St→Prop):Zf (qb P l) (.region i a d) b K=sq (qb P l) a a.toList b (Jr K):=Q6 _ i a d b K rfl rfl
def K9(P:Program)(l:Jg)(a:Nat→List (Tmp×Tmp)):Ctx:=⟨P,lookup l,a,fun _=>[],fun _=>false,fun _=>[],fun _=>none⟩
@[simp]theorem zgC(P:Program)(l:Jg)(a:Nat→List (Tmp×Tmp)):(K9 P l a).P=P:=rfl
@[simp]theorem ziw(P:Program)(l:Jg):(qb P l).P=P:=rfl
@[simp]theorem zix(P:Program)(l:Jg)(Y:Hp)(Z g:Nat)(a b xs:zc):jQ (qb P l) Y Z (some (.fn (.func g) a b)) xs=(lookup l g).bind fun s=>s (a++xs++b) Y Z:=by unfold jQ qb;simp only;cases lookup l g<;>rfl
@[simp]theorem zgD(P:Program)(l:Jg)(c:Nat→List (Tmp×Tmp))(Y:Hp)(Z g:Nat)(a b xs:zc):jQ (K9 P l c) Y Z (some (.fn (.func g) a b)) xs=(lookup l g).bind fun s=>s (a++xs++b) Y Z:=by unfold jQ K9;simp only;cases lookup l g<;>rfl
def Ct(dr:Prop)(P:Program)(q:List Nat):Jg→Prop
 |[]=>True
 |(g,s)::l=>km dr P g s∧(q.contains g=true→W9 s)∧Ct dr P q l
theorem zI{P:Program}{l:Jg}{q:List Nat}(c:P.follows .mixedOrders=true)(h:Ct dr P q l):Yj dr (qb P l) (fun g=>q.contains g):=by
 have a:∀(l:Jg),Ct dr P q l→∀g s,lookup l g=some s→km dr P g s∧(q.contains g=true→W9 s):=by
  intro l
  induction l with
  |nil=>intro _ g s h;cases h
  |cons x l d=>
   obtain⟨k,sp⟩:=x;rintro⟨e,f,i⟩ g s hs;simp only[gI]at hs;split at hs
   ·rename_i b;injection hs with hs
    subst hs;subst b;exact⟨e,f⟩
   ·exact d i g s hs
 exact⟨fun g s hs=>(a l h g s hs).1,fun g s j hs=>(a l h g s hs).2 j,c,(fun _ _ h=>by cases h),(fun _ _ h=>by cases h)⟩
theorem Cu{P:Program}{l:Jg}{q:List Nat}(a:Nat→List (Tmp×Tmp))(b:P.follows .mixedOrders=true)(h:Ct dr P q l):Yj dr (K9 P l a) (fun g=>q.contains g):=
 let g:=zI b h
 ⟨g.spec,g.quiet,g.mixed,(fun _ _ h=>by cases h),(fun _ _ h=>by cases h)⟩
def VW(r:O)(x:O)(Y:Hp)(_:Nat):Prop:=∃a,(AM.freeze Y x).map (·.1)=some a∧gH a r
theorem xr{C:Ctx}{fn:Func}{code:Code}{args:zc}{r:O}(b:fn.body=some code)
  (h:Zf C code ⟨ve args,fun _=>none,0⟩ (JT C.P fn (VW r))):∃a,zz C fn args=some a∧gH a r:=by
 obtain⟨x,Y',f,c,a,d,e⟩:=zT b h;exact⟨a,by unfold zz;simp only[c];exact d,e⟩
theorem qm(x:O):gH x x:=by
 unfold gH;split
 ·exact⟨rfl,fun j x y b a=>by rw[b]at a;injection a with a;exact .inl a⟩
 ·exact .inl rfl
theorem zlT{C:Ctx}{fn:Func}{code:Code}{args:zc}{Y:Hp}{Z:Nat}{r:Option jz}(b:fn.body=some code)
  (h:Zf C code ⟨ve args,Y,Z⟩ (JT C.P fn (kd r))):∃x Y' a,yr C fn args Y Z=some (x,Y',a)∧kd r x Y' a:=zT b h
def q6(Y:Hp)(Z:Nat)(e s:Nat)(v:O)(xs:List zc):Prop:=(v=.nil∧xs=[])∨∃id,id<Z∧v=.own id 0 xs.length∧Y id=some ⟨e,s,true,xs⟩
def ZD(v:O)(Y:Hp):Hp:=match v with
 | .own id _ _=>qZ Y id none
 |_=>Y
theorem q6.nil(Y:Hp)(Z e s:Nat):q6 Y Z e s .nil []:=.inl ⟨rfl,rfl⟩
theorem q6.own{Y:Hp}{Z e s id:Nat}{xs:List zc}(a:id<Z)(b:Y id=some ⟨e,s,true,xs⟩):q6 Y Z e s (.own id 0 xs.length) xs:=.inr ⟨id,a,rfl,b⟩
theorem q6.len{P:Program}{Y:Hp}{Z e s:Nat}{v:O}{xs:List zc}{t:TypeId}(h:q6 Y Z e s v xs)(a:yK P t=some e):Qr P t v=some (.v (.int .i64 xs.length)):=by rcases h with⟨rfl,rfl⟩|⟨id,_,rfl,_⟩<;>simp[a]
theorem q6.view{Y:Hp}{Z e s:Nat}{v:O}{xs:List zc}(h:q6 Y Z e s v xs):view Y s v=some xs:=by rcases h with⟨rfl,rfl⟩|⟨id,_,rfl,h⟩<;>simp[AM.view, *]
theorem q6.yx{P:Program}{Y:Hp}{Z e s a:Nat}{v:O}{xs:List zc}{c z:zc}{t:TypeId}(h:q6 Y Z e s v xs)(i:yK P t=some e)(hs:q8 P e=some s)(j:kr P e=some a)(k:jr P e=some z)
  (b:z.length=s) (l:0<s) (d:xs.length+1≤maxLen) (f:(xs.length+1)*a≤140737488355328) :
  wU P (qZ Y Z (some ⟨e,s,true,[c]⟩)) (Z+1) t t v (.own Z 0 1) =
   some (.own (Z+1) 0 (xs.length+1),qZ (ZD v (qZ Y Z (some ⟨e,s,true,[c]⟩))) (Z+1) (some ⟨e,s,true,xs++[c]⟩),Z+2):=by
 rcases h with⟨rfl,rfl⟩|⟨id,hid,rfl,m⟩
 ·simp at d f;simp[wU,i,hs,j,k,b,l,d,f,AM.view,ZD]
 ·have g:¬id=Z:=by omega
  simp[wU,i,hs,j,k,b,l,d,f,AM.view,ZD,g,m]
theorem q6.after{Y:Hp}{Z e s:Nat}{v:O}{xs:List zc}{c:zc}{tmp:Option jz}:q6 (qZ (ZD v (qZ Y Z tmp)) (Z+1) (some ⟨e,s,true,xs++[c]⟩)) (Z+2) e s (.own (Z+1) 0 (xs.length+1)) (xs++[c]):=
 .inr ⟨Z+1,by omega,by simp,by simp⟩
theorem yt{Y:Hp}{Z e s:Nat}{v:O}{xs:List zc}(h:q6 Y Z e s v xs)(Y':Hp)(id:Nat)(a:∀n,v≠.own id 0 n):ZD v Y' id=Y' id:=by
 rcases h with⟨rfl,rfl⟩|⟨k,b,rfl,c⟩
 ·rfl
 ·have:¬id=k:=fun e=>a _ (by rw[e])
  simp[ZD,this]
theorem q6.ret{Y:Hp}{Z e s:Nat}{v:O}{xs:List zc}(h:q6 Y Z e s v xs)(a:Nat):kd (match v with|.nil=>none|_=>some ⟨e,s,true,xs⟩) v Y a:=by
 rcases h with⟨rfl,rfl⟩|⟨id,hid,rfl,b⟩
 ·rfl
 ·exact⟨id,rfl,b,rfl⟩
theorem q6.freeze{Y:Hp}{Z e s:Nat}{v:O}{xs:List zc}(h:q6 Y Z e s v xs)(a:Nat):VW (.sl s xs) v Y a:=by
 rcases h with⟨rfl,rfl⟩|⟨id,hid,rfl,b⟩
 ·exact⟨.nil,by simp,.inr ⟨rfl,s,rfl⟩⟩
 ·exact⟨.sl s xs,by simp[b],qm _⟩
theorem y7{α c:Type}{f:α→c}(h:∀a b,f a=f b→a=b):∀{xs ys:List α},xs.map f=ys.map f→xs=ys
 |[],[],_=>rfl
 |[],y::ys,e=>by simp at e
 |x::xs,[],e=>by simp at e
 |x::xs,y::ys,e=>by simp at e;rw[h x y e.1,y7 h e.2]
def UE(I:Nat→(Nat→O)→Hp→Nat→Prop)(n k:Nat)(K:Exit→St→Prop)(e:Exit)(a:St):Prop:=match e with
 | .normal=>k+1≤n∧I (k+1) a.σ a.Y a.Z
 |e=>K e a
@[simp]theorem zcy(I:Nat→(Nat→O)→Hp→Nat→Prop)(n k:Nat)(K:Exit→St→Prop)(a:St):UE I n k K .normal a=(k+1≤n∧I (k+1) a.σ a.Y a.Z):=rfl
@[simp]theorem zgE(I:Nat→(Nat→O)→Hp→Nat→Prop)(n k:Nat)(K:Exit→St→Prop)(st:St):UE I n k K .ret st=K .ret st:=rfl
@[simp]theorem zfo(I:Nat→(Nat→O)→Hp→Nat→Prop)(n k i:Nat)(K:Exit→St→Prop)(st:St):UE I n k K (.exit i) st=K (.exit i) st:=rfl
theorem zQ{C:Ctx}{b:Code}{a:St}{K:Exit→St→Prop}(I:Nat→(Nat→O)→Hp→Nat→Prop)(n:Nat)(m:I 0 a.σ a.Y a.Z)
  (c:∀k l Y Z,k≤n→I k l Y Z→Zf C b ⟨l,Y,Z⟩ (UE I n k K)):Zf C (.loop b) a K:=by
 have g:∀d k a,n-k=d→k≤n→I k a.σ a.Y a.Z→Zf C (.loop b) a K:=by
  intro d
  induction d with
  |zero=>
   intro k a hd i j;rw[zW];refine(c k a.σ a.Y a.Z i j).mono fun e f h=>?_
   cases e
   case normal=>have:=h.1;omega
   all_goals exact h
  |succ d o=>
   intro k a hd i j;rw[zW];refine(c k a.σ a.Y a.Z i j).mono fun e f h=>?_
   cases e
   case normal=>exact o (k+1) f (by omega) h.1 h.2
   all_goals exact h
 exact g _ 0 a rfl (kD _) m
end Go.AM
