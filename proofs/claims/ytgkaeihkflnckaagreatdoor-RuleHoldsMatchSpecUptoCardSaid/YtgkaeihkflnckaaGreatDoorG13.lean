/- Lemmas. -/
import Derived.Deep.AppendSrc
import Derived.Maps.RangeRun
import Derived.Test.YtgkaeihkflnckaaGreatDoorG12
set_option maxRecDepth 100000
set_option maxHeartbeats 4000000
open Go Proofs Proofs.YtgkaeihkflnckaaGreatDoor Proofs.Tryz RowKit AM SpanLaw Q Zz
namespace Go.AM
variable{dr:Prop}
section
variable{C:Ctx}{pf:FuncId->Bool}{N:Nat}
def Wp(dr:Prop)(C:Ctx)(N:Nat)(c:Code)(st:St)(K:Exit->St->Prop):Prop:=
 ∀(d:World) (g L:Nat->Prop) (Z0:Nat) (h:Nat->GI) (f:Nat) (a:Act) (w:World) (Q:Exit->Act->World->Prop),f<=d.heap.size->iR dr C.P d g L N Z0 h f st a w ->
  (∀e b i w',K e b->iR dr C.P d g L N Z0 h f b i w'->Q e i w')->c.wpIn Fence.wide 0 C.P Q a w
theorem Wp.of(b:xa dr C pf){c:Code}{st:St}{K:Exit->St->Prop}(f:vL pf C.dyn C.Ns C.bk N c=true)(h:Zy C c st K):Wp dr C N c st K:=by obtain⟨e,d,i,j⟩:=h;intro k l L Z0 m n a w Q o hs p;exact l0 b.spec b.quiet b.box b.iter b.mixed c f Fence.wide 0 (.inl rfl) (.inl rfl) k l L Z0 m n st d e a w Q o i hs fun q w' g=>p e d q w' j g
theorem Wp.mono{c:Code}{st:St}{K f:Exit->St->Prop}(h:Wp dr C N c st K)(g:∀e b,K e b->f e b):Wp dr C N c st f:=
 fun i j L Z0 k l a w Q m hs n=>h i j L Z0 k l a w Q m hs fun e b o w' d=>n e b o w' (g e b d)
def Ir(dr:Prop)(C:Ctx)(N:Nat)(y:Code)(K:Exit->St->Prop)(e:Exit)(st:St):Prop:=match e with
 | .normal=>Wp dr C N y st K
 |e=>K e st
theorem Wp.seq{x y:Code}{st:St}{K:Exit->St->Prop}(h:Wp dr C N x st (Ir dr C N y K)):Wp dr C N (.seq x y) st K:=by
 intro c d L Z0 f g a w Q i hs j;refine wpIn_seq (h c d L Z0 f g a w _ i hs fun e l m w' k b=>?_);cases e<;>first
  |exact k c d L Z0 f g m w' Q i b j
  |exact j _ _ _ _ k b
theorem Wp.block{id:Nat}{b:Code}{st:St}{K:Exit->St->Prop}(h:Wp dr C N b st (WS id K)):Wp dr C N (.block id b) st K:=by
 intro j k L Z0 l m a w Q n hs f;refine wpIn_block (h j k L Z0 l m a w _ n hs fun e o p w' d c=>?_);cases e with
 |exit i=>
  unfold WS at d;unfold Exit.inBlock;simp only at d⊢;split at d
  ·rename_i g;rw[zd g];exact f _ _ _ _ d c
  ·rename_i g;rw[zc g];exact f _ _ _ _ d c
 |_=>exact f _ _ _ _ d c
def Ay(I:Nat->St->Prop)(n:Nat)(K:Exit->St->Prop)(e:Exit)(st:St):Prop:=match e with
 | .normal=>∃m,m<n/\I m st
 |e=>K e st
theorem Wp.loop{b:Code}{st:St}{K:Exit->St->Prop}(I:Nat->St->Prop)(n:Nat)(p:I n st)(h:∀n st,I n st->Wp dr C N b st (Ay I n K)):Wp dr C N (.loop b) st K:=by
 intro i j L Z0 l o a w Q q hs r;refine wpIn_loop_rounds (n+1) ?_;have f:∀(k n:Nat) (st:St) (a:Act) (w:World),n<k->I n st->iR dr C.P i j L N Z0 l o st a w->Code.roundsIn Fence.wide 0 C.P b Q k a w:=by
  intro k
  induction k with
  |zero=>intro n st a w s;omega
  |succ k t=>
   intro n st a w s hi hs;rw[roundsIn_succ];refine h n st hi i j L Z0 l o a w _ q hs fun e g u w' c d=>?_
   cases e with
   |normal=>obtain⟨m,x,v⟩:=c;exact t m g u w' (by omega) v d
   |_=>exact r _ _ _ _ c d
 exact f _ n st a w (by omega) p hs
def QH(dr:Prop)(C:Ctx)(N:Nat)(c:Array Oper)(l:List Nat)(st:St)(K:St->Prop):Prop:=
 ∀(d:World) (e L:Nat->Prop) (Z0:Nat) (f:Nat->GI) (g:Nat) (a:Act) (w:World) (Q:Exit->Act->World->Prop),iR dr C.P d e L N Z0 f g st a w ->
  (∀b h w',K b->iR dr C.P d e L N Z0 f g b h w'->Q .normal h w')->wpOpsIn Fence.wide 0 C.P c Q l a w
theorem Wp.region{id:Nat}{b:Array Oper}{st:St}{K:Exit->St->Prop}(h:QH dr C N b (List.range b.size) st (Y9 K)):Wp dr C N (.region id b false) st K:=
 fun e f L Z0 g i a w Q _ hs j=>wpIn_region (h e f L Z0 g i a w Q hs fun c k w' l d=>j .normal c k w' l d)
theorem QH.nil{b:Array Oper}{st:St}{K:St->Prop}(h:K st):QH dr C N b [] st K:=fun d e L Z0 f g a w Q hs c=>c st a w h hs
theorem QH.cons(J:xa dr C pf){k:Array Oper}{i:Nat}{o:Oper}{l:List Nat}{st st1:St}{K:St->Prop}(M:k[i]?=some o)(hd:∀d,o.dst=some d->d<N)(j:yN C k o st=some st1)(h:QH dr C N k l st1 K):QH dr C N k (i::l) st K:=by
 intro q r L Z0 s t a w Q hs u;simp only[wpOpsIn,M];obtain⟨S,G,m⟩:=hs;unfold yN at j;rw[Qm m.jQ];split at j
 ·rename_i z;rw[zd z];split at j
  ·rename_i x Y Z n;injection j with j
   subst j;have A:∀c,o.op≠.defer c:=by intro c B;rw[B]at n;simp[zX]at n
   refine⟨fun f _=>trivial,?_⟩;rw[Kg _ _ _ A];have D:=cr J.spec m.inv (a:=a.eval) (fun y T P=>xc m.jQ P) (o:=o) n;rcases D with⟨v,w',E,F,p,H,I⟩|⟨g,vs,p,B⟩
   ·have b:=h q r L Z0 s t _ w' Q ⟨E,F,m.step H I hd⟩ u;rcases p with p|⟨p,rfl⟩
    ·rw[p];exact b
    ·rw[p];exact b
   ·rw[p];refine⟨fun h=>by simp[Fence.wide]at h,aC.2 (B.mono fun e w' R=>?_)⟩;obtain⟨v,E,F,rfl,H,I⟩:=R;exact h q r L Z0 s t _ w' Q ⟨E,F,m.step H I hd⟩ u
  ·cases j
 ·rename_i z;rw[zc z];injection j with j
  subst j;exact⟨fun f _=>trivial,h q r L Z0 s t _ w Q ⟨S,G,m.step (.refl m.inv) jL hd⟩ u⟩
end
section
variable{P:Program}{w:World}{S:Nat->Prop}{G:Nat->GI}{Y:Hp}{Z:Nat}
theorem DU(hi:Inv P w S G Y Z){t ty e:TypeId}{n by_ id off k:Nat}{b:kv}{ys:List zb}{z:zb}{u v:Value}
  (ht:yf P t=some e) (h1:qz P e=some n) (h2:js P e=some by_) (h3:yL P e=some z) (hn:0<n) (hzl:z.length=n) (hb:Y id=some b) (hba:b.arr=true) (hbe:b.e=e) (hk:off+k=b.es.length)
  (hl1:k+ys.length<=maxLen) (hl2:(k+ys.length)*by_<=140737488355328) (hs:qf w S G Z (.own id off k) u) {x:O} (hv:AM.view Y n x=some ys) (hx:qf w S G Z x v) :
  ∃r w' es' L G',(Builtin.append_ #[t,t] ty #[u,v]).run P w=.ok r w'/\(es'=b.es++ys/\L=off\/es'=b.es.drop off++ys/\L=0) /\
   kx dr P Y Z S G w (qv (qv Y id none) Z (some ⟨e,n,true,es'⟩)) (Z+1) S G' w'/\qf w' S G' (Z+1) (.own Z L (k+ys.length)) r:=by
 obtain⟨i,vz,i1,i2,i3⟩:=Qk h3;have X:i.size=n:=by simpa[qz,i1]using h1
 have hby:i.bytes=by_:=by simpa[js,i1]using h2
 have hzl':=(jg (w:=w) (S:=S) i3).1;have hzc:vz.cells.size=n:=by rw[<-hzl,hzl'];simp
 have hu:=kO ht;have EM:=hs.xh;obtain⟨cap,g1,g2,g3,g4,rfl⟩:=hs.vK;have hbr:=hi.live id b hb;obtain⟨o,q1,q2,q3⟩:=hbr.row EM;have hsb:(G id).s=n:=by
  have h5:=hbr.size EM;rw[hbe]at h5;have h6:(P.info? e).map (·.size)=some n:=by simpa[qz]using h1
  rw[h6]at h5;injection h5 with h5
  exact h5.symm
 rw[hsb]at g4 q3⊢;rw[hbe]at q1;obtain⟨A,c,f,rfl,f1,f2⟩:=Kn hi hv hx;have hff:=XG hn f1 f2;have hl:((List.range (ys.length*n)).map f).length=ys.length*n:=by simp
 obtain⟨a,q⟩:=jc ((List.range (ys.length*n)).map f);have hone:∀u∈a,u.oneCell'=true:=fun u hu=>by rw[<-q]at hu;obtain⟨k,hk,rfl⟩:=qj.1 hu;exact(hff k (yj.1 hk)).choose_spec.2.2
 have M:∀j u,a[j]?=some u->∃ad,A=some ad/\w.cell? (ad.add j)=some u:=fun j u p=>by
  have hjl:j<ys.length*n:=by rw[<-hl,q];exact(zi.1 p).1
  obtain⟨ad',e1,e2,_⟩:=hff j hjl;rw[<-q,qo,jZ hjl]at p;simp at p;exact⟨ad',e1,by rw[e2,p]⟩
 have Nf:∀(i' j:Nat) (m:zb) (K:O),ys[i']?=some m->m[j]?=some K->∃W,a[i'*n+j]?=some W/\jl w S G Z true K W:=fun i' j m K d p=>by
  obtain⟨ad',a1,a2,a3⟩:=f2 i' j m K d p;have F:j<n:=by rw[<-f1 m (zG d)];exact(zi.1 p).1
  have J:=kR (n:=ys.length) (zi.1 d).1 F;exact⟨f (i'*n+j),by rw[<-q,qo,jZ J];rfl,a3⟩
 rw[q]at hl;have N:Src P i.size t (.slice A ys.length c) ys.length a w:=by
  cases A with
  |some ad=>exact Src.ofSlice w hu ad _ c a (by rw[X];exact hl) (fun j u p=>by obtain⟨ad',e1,e2⟩:=M j u p;injection e1 with e1;subst e1;exact e2) hone
  |none=>
   have hnil:a=[]:=by
    cases a with
    |nil=>rfl
    |cons u r=>obtain⟨_,e1,_⟩:=M 0 u rfl;cases e1
   have hm0:ys.length=0:=by
    rw[hnil]at hl;rcases Nat.eq_zero_or_pos ys.length with h|h
    ·exact h
    ·have:=Nat.mul_pos h hn;simp at hl;omega
   rw[hnil,hm0];exact Src.ofNil w hu c
 have hoz:o.size=off*n+cap*n:=by rw[q2,<-g4,qI]
 have hkz:k*n<=cap*n:=zK _ g2;have SK:b.es.length*n=off*n+k*n:=by rw[<-hk,qI]
 have hsub:∀id' C,qv Y id none id'=some C->Y id'=some C:=fun id' C h=>xk h
 have hnl:∀id' C,qv Y id none id'=some C->(G id').g≠(G id).g:=fun id' C h he=>by
  have hne:id'≠id:=by rintro rfl;simp at h
  exact hne (hi.inj id' id C b (xk h) hb he)
 have B:∀m∈b.es,m.length=n:=fun m Q=>by rw[<-hsb];exact hbr.len EM m Q
 by_cases H:k+ys.length<=cap
 ·have hmz:k*n+ys.length*n<=cap*n:=by rw[<-qI];exact zK _ H
  obtain⟨y,I⟩:=jc ((o.toList.take (off*n+k*n)++a++o.toList.drop (off*n+k*n+a.length)).toArray);have o1:=run_storeCells_at P (G id).g (off*n+k*n) e a 0 o w q1 (by rw[hl];omega) hone;simp only[QE]at o1;rw[I]at o1;have hcl:y.size=o.size:=by rw[<-I];simp[hl];omega
  have D:(Builtin.append_ #[t,t] ty #[.slice (some ⟨(G id).g,off*n,none⟩) k cap,.slice A ys.length c]).run P w=.ok (.slice (some ⟨(G id).g,off*n,none⟩) (k+ys.length) cap) (w.setRow (G id).g y):=by have B:=N.len;have l:=N.cells;rw[X]at l;simp[Builtin.append_,zA hu,sizeOf,typeInfo,i1,B,H,X,l,ka,o1]
  have zgo:(b.es++ys).length*n<=(G id).z:=by rw[zL,qI,SK,<-q2,hoz];omega
  have k2:=kx.tj (dr:=dr) (w':=w.setRow (G id).g y) (Y1:=qv Y id none) hi hsub ⟨(G id).g,(G id).z,n⟩ e true (b.es++ys) y rfl rfl rfl (by simp[World.setRow]) (zf _)
   (fun C=>C=(G id).g) (fun C R=>by subst R;exact⟨⟨id,b,hb,rfl⟩,hi.apart id b hb,hnl⟩)
   (fun C _ hne _=>setRow_other w _ _ _ hne) hnl (hi.apart id b hb) (.inl ⟨id,b,hb,rfl⟩) hn (by simpa[qz]using h1)
   (fun m Q=>by
    rcases zM.1 Q with h|h
    ·exact B m h
    ·exact f1 m h)
   zgo (setRow_heap w _ o _ _ _ q1) (hcl.trans q2) (fun i' j m K d p=>by
    show∃u,y[i'*n+j]?=some u/\jl w S G Z true K u;have T:m.length=n:=by
     rcases zM.1 (zG d)with h|h
     ·exact B m h
     ·exact f1 m h
    have F:j<n:=by rw[<-T];exact(zi.1 p).1
    have ht0:(o.toList.take (off*n+k*n)).length=off*n+k*n:=by simp;omega
    have hto:∀x:Nat,y[x]?=(o.toList.take (off*n+k*n)++(a++o.toList.drop (off*n+k*n+a.length)))[x]?:=fun x=>by rw[<-I,qM];simp
    by_cases hik:i'<b.es.length
    ·have J:=kR (n:=b.es.length) hik F;rw[zY hik]at d;obtain⟨W,u1,u2⟩:=q3 i' j m K d p;rw[hba]at u2;exact⟨W,by rw[hto,zY (by omega),qu,zd (by omega)];simpa using u1,u2⟩
    ·rw[zS (by omega)]at d;have hge:b.es.length*n<=i'*n:=zK _ (by omega);have Sn:=(zi.1 d).1;have J:=kR (n:=ys.length) Sn F;obtain⟨W,u1,u2⟩:=Nf _ j m K d p;refine⟨W,?_,u2⟩;have hkk:i'*n+j-(off*n+k*n)=(i'-b.es.length)*n+j:=by rw[Nat.sub_mul];omega
     rw[hto,zS (by omega),ht0,hkk,zY (by omega)];exact u1)
  refine⟨_,_,b.es++ys,off,_,D,.inl ⟨rfl,rfl⟩,k2,?_⟩;have:=qf.own (w:=w.setRow (G id).g y) (S:=S) (G:=qv G Z ⟨(G id).g,(G id).z,n⟩) (Z:=Z+1) (id:=Z) (off:=off) (n:=k+ys.length) (cap:=cap) (by omega) H g3 (by simpa using g4) (by simpa using hn);simpa using this
 ·obtain⟨olds,hol⟩:=jc ((o.toList.drop (off*n)).take (k*n));have E:olds.length=k*n:=by rw[<-hol];simp;omega
  have hget:∀j,j<k*n->olds[j]?=o[off*n+j]?:=fun j p=>by rw[<-hol,qu,zd p,qN];simp
  have D:=run_append_grow_src (P:=P) w t t ty e i vz hu i1 i2 (some ⟨(G id).g,off*n,none⟩) k cap olds
   (by
    rw[X];refine run_firstCells_some w.drew n k ⟨(G id).g,off*n,none⟩ k cap olds E fun j u p=>?_
    have hjl:j<k*n:=by rw[<-E];exact(zi.1 p).1
    rw[hget j hjl]at p;rw[ka];exact(zbI w _ _ o _ _ q1).trans p)
   (.slice A ys.length c) ys.length a N (by omega) (by unfold maxLen at hl1;omega) (growslice_fits (by omega) (by rw[hby];exact hl2))
  obtain⟨gc,hgc⟩:=jc (grownCap w (k+ys.length) cap e);rw[hgc]at D;have hge:k+ys.length<=gc:=by rw[<-hgc];exact grownCap_ge w _ _ e
  have S7:gc<=maxLen:=by rw[<-hgc];exact grownCap_le_maxLen w _ _ e hl1
  obtain⟨cells,l⟩:=jc ((olds++a).toArray++Builtin.zeroCells vz.cells (gc-(k+ys.length)));rw[l]at D;have hcs:cells.size=gc*n:=by rw[<-l,QF,Sj,hzc];simp only[jv,zL,E,hl];rw[<-qI,<-qI];congr 1;omega
  have hcg:∀j,j<(k+ys.length)*n->cells[j]?=(olds++a)[j]?:=fun j p=>by rw[<-l,vg (by simp[E,hl];rw[<-qI];exact p)];simp
  have k2:=kx.tj (dr:=dr) (w':=w.drew.alloc (.cells cells e)) (Y1:=qv Y id none) hi hsub ⟨w.heap.size,cells.size,n⟩ e true (b.es.drop off++ys) cells rfl rfl rfl (by simp) (Zp _)
   (fun C=>C=(G id).g) (fun C R=>by subst R;exact⟨⟨id,b,hb,rfl⟩,hi.apart id b hb,hnl⟩)
   (fun C R hne _=>Below.heap_alloc w.drew _ C R) (fun id' C h=>Nat.ne_of_lt (hi.live id' C (xk h)).lt) (fun hS=>by have:=hi.st _ hS;simp at this) (.inr (zf _)) hn (by simpa[qz]using h1)
   (fun m Q=>by
    rcases zM.1 Q with h|h
    ·exact B m (WK _ _ h)
    ·exact f1 m h)
   (by rw[zL,iP,hcs];exact zK _ (by omega)) (Sf w.drew _) rfl (fun i' j m K d p=>by
    show∃u,cells[i'*n+j]?=some u/\jl w S G Z true K u;have T:m.length=n:=by
     rcases zM.1 (zG d)with h|h
     ·exact B m (WK _ _ h)
     ·exact f1 m h
    have F:j<n:=by rw[<-T];exact(zi.1 p).1
    have Sn:=(zi.1 d).1;rw[zL,iP]at Sn;have J:i'*n+j<(k+ys.length)*n:=kR (by omega) F;by_cases hik:i'<k
    ·have hlt':=kR (n:=k) hik F;rw[zY (by rw[iP];omega),qN]at d;obtain⟨W,u1,u2⟩:=q3 (off+i') j m K d p;rw[hba]at u2;refine⟨W,?_,u2⟩;rw[hcg _ J,zY (by omega),hget _ hlt',<-u1,qI,lv]
    ·rw[zS (by rw[iP];omega),iP]at d;have hge':k*n<=i'*n:=zK _ (by omega);obtain⟨W,u1,u2⟩:=Nf _ j m K d p;refine⟨W,?_,u2⟩;have hkk:i'*n+j-k*n=(i'-(b.es.length-off))*n+j:=by rw[show b.es.length-off=k from by omega,Nat.sub_mul];omega
     rw[hcg _ J,zS (by omega),E,hkk];exact u1)
  refine⟨_,_,b.es.drop off++ys,0,_,D,.inr ⟨rfl,rfl⟩,k2,?_⟩;have:=qf.own (w:=w.drew.alloc (.cells cells e)) (S:=S) (G:=qv G Z ⟨w.heap.size,cells.size,n⟩) (Z:=Z+1) (id:=Z) (off:=0) (n:=k+ys.length) (cap:=gc) (by omega) hge S7 (by simp[hcs]) (by simpa using hn);simpa using this
end
section
variable{C:Ctx}{pf:Nat->Bool}{f:FuncId}{fn:Func}{code:Code}
theorem DV{st:St}{a:Act}{w:World}{S:Nat->Prop}{G:Nat->GI}(hi:Inv C.P w S G st.Y st.Z)(f:∀t,qf w S G st.Z (st.U t) (a.tmps.getD t undef)){r:O}(h:xO C.P fn st=some r):∃v,(results fn a.tmps).run C.P w=.ok v w/\qf w S G st.Z r v:=by
 unfold xO at h;have k:∀xs,ya (fn.results.toList.map (Yg C.P st))=some xs->r=(match xs with|[x]=>x|xs=>.wG xs)->∃v,(results fn a.tmps).run C.P w=.ok v w/\qf w S G st.Z r v:=by
  intro xs g b;obtain⟨us,m,c⟩:=Ju hi f g;have e:(results fn a.tmps).run C.P w=.ok (if h:us.toArray.size=1 then us.toArray[0]else .tuple us.toArray) w:=by unfold results;rw[Array.mapM_eq_mapM_toList];simp only[vQ,Sem.run_map];erw [m];rfl
  refine⟨_,e,?_⟩
  match xs,c,b with
  |[],c,b=>rw[c.WO];subst b;exact .wG rfl (by simp)
  |[y],c,b=>obtain⟨u,rfl,i⟩:=Yk c;subst b;simpa using i
  |y::z::ys,c,b=>have l:=c.1;subst b;rw[dif_neg (by simp at l⊢;omega)];exact .wG (by simpa using l) (fun j n u o i=>c.2 j n u o (by simpa using i))
 split at h
 ·rename_i y p;injection h with h
  exact k [y] p h.symm
 ·rename_i xs d g;injection h with h
  refine k xs g ?_;rw[<-h]
  match xs,d with
  |[],_=>rfl
  |[y],d=>exact(d y rfl).elim
  |y::z::ys,_=>rfl
 ·cases h
theorem gY(y:dY C pf f fn code){args:zb}{Y:Hp}{Z:Nat}{R:O->Hp->Nat->Prop}(hW:Wp dr C fn.ntmps code ⟨j9 args,Y,Z⟩ (Jt C.P fn R))
  {w:World} {S:Nat->Prop} {G:Nat->GI} {vs:List Value} (hi:Inv C.P w S G Y Z) (z:Zip (qf w S G Z) args vs) (hn:args.length<=fn.ntmps) :
  Calls C.P f vs.toArray w fun e w'=>∃x p l v d g,R x p l/\e=.returned v/\kx dr C.P Y Z S G w p l d g w'/\qf w' d g l x v:=by
 refine aC.1 (callsIn_of_wp_marks (n:=0) y.func y.body trivial ?_);have q:iR dr C.P w S (jz Y G) fn.ntmps Z G w.heap.size ⟨j9 args,Y,Z⟩ {tmps:=vs.toArray++Array.replicate (fn.ntmps-vs.toArray.size) undef,defers:=[]} w:=by
  refine⟨S,G,hi,fun t=>?_,?_,.nil (zf _),fun _ h=>h,fun _ h=>.inl h,fun id b i=>.inl ⟨id,b,i,rfl⟩,Fr.refl _ _,zf _,fun _ _=>rfl⟩
  ·have A:vs.length=args.length:=z.1.symm;unfold j9;by_cases ht:t<args.length
   ·have o:args[t]?=some args[t]:=zl ht;have T:vs[t]?=some (vs[t]'(by omega)):=zl (by omega);have h3:=z.2 t _ _ o T;have B:(vs.toArray++Array.replicate (fn.ntmps-vs.toArray.size) undef)[t]?=vs[t]?:=by rw[vg (by simpa using(by omega:t<vs.length))];simp
    simp only[o,iN];rw[Jn,B,T];exact h3
   ·have o:args[t]?=none:=wT (by omega);have B:(vs.toArray++Array.replicate (fn.ntmps-vs.toArray.size) undef).getD t undef=undef:=by rw[Jn,Array.getElem?_append_right (by simpa using(by omega:vs.length<=t)),Array.getElem?_replicate];split<;>rfl
    simp only[o,Option.getD_none];rw[B];exact jL
  ·have A:vs.length=args.length:=z.1.symm;simp;omega
 refine hW w S (jz Y G) Z G w.heap.size _ w _ (zf _) q fun e st E W c F=>?_
 obtain⟨d,g,a⟩:=F;obtain⟨hd0,X,H,I,j⟩:=a.defers;have J:(e=.normal\/e=.ret)/\∃r,xO C.P fn st=some r/\R r st.Y st.Z:=by
  cases e<;>first
   |exact⟨.inl rfl,c⟩
   |exact⟨.inr rfl,c⟩
   |exact c.elim
 obtain⟨J,r,K,hR⟩:=J;have s:LeavesInM Fence.wide 0 C.P fn E.tmps (fun e w'=>∃x p l v d g,R x p l/\e=.returned v/\kx dr C.P Y Z S G w p l d g w'/\qf w' d g l x v) E.defers .returning W:=by
  rw[H];refine Kq (dr:=dr) X W I (fun D hD=>(j D hD).2.1) fun w' m=>?_
  have u:∀b,b∈X->Vz d g st.Y b:=fun b i=>⟨(j b i).2.2.1,(j b i).2.2.2⟩
  have k:=a.inv.frame m u;have L:∀t,qf w' d g st.Z (st.U t) (E.tmps.getD t undef):=fun t=>(a.jQ t).mono (fun b i=>⟨i,m.block b (a.inv.st b i) fun M=>(u b M).1 i⟩) (zf _) (fun _ _=>rfl)
  have y:kx dr C.P Y Z S G w st.Y st.Z d g w':=⟨k,a.up,a.loc,a.s0,a.s1,a.own,a.fr.trans m fun b i o=>by have:=(j b o).1;omega⟩;obtain⟨v,N,Q⟩:=DV k L K;exact⟨v,N,r,_,_,v,d,g,hR,rfl,y,Q⟩
 rcases J with rfl|rfl
 ·exact s
 ·exact s
theorem Ys(p:dY C pf f fn code)(i:Bool)(Q:List Nat)(F:zb->Option O)(hF:∀args r,F args=some r->args.length<=fn.ntmps/\Wp dr C fn.ntmps code ⟨j9 args,fun _=>none,0⟩ (Jt C.P fn (xx r))):kq dr C.P f (zh i Q F):=by
 refine⟨⟨fn,p.func,p.name,by rw[p.body];rfl⟩,?_⟩;intro args Y Z r Y' Z' h w S G vs hi R;unfold zh at h;split at h
 ·rename_i T Y1 s;split at h
  ·rename_i W t;obtain⟨X,hW⟩:=hF _ W t;obtain⟨S1,q,u,y⟩:=jh (dr:=dr) hi s R;refine(gY p hW (eA (fun _=>⟨0,0,0⟩) q.inv.st q.inv.iQ) (Wv u).closed X).mono fun e w' hh=>?_
   obtain⟨x,hpe,nxe,v,S',G',⟨r1,j,z⟩,L,k,hx⟩:=hh;have M:Fr dr w (fun _=>False) w':=⟨k.fr.os,k.fr.tape,k.fr.output,k.fr.size,k.fr.drawn,fun b d _=>k.fr.block b d QY⟩;obtain⟨⟨r2,hpf⟩,A,l⟩:=zZ j;simp only at l;subst l;obtain⟨S2,N,B⟩:=Yi (dr:=dr) k.inv A hx;have D:=tK B z;have m:∀b,S2 b->S1 b\/(w.heap.size<=b/\b<w'.heap.size):=by
    intro b d;have n:=N.inv.st b d;rcases N.from_ b d with h1|⟨id,blk,h1,rfl⟩|h1
    ·rcases k.from_ b h1 with a|a|a
     ·exact .inl a
     ·exact(QY a).elim
     ·exact .inr ⟨a,n⟩
    ·rcases k.own id blk h1 with a|a
     ·exact(QY a).elim
     ·exact .inr ⟨a,n⟩
    ·exact absurd h1 (by omega)
   split at h
   ·rename_i g;injection h with h
    injection h with E h;injection h with H I;subst E;subst H;subst I;refine⟨v,_,G,L,kx.outer hi M,.c ?_⟩;rcases g with J|K
    ·exact l4 D J
    ·have o:=y K;exact D.mono fun b d=>⟨by rw[<-o];exact m b d,rfl⟩
   ·split at h
    ·injection h with h;injection h with E h;injection h with H I;subst E;subst H;subst I;exact⟨v,_,G,L,q.trans (kx.outer q.inv M),.c (D.mono fun b d=>⟨m b d,rfl⟩)⟩
    ·cases h
  ·cases h
 ·cases h
end
variable{dr:Prop}
section
variable{C:Ctx}{pf:FuncId->Bool}{N:Nat}
@[simp]theorem Is(y:Code)(K:Exit->St->Prop)(st:St):Ir dr C N y K .normal st=Wp dr C N y st K:=rfl
@[simp]theorem zg4(y:Code)(K:Exit->St->Prop)(st:St):Ir dr C N y K .ret st=K .ret st:=rfl
@[simp]theorem zg5(y:Code)(K:Exit->St->Prop)(i:Nat)(st:St):Ir dr C N y K (.exit i) st=K (.exit i) st:=rfl
@[simp]theorem zfW(I:Nat->St->Prop)(n:Nat)(K:Exit->St->Prop)(st:St):Ay I n K .normal st=∃m,m<n/\I m st:=rfl
@[simp]theorem zfX(I:Nat->St->Prop)(n:Nat)(K:Exit->St->Prop)(st:St):Ay I n K .ret st=K .ret st:=rfl
@[simp]theorem zfY(I:Nat->St->Prop)(n i:Nat)(K:Exit->St->Prop)(st:St):Ay I n K (.exit i) st=K (.exit i) st:=rfl
theorem Wp.cut(f:xa dr C pf){a b:Code}{st:St}{K:Exit->St->Prop}(Q:(Nat->O)->Hp->Nat->Prop)(c:vL pf C.dyn C.Ns C.bk N a=true)(g:Zy C a st (Mn (fun st=>Q st.U st.Y st.Z) K))(h:∀U Y Z,Q U Y Z->Wp dr C N b ⟨U,Y,Z⟩ K):Wp dr C N (.seq a b) st K:=
 Wp.seq ((Wp.of f c g).mono fun e i d=>by
  cases e<;>first
   |exact h _ _ _ d
   |exact d)
theorem Wp.any{c:Code}{st:St}{K:Exit->St->Prop}(Q:(Nat->O)->Hp->Nat->Prop)(a:Q st.U st.Y st.Z)(h:∀U Y Z,Q U Y Z->Wp dr C N c ⟨U,Y,Z⟩ K):Wp dr C N c st K:=h _ _ _ a
theorem fS{a:Array Oper}{K:St->Prop}(f:xa dr C pf):∀{l:List Nat} {b:List Oper} {l2:List Nat} {st st1:St},l.map (fun i=>a[i]?)=b.map some->(∀o∈b,∀d,o.dst=some d->d<N)->xj C a b st=some st1->QH dr C N a l2 st1 K->QH dr C N a (l++l2) st K
 |[],[],l2,st,st1,_,_,h,c=>by simp only[xj]at h;injection h with h;subst h;exact c
 |[],_::_,_,_,_,h,_,_,_=>by simp at h
 |_::_,[],_,_,_,h,_,_,_=>by simp at h
 |i::l,o::b,l2,st,st1,e,hd,h,c=>by
  simp only[we,zk]at e;simp only[xj]at h;split at h
  ·rename_i s hs;exact QH.cons f e.1 (hd o (by simp)) hs (fS f e.2 (fun o g=>hd o (by simp[g])) h c)
  ·cases h
theorem QH.pre(e:xa dr C pf){a:Array Oper}{l l2:List Nat}{b:List Oper}{st:St}{K:St->Prop}(f:l.map (fun i=>a[i]?)=b.map some)(hd:b.all (fun o=>match o.dst with|some d=>decide (d<N)|none=>true)=true)(h:iU C a b st fun st1=>QH dr C N a l2 st1 K):QH dr C N a (l++l2) st K:=by
 obtain⟨st1,g,j⟩:=h;exact fS e f (fun o k d c=>by have:=zV.1 hd o k;rw[c]at this;simpa using this) g j
theorem QH.VA(f:xa dr C pf){c:Array Oper}{l2:List Nat}{st:St}{K:St->Prop}(a b:Nat)(j:a+b<=c.size)(hd:c.toList.all (fun o=>match o.dst with|some d=>decide (d<N)|none=>true)=true)(h:iU C c ((c.toList.drop a).take b) st fun st1=>QH dr C N c l2 st1 K):QH dr C N c (List.range' a b++l2) st K:=by
 refine QH.pre f ?_ ?_ h
 ·apply dT;intro i;rw[qo,qo,qu];by_cases hi:i<b
  ·have e:(List.range' a b)[i]?=some (a+i):=by rw[List.getElem?_range' hi];simp
   rw[e,zd hi,qN];have:a+i<c.size:=by omega
   simp[this]
  ·rw[zc hi,wT (by simp;omega)];rfl
 ·exact zV.2 fun o g=>zV.1 hd o (WK _ _ (K6 _ _ g))
theorem QH.append{m:Array Oper}{i:Nat}{d:Tmp}{x y:Operand}{t ty:TypeId}{p:String}{J:Array Edge}{l:List Nat}{st:St}{K:St->Prop}{e:TypeId}{n by_ id off k:Nat}{b:kv}{v:O}{ys:List zb}{z:zb}
  (M:m[i]?=some ⟨some d,.call ⟨.builtin .append,#[x,y],#[t,t]⟩,ty,p,J,none⟩) (hd:d<N) (R:get st.U x=some (.own id off k)) (T:get st.U y=some v) (W:AM.view st.Y n v=some ys)
  (X:yf C.P t=some e) (h1:qz C.P e=some n) (h2:js C.P e=some by_) (h3:yL C.P e=some z) (hn:0<n) (u:z.length=n) (hb:st.Y id=some b) (A:b.arr=true) (B:b.e=e) (hk:off+k=b.es.length)
  (D:k+ys.length<=maxLen) (E:(k+ys.length)*by_<=140737488355328)
  (h:∀j g,(j=b.es++ys/\g=off\/j=b.es.drop off++ys/\g=0)->QH dr C N m l ⟨qv st.U d (.own st.Z g (k+ys.length)),qv (qv st.Y id none) st.Z (some ⟨e,n,true,j⟩),st.Z+1⟩ K):QH dr C N m (i::l) st K:=by
 intro w0 S0 L Z0 G0 n0 a w Q hs hQ;simp only[wpOpsIn,M];obtain⟨S,G,o⟩:=hs;rw[Qm o.jQ,zd (vV _ _ _ _ _ _)];have F:∀c,(Op.call ⟨.builtin .append,#[x,y],#[t,t]⟩:Op)≠.defer c:=fun c hc=>by cases hc
 refine⟨fun f _=>trivial,?_⟩;rw[Kg _ _ _ F];obtain⟨r,w',j,g,G',hr,he,H,I⟩:=DU (dr:=dr) (ty:=ty) o.inv X h1 h2 h3 hn u hb A B hk D E (xc o.jQ R) W (xc o.jQ T);have q:=h j g he w0 S0 L Z0 G0 n0 (a.put (some d) r) w' Q ⟨S,G',o.step (dst:=some d) H I (fun _ e=>by cases e;exact hd)⟩ hQ;have s:(execOp a.eval ⟨some d,.call ⟨.builtin .append,#[x,y],#[t,t]⟩,ty,p,J,none⟩).run C.P w=.ok (.value r) w':=by simp[execOp,resolve,invoke,builtin,hr,-bind_pure_comp]
 rw[s];exact q
@[simp]theorem zhC(P:Program)(t:TypeId)(ad:Addr):Ki P t (.v (.slice (some ad) 0 0))=(yf P t).map fun _=>.v (.int .i64 0):=rfl
theorem G9{P:Program}{w:World}{S:Nat->Prop}{G:Nat->GI}{Y:Hp}{Z:Nat}(hi:Inv P w S G Y Z){t e:TypeId}{n id off k:Nat}{b:kv}{u:Value}(m:P.underlying t=some (.slice e))(hs:qz P e=some n)(x:Y id=some b)(d:b.s=n)(B:0<k)(o:qf w S G Z (.own id off k) u) :
  ∃r v,(Instr.sliceAt t u (some (.int .i64 1)) none none).run P w=.ok v w/\qf w S G Z r v/\(r=.own id (off+1) (k-1)\/k=1/\∃ad,r=.v (.slice (some ad) 0 0)):=by
 have f:=o.xh;obtain⟨cap,y,z,C,A,rfl⟩:=o.vK;have a:=YC (P:=P) (w:=w) (S:=S) (G:=G) (Z:=Z) (isS:=true) (len:=k) (cap:=cap) (l:=1) (h:=k) (lo:=some (some (.v (.int .i64 1)))) (hi:=none) (vl:=some (.int .i64 1)) (vh:=none) rfl rfl (by omega) z (by simp) (fun p Y=>⟨_,rfl,by simp only[z6]at Y;subst Y;exact .c (.v rfl)⟩) (by simp) (fun _=>rfl) (by simp) (by simp);have i:(G id).s=n:=by rw[<-(hi.live id b x).bs,d]
 by_cases q:cap=1
 ·subst q;have j:k=1:=by omega
  subst j;exact⟨_,_,by simp[Instr.sliceAt,zA m,Instr.slice,a,yc hs];rfl,.c (.v rfl),.inr ⟨rfl,_,rfl⟩⟩
 ·refine⟨.own id (off+1) (k-1),.slice (some ⟨(G id).g,(off+1)*(G id).s,none⟩) (k-1) (cap-1),?_,.own y (by omega) (by omega) ?_ f,.inl rfl⟩
  ·simp[Instr.sliceAt,zA m,Instr.slice,a,yc hs,q,ka,i,qI]
  ·rw[show off+1+(cap-1)=off+cap from by omega];exact A
theorem QH.slice{g:Array Oper}{i:Nat}{d:Tmp}{x:Operand}{t ty:TypeId}{p:String}{A:Array Edge}{l:List Nat}{st:St}{K:St->Prop}{e:TypeId}{n id off k:Nat}{b:kv}
  (D:g[i]?=some ⟨some d,.slice t x (some (.const (.int .i64 1))) none none,ty,p,A,none⟩) (hd:d<N) (E:get st.U x=some (.own id off k)) (F:C.P.underlying t=some (.slice e)) (hs:qz C.P e=some n) (H:st.Y id=some b) (q:b.s=n) (I:0<k)
  (h:∀r,(r=.own id (off+1) (k-1)\/k=1/\∃ad,r=.v (.slice (some ad) 0 0))->QH dr C N g l ⟨qv st.U d r,st.Y,st.Z⟩ K):QH dr C N g (i::l) st K:=by
 intro J M L Z0 R T a w Q u W;simp only[wpOpsIn,D];obtain⟨S,G,j⟩:=u;rw[Qm j.jQ,zd (vV _ _ _ _ _ _)];have y:∀c,(Op.slice t x (some (.const (.int .i64 1))) none none:Op)≠.defer c:=fun c X=>by cases X
 refine⟨fun f _=>trivial,?_⟩;rw[Kg _ _ _ y];obtain⟨r,v,B,z,he⟩:=G9 j.inv F hs H q I (xc j.jQ E);have m:=h r he J M L Z0 R T (a.put (some d) v) w Q ⟨S,G,j.step (dst:=some d) (.refl j.inv) z (fun _ e=>by cases e;exact hd)⟩ W;have o:(execOp a.eval ⟨some d,.slice t x (some (.const (.int .i64 1))) none none,ty,p,A,none⟩).run C.P w=.ok (.value v) w:=by simp[execOp,Act.eval,-bind_pure_comp]at B⊢;simp[B]
 rw[o];exact m
theorem MV{P:Program}{w:World}{S:Nat->Prop}{G:Nat->GI}{Y:Hp}{Z:Nat}(hi:Inv P w S G Y Z){t ty e:TypeId}{n by_:Nat}{ad:Addr}{ys:List zb}{z:zb}{v:Value}{x:O}
  (ht:yf P t=some e) (h1:qz P e=some n) (h2:js P e=some by_) (h3:yL P e=some z) (J:0<n) (N:z.length=n) (B:ys.length<=maxLen) (Q:ys.length*by_<=140737488355328) (hv:AM.view Y n x=some ys) (hx:qf w S G Z x v) :
  ∃r y w' R K G',(Builtin.append_ #[t,t] ty #[.slice (some ad) 0 0,v]).run P w=.ok r w'/\(ys=[]/\y=.v (.slice (some ad) 0 0)/\R=Y/\K=Z\/y=.own Z 0 ys.length/\R=qv Y Z (some ⟨e,n,true,ys⟩)/\K=Z+1)/\kx dr P Y Z S G w R K S G' w'/\qf w' S G' K y r:=by
 obtain⟨i,T,L,i2,i3⟩:=Qk h3;have W:i.size=n:=by simpa[qz,L]using h1
 have X:i.bytes=by_:=by simpa[js,L]using h2
 have C:=(jg (w:=w) (S:=S) i3).1;have hzc:T.cells.size=n:=by rw[<-N,C];simp
 have s:=kO ht;obtain⟨A,c,f,rfl,f1,f2⟩:=Kn hi hv hx;have l:=XG J f1 f2;by_cases hm:ys=[]
 ·subst hm;refine⟨_,_,w,Y,Z,G,?_,.inl ⟨rfl,rfl,rfl,rfl⟩,.refl hi,.c (.v rfl)⟩;cases A<;>simp[Builtin.append_,zA s,sizeOf,typeInfo,L,Builtin.lenOf,Builtin.firstCells,loadCells,loadCellsFrom,storeCells]
 have hm0:0<ys.length:=vm.2 hm;obtain⟨d,a⟩:=jc ((List.range (ys.length*n)).map f);have M:d.length=ys.length*n:=by rw[<-a];simp
 obtain⟨m,rfl,_,_⟩:=l 0 (Nat.mul_pos hm0 J);have D:Src P i.size t (.slice (some m) ys.length c) ys.length d w:=by
  refine Src.ofSlice w s m _ c d (by rw[W];exact M) (fun j u o=>?_) (fun u s=>?_)
  ·have E:j<ys.length*n:=by rw[<-M];exact(zi.1 o).1
   obtain⟨ad2,e1,e2,_⟩:=l j E;injection e1 with e1;subst e1;rw[<-a,qo,jZ E]at o;simp at o;rw[e2,o]
  ·rw[<-a]at s;obtain⟨k,hk,rfl⟩:=qj.1 s;exact(l k (yj.1 hk)).choose_spec.2.2
 have g:=run_append_grow_src (P:=P) w t t ty e i T s L i2 (some ad) 0 0 [] (by simp[Builtin.firstCells,loadCells,loadCellsFrom]) (.slice (some m) ys.length c) ys.length d D (by omega) (by unfold maxLen at B;omega) (growslice_fits (by omega) (by rw[X,ym];exact Q));simp only[ym,jJ]at g;obtain⟨gc,p⟩:=jc (grownCap w ys.length 0 e);rw[p]at g;have F:ys.length<=gc:=by rw[<-p];exact grownCap_ge w _ _ e
 have S7:gc<=maxLen:=by rw[<-p];exact grownCap_le_maxLen w _ _ e B
 obtain⟨cells,b⟩:=jc (d.toArray++Builtin.zeroCells T.cells (gc-ys.length));rw[b]at g;have H:cells.size=gc*n:=by rw[<-b,QF,Sj,hzc];simp only[jv,M];rw[<-qI];congr 1;omega
 have k2:=kx.tj (dr:=dr) (w':=w.drew.alloc (.cells cells e)) (Y1:=Y) hi (fun _ _ h=>h) ⟨w.heap.size,cells.size,n⟩ e true ys cells rfl rfl rfl (by simp) (Zp _)
  (fun _=>False) (fun _ h=>h.elim) (fun b' hb' hne _=>Below.heap_alloc w.drew _ b' hb') (fun id' b' h=>Nat.ne_of_lt (hi.live id' b' h).lt) (fun hS=>by have:=hi.st _ hS;simp at this) (.inr (zf _)) J (by simpa[qz]using h1) f1
  (by rw[H];exact zK _ F) (Sf w.drew _) rfl (fun i' j c' pv q o=>by
   show∃u,cells[i'*n+j]?=some u/\jl w S G Z true pv u;obtain⟨ad2,a1,a2,a3⟩:=f2 i' j c' pv q o;have hjn:j<n:=by rw[<-f1 c' (zG q)];exact(zi.1 o).1
   have I:i'*n+j<ys.length*n:=kR (zi.1 q).1 hjn;refine⟨f (i'*n+j),?_,a3⟩;rw[<-b,vg (by simp[M];exact I)];simp[<-a,I])
 refine⟨_,_,_,_,_,_,g,.inr ⟨rfl,rfl,rfl⟩,k2,?_⟩;have:=qf.own (w:=w.drew.alloc (.cells cells e)) (S:=S) (G:=qv G Z ⟨w.heap.size,cells.size,n⟩) (Z:=Z+1) (id:=Z) (off:=0) (n:=ys.length) (cap:=gc) (by omega) F S7 (by simp[H]) (by simpa using J);simpa using this
theorem QH.zaP{b:Array Oper}{i:Nat}{d:Tmp}{x y:Operand}{t ty:TypeId}{p:String}{F:Array Edge}{l:List Nat}{st:St}{K:St->Prop}{e:TypeId}{n by_:Nat}{ad:Addr}{v:O}{ys:List zb}{z:zb}
  (H:b[i]?=some ⟨some d,.call ⟨.builtin .append,#[x,y],#[t,t]⟩,ty,p,F,none⟩) (hd:d<N) (I:get st.U x=some (.v (.slice (some ad) 0 0))) (J:get st.U y=some v) (M:AM.view st.Y n v=some ys)
  (R:yf C.P t=some e) (T:qz C.P e=some n) (W:js C.P e=some by_) (X:yL C.P e=some z) (hn:0<n) (q:z.length=n) (s:ys.length<=maxLen) (u:ys.length*by_<=140737488355328)
  (h:∀w g j,(ys=[]/\w=.v (.slice (some ad) 0 0)/\g=st.Y/\j=st.Z\/w=.own st.Z 0 ys.length/\g=qv st.Y st.Z (some ⟨e,n,true,ys⟩)/\j=st.Z+1)->QH dr C N b l ⟨qv st.U d w,g,j⟩ K):QH dr C N b (i::l) st K:=by
 intro w0 S0 L Z0 G0 n0 a w Q hs hQ;simp only[wpOpsIn,H];obtain⟨S,G,k⟩:=hs;rw[Qm k.jQ,zd (vV _ _ _ _ _ _)];have A:∀c,(Op.call ⟨.builtin .append,#[x,y],#[t,t]⟩:Op)≠.defer c:=fun c hc=>by cases hc
 refine⟨fun f _=>trivial,?_⟩;rw[Kg _ _ _ A];obtain⟨B,_⟩:=(xc k.jQ I).w8;obtain⟨r,y',w',g,j,G',hr,he,D,E⟩:=MV (dr:=dr) (ty:=ty) (ad:=ad) k.inv R T W X hn q s u M (xc k.jQ J);have m:=h y' g j he w0 S0 L Z0 G0 n0 (a.put (some d) r) w' Q ⟨S,G',k.step (dst:=some d) D E (fun _ e=>by cases e;exact hd)⟩ hQ;have o:(execOp a.eval ⟨some d,.call ⟨.builtin .append,#[x,y],#[t,t]⟩,ty,p,F,none⟩).run C.P w=.ok (.value r) w':=by simp[execOp,resolve,invoke,builtin,B,hr,-bind_pure_comp]
 rw[o];exact m
end
end Go.AM
namespace Go.Q
def rq(Y:Hp)(Z:Nat)(e s:Nat)(v:O)(xs:List zb):Prop:=(v=.nil/\xs=[])\/(xs≠[]/\∃id,id<Z/\v=.own id 0 xs.length/\Y id=some ⟨e,s,true,xs⟩)
theorem rq.more{Y:Hp}{Z e s:Nat}{v:O}{xs:List zb}(h:rq Y Z e s v xs)(b:Option kv):rq (qv Y Z b) (Z+1) e s v xs:=by
 rcases h with⟨rfl,rfl⟩|⟨a,id,d,rfl,c⟩
 ·exact .inl ⟨rfl,rfl⟩
 ·exact .inr ⟨a,id,by omega,rfl,by rw[zx _ _ _ _ (by omega)];exact c⟩
theorem rq.Jo{P:Program}{Y:Hp}{Z e s by_:Nat}{v:O}{xs:List zb}{ys:List zb}{z:zb}{t:TypeId}(h:rq Y Z e s v xs)(b:yf P t=some e)(hs:qz P e=some s)(c:js P e=some by_)(d:yL P e=some z)
  (a:z.length=s) (f:0<s) (g:xs.length+ys.length<=maxLen) (i:(xs.length+ys.length)*by_<=140737488355328) :
  ∃k l m,yK P Y Z t t v (.sl s ys)=some (k,l,m)/\rq l m e s k (xs++ys):=by
 rcases h with⟨rfl,rfl⟩|⟨n,id,hid,rfl,o⟩
 ·simp at g i;by_cases j:ys=[]
  ·subst j;exact⟨.nil,Y,Z,by simp[yK,b,hs,c,d,a,f,AM.view,maxLen],.inl ⟨rfl,rfl⟩⟩
  ·exact⟨.own Z 0 ys.length,_,Z+1,by simp[yK,b,hs,c,d,a,f,g,i,AM.view,j];rfl,.inr ⟨by simpa using j,Z,by omega,by simp,by simp⟩⟩
 ·exact⟨.own Z 0 (xs.length+ys.length),_,Z+1,by simp[yK,b,hs,c,d,a,f,g,i,AM.view,o];rfl,.inr ⟨by simp[n],Z,by omega,by simp,by simp⟩⟩
def s9(a:List za):Option kv:=if a=[]then none else some ⟨9,1,true,zy a⟩
theorem rq.ret{Y:Hp}{Z:Nat}{v:O}{a:List za}(h:rq Y Z 9 1 v (zy a))(c:Nat):VM (s9 a) v Y c:=by
 rcases h with⟨rfl,b⟩|⟨b,id,hid,rfl,d⟩
 ·have:a=[]:=by simpa[zy]using b
  subst this;rfl
 ·have f:a≠[]:=fun e=>b (by rw[e];rfl)
  unfold s9;rw[zc f];exact⟨id,rfl,d,rfl⟩
theorem rf(c:qe)(I:c.cb<=zu):∃x Y Z,jF (Cnm zu) f52 [.agg c.V] (fun _=>none) 0=some (x,Y,Z)/\VM (s9 c.names) x Y Z:=by
 have B:=Zm c;have C:=jf c.args;have s:=xo _ c (zf _);have A:zu=2097152:=rfl;have g:∀k,(yz (c.args.take k)).length<=c.cb:=fun k=>by
  have e:yz c.args=yz (c.args.take k)++yz (c.args.drop k):=by rw[<-KU,kb]
  have:=zr List.length e;rw[xV,zL]at s;rw[zL]at this;omega
 refine Ks rfl ?_;by_cases r:c.kind=5
 ·have p:=fun Y Z=>qT.jd (P:=prog) (t:=33) (c:=[str c.name]) (qT.nil Y Z 9 1) eD HH Ll Lm rfl (by omega) (by simp[maxLen]) (by simp)
  have h:(c.kind==5)=true:=by simpa using r
  simp only[Zl]at p;simp[wi,h,zp,zE,zo,p];refine zP (fun k U Y Z=>U 15=.sl 7 (c.args.map qe.V)/\U 16=int c.args.length/\U 17=int k/\rq Y Z 9 1 (U 3) (zy ([c.name]++yz (c.args.take k)))) c.args.length
   ⟨by simp,by simp,by simp,by simp;exact .inr ⟨by simp[zy],_,by omega,rfl,by simp[zy,yz]⟩⟩ ?_
  rintro k U Y Z D ⟨b,d,f,i⟩;by_cases a:k<c.args.length
  ·have u:=qG k;obtain⟨x,j⟩:=jc (c.args[k]);have l:x∈c.args:=by rw[<-j];exact zj a
   have v:=kj l;have w:=xo _ x (zf _);have y:=fun Y Z=>Zd (fun c=>.sl 1 (zy c.names)) zu x Y Z ⟨by omega,by omega⟩
   have E:=g k;have m:=i.more (some ⟨26,7,false,[x.V]⟩);obtain⟨F,G,H,n,o⟩:=m.Jo (P:=prog) (t:=33) (ys:=zy x.names) eD HH Ll Lm rfl (by omega) (by simp[maxLen,qC];omega) (by simp[qC];omega);have q:=Jl a;rw[j]at q;simp[b,d,f,a,j,y,n,u,XL];refine⟨by omega,?_⟩;rw[q];simpa[zy]using o
  ·obtain rfl:k=c.args.length:=by omega
   rw[wF]at i;have z:=i.ret Z;simp[b,d,f,f52];rw[xV];simpa[r]using z
 ·have h:=wU r;simp[wi,h];refine zP (fun k U Y Z=>U 15=.sl 7 (c.args.map qe.V)/\U 16=int c.args.length/\U 17=int k/\rq Y Z 9 1 (U 3) (zy (yz (c.args.take k)))) c.args.length
   ⟨by simp,by simp,by simp,by simp;exact .inl ⟨rfl,by simp[zy,yz]⟩⟩ ?_
  rintro k U Y Z D ⟨b,d,f,i⟩;by_cases a:k<c.args.length
  ·have u:=qG k;obtain⟨x,j⟩:=jc (c.args[k]);have l:x∈c.args:=by rw[<-j];exact zj a
   have v:=kj l;have w:=xo _ x (zf _);have y:=fun Y Z=>Zd (fun c=>.sl 1 (zy c.names)) zu x Y Z ⟨by omega,by omega⟩
   have E:=g k;have m:=i.more (some ⟨26,7,false,[x.V]⟩);obtain⟨F,G,H,n,o⟩:=m.Jo (P:=prog) (t:=33) (ys:=zy x.names) eD HH Ll Lm rfl (by omega) (by simp[maxLen,qC];omega) (by simp[qC];omega);have q:=Jl a;rw[j]at q;simp[b,d,f,a,j,y,n,u,XL];refine⟨by omega,?_⟩;rw[q];simpa[zy]using o
  ·obtain rfl:k=c.args.length:=by omega
   rw[wF]at i;have z:=i.ret Z;simp[b,d,f,f52];rw[xV];simpa[r]using z
noncomputable def FNf:zb->Option (Option kv):=ql (α:=qe) (fun c=>[.agg c.V]) (fun c=>c.cb<=zu) fun c=>s9 c.names
theorem DW(c:qe)(Y:Hp)(Z:Nat)(h:c.cb<=zu):yR [] FNf [.agg c.V] Y Z=if c.names=[]then some (.nil,Y,Z)else some (.own Z 0 c.names.length,qv Y Z (some ⟨9,1,true,zy c.names⟩),Z+1):=by
 have e:FNf [.agg c.V]=some (s9 c.names):=qF (V:=fun c:qe=>[O.agg c.V]) (a:=c) (fun a b e=>by simp only[zk,zI,O.agg.injEq]at e;exact kU e) h
 unfold yR;simp only[show zD Y [.agg c.V]=some ([.agg c.V],Y) by simp[wi],show yg [] [O.agg c.V]=[O.agg c.V]from rfl,e];unfold s9;by_cases d:c.names=[]
 ·rw[zd d,zd d]
 ·rw[zc d,zc d];simp[zy]
theorem rh:zg prog 52 (yR [] FNf):=
 Qn (fn:=f52) (code:=_) (zU mixed ⟨bg zu,trivial⟩:AM.Good (Cnm zu) _) ⟨func52,by kernel_rfl,rfl,by kernel_rfl⟩ [] _ fun args r h=>by obtain⟨c,rfl,a,rfl⟩:=zN h;exact⟨by simp[f52],rf c a⟩
noncomputable abbrev Nj:Ctx:=zR prog [(52,yR [] FNf),(53,zh false [1] (SZ fun l v=>qS (decide (v∈l)))),(42,zh false [] (Gf (fun l s=>W8 (qQ s l)) fun l _=>l.length<=zu)),(47,zh true [1] (LU (fun l=>.sl 1 (zy (ju l))) fun l=>l.length<=zu))]
theorem zag:Gd Nj:=zU mixed ⟨rh,ZT,Zh,KY,trivial⟩
def Que(Y:Hp)(Z:Nat)(v w:O)(q:List za):Prop:=(w=.nil/\q=[])\/((∃ad,w=.v (.slice (some ad) 0 0))/\q=[])\/∃id off es,id<Z/\w=.own id off q.length/\Y id=some ⟨9,1,true,es⟩/\off+q.length=es.length/\es.drop off=zy q/\∀m,v≠.own id 0 m
theorem Que.len{Y:Hp}{Z:Nat}{v w:O}{q:List za}(h:Que Y Z v w q):Ki prog 33 w=some (int q.length):=by
 rcases h with⟨rfl,rfl⟩|⟨⟨ad,rfl⟩,rfl⟩|⟨id,off,es,_,rfl,_⟩
 ·simp
 ·simp
 ·simp
theorem It(l:List qd)(a:za)(h:x4 l<=zu):(Zt (qQ a l)).cond.cb<=zu:=by
 by_cases b:∃y∈l,y.name=a
 ·obtain⟨j,c,d,_⟩:=XV b;rw[d];have:=xe (zj c);have f:l[j].cb=1+l[j].name.length+QI l[j].ins+QI l[j].outs+l[j].cond.cb:=rfl;show l[j].cond.cb<=zu;omega
 ·rw[Jh fun y g e=>b ⟨y,g,e⟩];show fY.cond.cb<=zu;have:fY.cond.cb=1:=by simp[fY,Zm,qe.yp,qe.args,qe.attr,qe.pat,qe.name,aD,Kd]
  rw[this];decide
theorem DX{Y:Hp}{Z:Nat}{v:O}{l:List za}(c:qT Y Z 9 1 v (zy l))(d:l.length<=zu):∃f,zh true [1] (LU (fun l=>.sl 1 (zy (ju l))) fun l=>l.length<=zu) [v] Y Z=some (.sl 1 (zy (ju l)),f,Z):=by
 have hs:LU (fun l=>.sl 1 (zy (ju l))) (fun l=>l.length<=zu) [.sl 1 (zy l)]=some (.sl 1 (zy (ju l))):=qF (V:=fun l:List za=>[O.sl 1 (zy l)]) (a:=l) (fun a b e=>by
  simp only[zk,zI]at e;injection e with _ e
  exact ji e) d
 rcases c with⟨rfl,g⟩|⟨id,hid,rfl,h⟩
 ·have hd:l=[]:=by simpa[zy]using g
  subst hd;exact⟨Y,yA (Y1:=Y) rfl hs (.inr rfl)⟩
 ·refine⟨qv Y id none,?_⟩;have i:zD Y [.own id 0 (zy l).length]=some ([.sl 1 (zy l)],qv Y id none):=by
   simp[h]
   try rw[qx (by simp)]
  unfold zh;rw[i];have j:yg [1] [O.sl 1 (zy l)]=[O.sl 1 (zy l)]:=rfl;simp only[j,hs];simp[O.flat,O.noOwn]
theorem MW{Y:Hp}{Z e s id:Nat}{v:O}{xs:List zb}(h:qT Y Z e s v xs)(a:∀m,v≠.own id 0 m):qT (qv Y id none) Z e s v xs:=by
 rcases h with⟨rfl,rfl⟩|⟨i,hi,rfl,b⟩
 ·exact .inl ⟨rfl,rfl⟩
 ·exact .inr ⟨i,hi,rfl,by rw[zx _ _ _ _ (by rintro rfl;exact a _ rfl)];exact b⟩
theorem Iu{Y:Hp}{Z e s id m:Nat}{v:O}{xs:List zb}(h:qT Y Z e s v xs)(a:Z<=id):v≠.own id 0 m:=by
 rcases h with⟨rfl,rfl⟩|⟨i,hi,rfl,b⟩
 ·simp
 ·intro e;injection e with e;omega
theorem zah{q c:List za}{es b:List zb}{off a:Nat}(d:off+q.length=es.length)(hd:es.drop off=zy q)(h:b=es++zy c/\a=off\/b=es.drop off++zy c/\a=0):a+(q++c).length=b.length/\b.drop a=zy (q++c):=by
 rcases h with⟨rfl,rfl⟩|⟨rfl,rfl⟩
 ·exact⟨by simp[qC];omega,by rw[List.drop_append_of_le_length (by omega),hd];simp[zy]⟩
 ·rw[hd];exact⟨by simp[qC],by simp[zy]⟩
def RchI(l:List qd)(a:List za)(n:Nat)(st:St):Prop:=st.U 0=.sl 10 (l.map qd.V)/\∃out q,qT st.Y st.Z 9 1 (st.U 5) (zy out)/\Que st.Y st.Z (st.U 5) (st.U 6) q/\EF (jX l) a out q/\q.length+qm out l=n/\out.length+n<=zu
noncomputable def RQ:zb->Option O:=ql (α:=List qd×qe) (fun a=>[.sl 10 (a.1.map qd.V),.agg a.2.V]) (fun a=>x4 a.1+a.2.cb<=zu) fun a=>.sl 1 (zy (kG a.1 a.2.names))
theorem fT(l:List qd)(c:qe)(Y:Hp)(Z:Nat)(h:x4 l+c.cb<=zu):zh false [] RQ [.sl 10 (l.map qd.V),.agg c.V] Y Z=some (.sl 1 (zy (kG l c.names)),Y,Z):=
 Ja (l,c) _ _ (by simp[wi]) (fun a b e=>by obtain⟨d,f⟩:=a;obtain⟨g,i⟩:=b;simp only[zk,zI,O.agg.injEq]at e;rw[xm e.1,kU e.2]) h (.inr (by simp[wi,O.noOwn]))
theorem RR{es:List zb}{off:Nat}{a:za}{q:List za}(h:es.drop off=zy (a::q)):es[off]?=some [str a]/\es.drop (off+1)=zy q:=by
 have b:(es.drop off)[0]?=some [str a]:=by rw[h];rfl
 rw[qN,QE]at b;refine⟨b,?_⟩;rw[<-dW,h];rfl
theorem Ha(l:List qd)(c:qe)(hlc:x4 l+c.cb<=zu){code:Code}(hb:f22.body=some code):Wp True Nj f22.ntmps code ⟨j9 [.sl 10 (l.map qd.V),.agg c.V],fun _=>none,0⟩ (Jt Nj.P f22 (xx (.sl 1 (zy (kG l c.names))))):=by
 have hlim:zu=2097152:=rfl;have i:=zag;have hll:=vG l;have hcn:=xo _ c (zf _);have N:=Rt [] l;have k0:=fun Y Z=>DW c Y Z (by omega)
 injection hb with hb;subst hb;refine Wp.seq (Wp.of i (by kernel_rfl) ?_);simp[wi];refine Wp.seq (Wp.of i (by kernel_rfl) ?_);simp;refine Wp.cut i (fun U Y Z=>RchI l c.names (c.names.length+qm [] l) ⟨U,Y,Z⟩) (by kernel_rfl) ?_ ?_
 ·simp only[wi]at k0;by_cases hn0:c.names=[]
  ·simp[k0,hn0];exact⟨by simp,[],[],by simp;exact .inl ⟨rfl,rfl⟩,.inl ⟨by simp,rfl⟩,.begin _ _,by simp,by simp;omega⟩
  ·simp[k0,hn0];exact⟨by simp,[],c.names,by simp;exact .inl ⟨rfl,rfl⟩,.inr (.inr ⟨1,0,zy c.names,by simp,by simp,by simp,by simp[zy],by simp,by simp⟩),.begin _ _,by simp,by simp;omega⟩
 rintro U Y Z hI;refine Wp.seq (Wp.block (Wp.loop (RchI l c.names) _ hI ?_));clear hI U Y Z;rintro n ⟨U,Y,Z⟩ ⟨h0,out,q,B,hQ,hB,hn,hbd⟩;simp only at h0 B hQ;cases q with
 |nil=>have hlen:=hQ.len;refine Wp.seq (Wp.of i (by kernel_rfl) ?_);simp[hlen];obtain⟨f,e1⟩:=DX B (by omega);have hv:ju out=kG l c.names:=dH hB;refine Wp.of i (by kernel_rfl) ?_;simp[e1,hv,xx,f22];exact qb _
 |cons a q=>
  obtain⟨id,off,es,hid,h6,C,D,Hq,o⟩:=(hQ.resolve_left (by rintro⟨_,e⟩;cases e)).resolve_left (by rintro⟨_,e⟩;cases e);obtain⟨hga,E⟩:=RR Hq;simp only[zO]at hn D h6;refine Wp.cut i (fun b f k=>b 0=U 0/\b 5=U 5/\b 6=U 6/\f=Y/\k=Z) (by kernel_rfl) (by simp[h6]) ?_;rintro d Y Z ⟨x,e5,z,rfl,rfl⟩;rw[h0]at x;rw[<-e5]at B o;rw[h6]at z;clear h0 h6 e5 hQ U;refine Wp.block ?_;refine Wp.cut i (fun b f k=>b 0=d 0/\b 5=d 5/\b 6=d 6/\b 7=str a/\f=Y/\k=Z) (by kernel_rfl) (by simp[z,C,hga,D]) ?_;rintro U Y Z ⟨A,Q,I,R,rfl,rfl⟩;rw[x]at A;rw[<-Q]at B o;rw[z]at I;clear x z Q d;refine Wp.seq (Wp.region ?_);show QH True Nj _ _ (List.range' 0 1++(1::(List.range' 2 1++[]))) _ _;refine QH.VA i 0 1 (by decide) (by decide) ?_;simp[I];refine QH.slice (n:=1) (e:=9) rfl (by decide) rfl un33 HH C rfl (by omega) ?_;rintro r hr;refine QH.VA i 2 1 (by decide) (by decide) ?_;simp;refine QH.nil ?_;simp only[Bz,Is];rw[Nat.add_sub_cancel]at hr;refine Wp.any (fun b f k=>b 0=U 0/\b 5=U 5/\b 6=r/\b 7=U 7/\f=Y/\k=Z) (by simp) ?_;rintro d Y Z ⟨x,e5,z,K,rfl,rfl⟩;rw[A]at x;rw[<-e5]at B o;rw[R]at K;clear A I R e5 U;have p:off+1+q.length=es.length:=by omega
  generalize off+1=L at hr E p;clear D Hq hga off;have N:r=.own id L q.length\/q=[]/\∃ad,r=.v (.slice (some ad) 0 0):=hr.imp (fun h=>h) fun⟨h1,h2⟩=>⟨jb (by omega),h2⟩
  clear hr;have F:=UQ (fun l v=>qS (decide (v∈l))) (v:=a) B (by omega) rfl;by_cases ha:a∈out
  ·rw[show decide (a∈out)=true from by simpa using ha]at F;refine Wp.seq (Wp.of i (by kernel_rfl) ?_);simp[K,F];refine⟨_,by omega,by simp[x],out,q,by simpa using B,?_,hB.skip ha,rfl,by omega⟩;rcases N with rfl|⟨rfl,ad,rfl⟩
   ·exact .inr (.inr ⟨id,L,es,by simpa using hid,by simp[z],by simpa using C,by omega,E,by simpa using o⟩)
   ·exact .inr (.inl ⟨⟨ad,by simp[z]⟩,rfl⟩)
  ·rw[show decide (a∈out)=false from by simpa using ha]at F;refine Wp.cut i (fun b f k=>b 0=d 0/\b 5=d 5/\b 6=d 6/\b 7=d 7/\f=Y/\k=Z) (by kernel_rfl) (by simp[K,F]) ?_;rintro U Y Z ⟨A,Q,I,R,rfl,rfl⟩;rw[x]at A;rw[<-Q]at B o;rw[z]at I;rw[K]at R;clear x z K Q F d;have rn:=B.jd (P:=prog) (t:=33) (c:=[str a]) eD HH Ll Lm rfl (by omega) (by simp[qC,maxLen];omega) (by simp[qC];omega);have hk:=yM B (qv Y Z (some ⟨9,1,true,[[str a]]⟩)) id o;have w:¬id=Z:=by omega
   have u:¬id=Z+1:=by omega
   have haf:=qT.after (Y:=Y) (Z:=Z) (e:=9) (s:=1) (v:=U 5) (xs:=zy out) (c:=[str a]) (tmp:=some ⟨9,1,true,[[str a]]⟩);have haa:zy out++[[str a]]=zy (out++[a]):=by simp[zy]
   refine Wp.cut i (fun b f k=>b 0=U 0/\b 6=U 6/\b 7=U 7/\Z<=k/\qT f k 9 1 (b 5) (zy (out++[a]))/\f id=some ⟨9,1,true,es⟩/\∀m,b 5≠.own id 0 m) (by kernel_rfl) (by simp[R,zp,zE,zo,rn,u,hk,w,C];rw[<-haa];exact⟨by simpa[qC]using haf,fun e=>u e.symm⟩) ?_
   clear rn hk w u haf;rintro d Y1 g ⟨x,z,K,hn1,hO1,hes1,M⟩;have hid1:id<g:=by omega
   rw[A]at x;rw[I]at z;rw[R]at K;clear C hn1 B o hid A I R U Y Z;have hsg:=fun Y Z=>XW (fun l s=>W8 (qQ s l)) (fun l _=>l.length<=zu) l a Y Z (by omega)
   obtain⟨s,hs⟩:=jc (Zt (qQ a l));have hsc:s.cond.cb<=zu:=by rw[<-hs];exact It l a (by omega)
   have hnx:s.cond.names=jX l a:=by rw[<-hs];exact U7 l a
   have o1:W8 (qQ a l)=.wG [.agg s.V,qS (qQ a l).isSome]:=by rw[<-hs];rfl
   simp only[o1]at hsg;have w:¬id=g:=by omega
   refine Wp.cut i (fun b f k=>b 0=d 0/\b 5=d 5/\b 6=d 6/\b 8=.ref g 0 0/\f=qv Y1 g (some ⟨48,10,false,[s.V]⟩)/\k=g+1) (by kernel_rfl) (by simp[x,K,hsg,ye]) ?_
   rintro U Y Z ⟨A,Q,I,f8,rfl,rfl⟩;rw[x]at A;rw[z]at I;rw[<-Q]at hO1 M;have S:id<g+1:=by omega
   have hO2:=hO1.more (some ⟨48,10,false,[s.V]⟩);have hes2:qv Y1 g (some (⟨48,10,false,[s.V]⟩:kv)) id=some ⟨9,1,true,es⟩:=by rw[zx _ _ _ _ w];exact hes1
   have J:=hB.take ha;have hpu:=lp ha l;rw[<-hnx]at J hpu;have T:out.length+1+((q++s.cond.names).length+qm (out++[a]) l)<=zu:=by simp;omega
   have hm:(q++s.cond.names).length+qm (out++[a]) l<n:=by simp;omega
   have hcl:∀Y Z,∃y f k,yR [] FNf [.agg s.cond.V] Y Z=some (y,f,k)/\AM.view f 1 y=some (zy s.cond.names)/\Z<=k/\(∀j,j<Z->f j=Y j)/\(∀e s v xs,qT Y Z e s v xs->qT f k e s v xs):=fun Y Z=>by
    have h1:=DW s.cond Y Z hsc;by_cases G:s.cond.names=[]
    ·rw[zd G]at h1;exact⟨_,_,_,h1,by simp[AM.view,G,zy],zf _,fun _ _=>rfl,fun _ _ _ _ h=>h⟩
    ·rw[zc G]at h1;exact⟨_,_,_,h1,by simp[AM.view,qC],by omega,fun j hj=>zx _ _ _ _ (by omega),fun _ _ _ _ h=>h.more _⟩
   obtain⟨y,Y2,Sr,hc1,hc2,hc3,hc4,hc5⟩:=hcl (qv Y1 g (some ⟨48,10,false,[s.V]⟩)) (g+1);have H:=hc5 _ _ _ _ hO2;have hes3:Y2 id=some ⟨9,1,true,es⟩:=by rw[hc4 id S];exact hes2
   have hid3:id<Sr:=by omega
   simp only[wi,ye]at hc1;refine Wp.region ?_;show QH True Nj _ _ (List.range' 0 4++(4::(List.range' 5 1++[]))) _ _;refine QH.VA i 0 4 (by decide) (by decide) ?_;simp[I,f8,ye,wi,hc1];have hnl:=xo _ s.cond (zf _);have W:q.length+(zy s.cond.names).length<=maxLen:=by simp[qC,maxLen];omega
   have X:(q.length+(zy s.cond.names).length)*16<=140737488355328:=by simp[qC];omega
   rcases N with rfl|⟨rfl,ad,rfl⟩
   ·refine QH.append (e:=9) (n:=1) (by_:=16) (ys:=zy s.cond.names) (v:=y) rfl (by decide) (by simp) (by simp) hc2 eD HH Ll Lm (by omega) rfl hes3 rfl rfl p W X ?_;intro es' off' hew;obtain⟨hl',hd'⟩:=zah p E hew;refine QH.VA (l2:=[]) i 5 1 (by decide) (by decide) ?_;simp;refine QH.nil ?_;refine⟨_,hm,by simp[A],out++[a],q++s.cond.names,?_,.inr (.inr ⟨Sr,off',es',by simp,by simp[qC],by simp,hl',hd',?_⟩),J,rfl,by simp;simp at T;omega⟩
    ·simpa using(MW H M).more _
    ·intro m;simpa using Iu H (zf _)
   ·simp only[yV,ym]at W X;refine QH.zaP (ad:=ad) (e:=9) (n:=1) (by_:=16) (ys:=zy s.cond.names) (v:=y) rfl (by decide) (by simp) (by simp) hc2 eD HH Ll Lm (by omega) rfl W X ?_;rintro r f k (⟨hy0,rfl,rfl,rfl⟩|⟨rfl,rfl,rfl⟩)
    ·have G:s.cond.names=[]:=by simpa[zy]using hy0
     refine QH.VA (l2:=[]) i 5 1 (by decide) (by decide) ?_;simp;refine QH.nil ?_;refine⟨_,hm,by simp[A],out++[a],[]++s.cond.names,by simpa using H,.inr (.inl ⟨⟨ad,by simp⟩,by simp[G]⟩),J,rfl,by simp;simp at T;omega⟩
    ·refine QH.VA (l2:=[]) i 5 1 (by decide) (by decide) ?_;simp;refine QH.nil ?_;refine⟨_,hm,by simp[A],out++[a],[]++s.cond.names,?_,.inr (.inr ⟨Sr,0,zy s.cond.names,by simp,by simp[qC],by simp,by simp[qC],by simp,?_⟩),J,rfl,by simp;simp at T;omega⟩
     ·simpa using H.more _
     ·intro m;simpa using Iu H (zf _)
theorem JF:zg prog 22 (zh false [] RQ):=
 Ys (C:=Nj) (pf:=fun g=>([]:List Nat).contains g) (fn:=f22) (code:=_) ⟨func22,by kernel_rfl,rfl,by kernel_rfl⟩ false [] _ fun args r h=>by obtain⟨⟨l,c⟩,rfl,a,rfl⟩:=zN h;exact⟨by simp[f22],Ha l c a rfl⟩
theorem Az(l:List qd)(start:List za):∀(n:Nat) (out b:List za),EF (jX l) start out b->b.length+qm out l<=n->∃c,EF (jX l) start c []/\c.length<=out.length+n
 |_,out,[],h,_=>⟨out,h,by omega⟩
 | 0,_,_::_,_,h=>by simp at h
 |n+1,out,a::q,h,g=>by
  simp only[zO]at g;by_cases d:a∈out
  ·obtain⟨o,e,f⟩:=Az l start n out q (h.skip d) (by omega);exact⟨o,e,by omega⟩
  ·have:=lp d l;obtain⟨o,e,f⟩:=Az l start n _ _ (h.take d) (by rw[zL];omega);exact⟨o,e,by simp at f;omega⟩
theorem Iv(l:List qd)(c:qe)(h:x4 l+c.cb<=zu):(kG l c.names).length<=zu:=by
 have d:=Rt [] l;have e:=xo _ c (zf _);obtain⟨o,a,b⟩:=Az l c.names _ [] c.names (.begin _ _) (zf _);have Y:=j5 o fun x y=>decide (x<=y)
 rw[<-dH a,ZH (Y.nodup_iff.2 a.nodup),Y.length_eq];simp at b;omega
noncomputable def WZ:za->List qd->Int
 |_,[]=>0
 |q,s::l=>if WH s q=0 then WZ s.name l else WH s q
noncomputable def Q9 (l:List qd):Int:=if(100:Int)<l.length then 2 else if WZ [] l=0 then(if(l.all fun s=>oZ l s.cond.names)=true then(if(l.any fun s=>decide (s.name∈kG l s.cond.names))=true then 12 else 0)else 9)else WZ [] l
theorem DY{l:List qd}{k:Nat}(h:k<l.length)(q:za):WZ q (l.drop k)=if WH l[k] q=0 then WZ l[k].name (l.drop (k+1))else WH l[k] q:=by rw[ze h];rfl
theorem DZ:∀(l:List qd) (p:Option za) (q:za),(p=none/\q=[]\/p=some q)->WZ q l=W7 p l
 |[],p,q,_=>rfl
 |s::l,p,q,h=>by
  have j:=DZ l (some s.name) s.name (.inr rfl);have k:WZ q (s::l)=if WH s q=0 then WZ s.name l else WH s q:=rfl
  rw[k];by_cases d:wS s.name=true
  case neg=>
   have f:WH s q=5:=by unfold WH;rw[zc d]
   simp only[W7,zc d];rw[f,zc (by decide)]
  case pos=>
   have m:cD s.name q=kr p s.name:=by
    rcases h with⟨rfl,rfl⟩|rfl
    ·simp only[kr];have i:s.name≠[]:=by rintro e;rw[e]at d;exact absurd d (by decide)
     cases n:s.name with
     |nil=>exact absurd n i
     |cons a b=>simp[cD,Op.bytesLess]
    ·rfl
   have f:WH s q=if kr p s.name=true then 8 else xW s:=by unfold WH;rw[zd d,m]
   simp only[W7,zd d];by_cases c:kr p s.name=true
   case pos=>rw[zd c]at f;rw[f,zc (by decide),zd c]
   case neg=>
    rw[zc c]at f;rw[f,zc c];by_cases g:xW s=0
    ·rw[zd g,zd g];exact j
    ·rw[zc g,zc g]
theorem MX(l:List qd):Q9 l=kd l:=by
 unfold Q9 kd;rw[DZ l none [] (.inl ⟨rfl,rfl⟩)];by_cases h:(100:Int)<l.length
 ·rw[zd h,zd h]
 rw[zc h,zc h];by_cases c:W7 none l=0
 case neg=>rw[zc c,zc c]
 rw[zd c,zd c];have j:=(nr l none c).1.1;have p:∀n,(qQ n l).isSome=w7 l n:=fun n=>by
  rcases Wl j n with⟨a,r,b,_⟩|⟨a,b⟩
  ·rw[a,b];rfl
  ·rw[a,b];rfl
 have d:(l.all fun s=>oZ l s.cond.names)=l.all fun s=>Qx l s.cond:=by congr 1;funext s;unfold oZ Qx;congr 1;funext n;exact p n
 rw[d];by_cases f:(l.all fun s=>Qx l s.cond)=true
 case neg=>rw[zc f,zc f]
 rw[zd f,zd f];have g:∀s∈l,∀n∈s.cond.names,w7 l n=true:=fun s hs n q=>zV.1 (zV.1 f s hs) n q
 have k:=LV j g;have m:=Cz (l:=l) (by omega) g;have o:(l.any fun s=>decide (s.name∈kG l s.cond.names))=true↔∃s∈l,Ke (jX l) s.cond.names s.name:=by simp only[WN,zT];exact⟨fun⟨s,a,b⟩=>⟨s,a,(X6 _ _ _).1 b⟩,fun⟨s,a,b⟩=>⟨s,a,(X6 _ _ _).2 b⟩⟩
 by_cases i:nt l=true
 ·rw[zd i,zd (o.2 (k.2 (m.1 i)))]
 ·rw[zc i,zc fun e=>i (m.2 (k.1 (o.1 e)))]
theorem zai(out:List qd->List qe->O)(l:List qd)(c:qe)(Y:Hp)(Z:Nat)(a:l.length<=zu)(b:c.cb<=zu)(d:(out l [c]).flat=true):zh false [] (FSC out) [.sl 10 (l.map qd.V),.own Z 0 1] (qv Y Z (some ⟨26,7,true,[c.V]⟩)) (Z+1)=some (out l [c],qv Y Z (some ⟨26,7,true,[c.V]⟩),Z+1):=
 yA (Y1:=qv (qv Y Z (some ⟨26,7,true,[c.V]⟩)) Z none) (show zD (qv Y Z (some ⟨26,7,true,[c.V]⟩)) [.sl 10 (l.map qd.V),.own Z 0 1]=some ([.sl 10 (l.map qd.V),.sl 7 ([c].map qe.V)],_) by simp) (Rs out l [c] ⟨a,by simpa[aD]using b⟩) (.inl d)
noncomputable abbrev Crcs:Ctx:=zR prog [(76,zh false [] (FSgB fun s q=>int (WH s q))),(37,zh false [] (FSC fun l cs=>int (KV l cs))),(22,zh false [] RQ),(53,zh false [1] (SZ fun l v=>qS (decide (v∈l))))]
theorem zaj:AM.Good Crcs (fun g=>[22,53].contains g):=qw mixed ⟨ay,by simp,Jm,by simp,JF,fun _=>zt _ _,ZT,fun _=>zt _ _,trivial⟩
theorem MY:QZ Crcs (fun g=>[22,53].contains g) 35 f35:=qD func35
theorem aA(l:List qd)(h:2*x4 l<=zu):zq Crcs f35 [.sl 10 (l.map qd.V)]=some (int (Q9 l)):=by
 have G:=vG l;have H:zu=2097152:=rfl;refine zm rfl ?_;by_cases i:(100:Int)<l.length
 ·have e:Q9 l=2:=by unfold Q9;rw[zd i]
  simp[i,e,f35]
 refine jI (fun U Y Z=>U 0=.sl 10 (l.map qd.V)) (by simp) ?_;rintro U Y Z a;refine jI (fun U Y Z=>U 0=.sl 10 (l.map qd.V)) (by simp[a,i]) ?_;clear a U Y Z;rintro U Y Z a;refine jI (fun U Y Z=>U 0=.sl 10 (l.map qd.V)/\U 3=str []) (by simp[a]) ?_;clear a U Y Z;rintro U Y Z ⟨a,z⟩;refine jI (fun U Y Z=>U 0=.sl 10 (l.map qd.V)/\WZ [] l=0) ?_ ?_
 ·simp[a];refine zP (fun k U Y Z=>U 0=.sl 10 (l.map qd.V)/\U 15=.sl 10 (l.map qd.V)/\U 16=int l.length/\U 17=int k/\∃q,U 3=str q/\WZ [] l=WZ q (l.drop k)) l.length ⟨by simp[a],by simp,by simp,by simp,[],by simp[z],by simp⟩ ?_;clear a z U Y Z;rintro k U Y Z I ⟨a,j,m,n,q,z,c⟩;by_cases b:k<l.length
  ·have A:=qG k;obtain⟨s,hs⟩:=jc (l[k]);have B:=xe (zj b);rw[hs]at B;have o:=fun Y Z=>My (fun s q=>int (WH s q)) s q Y Z (by omega) rfl
   simp only[ye,wi]at o;rw[DY b,hs]at c;by_cases C:WH s q=0
   ·rw[zd C]at c;simp[a,z,j,m,n,b,hs,o,C,A,ye,wi];exact⟨by omega,c⟩
   ·rw[zc C]at c;have D:=Za C;have e:Q9 l=WH s q:=by unfold Q9;rw[zc i,c,zc C]
    simp[a,z,j,m,n,b,hs,o,D,e,ye,wi,f35]
  ·obtain rfl:k=l.length:=by omega
   rw[zn]at c;have c:WZ [] l=0:=by rw[c];rfl
   simp[a,j,m,n,c]
 clear a z U Y Z;rintro U Y Z ⟨a,E⟩;refine jI (fun U Y Z=>U 0=.sl 10 (l.map qd.V)/\(l.all fun s=>oZ l s.cond.names)=true) ?_ ?_
 ·simp[a];refine zP (fun k U Y Z=>U 0=.sl 10 (l.map qd.V)/\U 30=.sl 10 (l.map qd.V)/\U 31=int l.length/\U 32=int k/\(l.all fun s=>oZ l s.cond.names)=(l.drop k).all fun s=>oZ l s.cond.names) l.length ⟨by simp[a],by simp,by simp,by simp,by simp⟩ ?_;clear a U Y Z;rintro k U Y Z I ⟨a,p,r,t,c⟩;by_cases b:k<l.length
  ·have A:=qG k;obtain⟨s,hs⟩:=jc (l[k]);have B:=xe (zj b);rw[hs]at B;have F:s.cb=1+s.name.length+QI s.ins+QI s.outs+s.cond.cb:=rfl;have J:KV l [s.cond]=if oZ l s.cond.names=true then 0 else 9:=by simp[KV]
   rw[ze b,hs,wI]at c;have d:=fun Y Z=>zai (fun l cs=>int (KV l cs)) l s.cond Y Z (by omega) (by omega) rfl
   cases f:oZ l s.cond.names
   ·rw[f,ZL]at c;have e:Q9 l=9:=by unfold Q9;rw[zc i,zd E,c,zc (by simp)]
    rw[J,f]at d;simp only[wi]at d;simp[a,p,r,t,b,hs,zp,zE,zo,d,e,ye,wi,f35]
   ·rw[f,jK]at c;rw[J,f]at d;simp only[wi]at d;simp[a,p,r,t,b,hs,zp,zE,zo,d,A,ye,wi];exact⟨by omega,c⟩
  ·obtain rfl:k=l.length:=by omega
   rw[zn]at c;simp only[K8]at c;simp[a,p,r,t];exact zV.1 c
 clear a U Y Z;rintro U Y Z ⟨a,K⟩;simp[a];refine zP (fun k U Y Z=>U 0=.sl 10 (l.map qd.V)/\U 45=.sl 10 (l.map qd.V)/\U 46=int l.length/\U 47=int k/\(l.any fun s=>decide (s.name∈kG l s.cond.names))=(l.drop k).any fun s=>decide (s.name∈kG l s.cond.names)) l.length ⟨by simp[a],by simp,by simp,by simp,by simp⟩ ?_;clear a U Y Z;rintro k U Y Z I ⟨a,u,w,x,c⟩;by_cases b:k<l.length
 ·have A:=qG k;obtain⟨s,hs⟩:=jc (l[k]);have B:=xe (zj b);rw[hs]at B;have F:s.cb=1+s.name.length+QI s.ins+QI s.outs+s.cond.cb:=rfl;have y:=fun Y Z=>fT l s.cond Y Z (by omega)
  have g:=fun Y Z=>Xl (fun l v=>qS (decide (v∈l))) (kG l s.cond.names) s.name Y Z (Iv l s.cond (by omega))
  simp only[wi]at y;rw[dD b,hs]at c;cases f:decide (s.name∈kG l s.cond.names)
  ·rw[f,kQ]at c;rw[f]at g;simp[a,u,w,x,b,hs,y,g,A,ye,wi];exact⟨by omega,c⟩
  ·rw[f,dU]at c;rw[f]at g;have e:Q9 l=12:=by unfold Q9;rw[zc i,zd E,zd K,zd c]
   simp[a,u,w,x,b,hs,y,g,e,ye,wi,f35]
 ·obtain rfl:k=l.length:=by omega
  rw[zn]at c;have e:Q9 l=0:=by unfold Q9;rw[zc i,zd E,zd K,c,zc (by simp)]
  simp[a,u,w,x,e,f35]
theorem Xx:zg prog 35 (zh false [] (ql (α:=List qd) (fun l=>[.sl 10 (l.map qd.V)]) (fun l=>2*x4 l<=zu) fun l=>int (kd l))):=
 wW (fn:=f35) zaj MY false [] _ fun args r h=>by obtain⟨l,rfl,a,rfl⟩:=zN h;exact⟨zw (zf 1) (by decide),_,aA l a,by rw[MX];exact qb _⟩
structure zbN (l:List qd) (x:qY):Prop where
 ok:Ye l
 len:x4 l<=zu
 cb:x.cb+2<=zu
 right:x.fault=0
def HeOk(m k:Nat)(l:List qd)(c:qe)(x:qY):Prop:=zbN l x/\c.cb<=k/\c.cb<=zu/\Yf c/\XB c/\∀n∈c.names,w7 l n=true/\Uc l (jj l n)<m
def InOk(m:Nat)(l:List qd)(s:qd)(x:qY):Prop:=zbN l x/\∃i,l[i]?=some s/\Uc l i<m
noncomputable def FHe (m k:Nat):zb->Option O:=ql (α:=List qd×qe×qY) (fun a=>[.sl 10 (a.1.map qd.V),.agg a.2.1.V,.agg a.2.2.V]) (fun a=>HeOk m k a.1 a.2.1 a.2.2) fun a=>qS (hF a.1 a.2.2 a.2.1)
noncomputable def FIn (m:Nat):zb->Option O:=ql (α:=List qd×qd×qY) (fun a=>[.sl 10 (a.1.map qd.V),.agg a.2.1.V,.agg a.2.2.V]) (fun a=>InOk m a.1 a.2.1 a.2.2) fun a=>qS (mF a.1 a.2.2 (jj a.1 a.2.1.name))
theorem dP{m k:Nat}{l:List qd}{c:qe}{x:qY}(h:HeOk m k l c x)(Y:Hp)(Z:Nat):zh false [] (FHe m k) [.sl 10 (l.map qd.V),.agg c.V,.agg x.V] Y Z=some (qS (hF l x c),Y,Z):=
 Ja (l,c,x) _ _ (by simp[qY.V,wi]) (fun a b e=>by obtain⟨d,f,g⟩:=a;obtain⟨i,j,n⟩:=b;simp only[zk,zI,O.agg.injEq]at e;rw[xm e.1,kU e.2.1,J2 e.2.2]) h (.inl rfl)
theorem RS{m:Nat}{l:List qd}{s:qd}{x:qY}(h:InOk m l s x)(Y:Hp)(Z:Nat):zh false [] (FIn m) [.sl 10 (l.map qd.V),.agg s.V,.agg x.V] Y Z=some (qS (mF l x (jj l s.name)),Y,Z):=
 Ja (l,s,x) _ _ (by simp[qY.V,ye]) (fun a b e=>by obtain⟨c,d,f⟩:=a;obtain⟨g,i,j⟩:=b;simp only[zk,zI,O.agg.injEq]at e;rw[xm e.1,KL e.2.1,J2 e.2.2]) h (.inl rfl)
theorem gZ{f:FuncId}{F:zb->Option O}(a:∃fn,prog.funcs[f]?=some fn/\(fn.name== "runtime.NumGoroutine")=false/\fn.body.isNone=false)(h:∀args,F args=none):zg prog f (zh false [] F):=by
 have e:zh false [] F=fun _ _ _=>none:=by
  funext args Y Z;unfold zh;split
  ·simp only[h]
  ·rfl
 rw[e];exact Z4 a
theorem hC{α:Type}{V:α->zb}{b:α->Prop}{out:α->O}(h:∀a,¬b a)(args:zb):ql V b out args=none:=by
 cases hs:ql V b out args with
 |none=>rfl
 |some r=>obtain⟨a,_,c,_⟩:=zN hs;exact absurd c (h a)
noncomputable abbrev zbu (m k:Nat):Ctx:=zR prog [(41,zh false [] FTc),(42,zh false [] (Gf (fun l s=>W8 (qQ s l)) fun l _=>l.length<=zu)),(43,zh false [] (FIn m)),(17,zh false [] (FHe m k))]
def hU(b:Bool)(f:qe->Bool)(l:List qe):Bool:=if b=true then l.all f else l.any f
theorem Hb(b:Bool)(f:qe->Bool)(c:qe)(l:List qe):hU b f (c::l)=if f c=b then hU b f l else !b:=by cases b<;>cases h:f c<;>simp[hU,h]
theorem Hc(m k:Nat)(l:List qd)(c:qe)(x:qY)(h:HeOk m (k+1) l c x):zq (zbu m k) f17 [.sl 10 (l.map qd.V),.agg c.V,.agg x.V]=some (qS (hF l x c)):=by
 obtain⟨u,hk,G,A,R,S⟩:=h;have A4:=Zm c;have hal:=jf c.args;have v:=xV c;have a:=zbr l x c;have hle:=vG l;have T:zu=2097152:=rfl;have W:=u.len;have X:∀y∈c.args,HeOk m k l y x:=fun y f=>by have:=kj f;exact⟨u,by omega,by omega,A.args y f,R.args y f,fun n H=>S n (by rw[v];exact zM.2 (.inr (YW.2 ⟨y,f,H⟩)))⟩
 refine zm rfl ?_;by_cases B:c.kind=4
 ·have i:=fun Y Z=>RM c x Y Z G u.cb (A.ord B)
  rw[zc7 u.right B R]at i;rw[zc (by omega),zc (by omega),zc (by omega),zc (by omega)]at a;simp only[qY.V]at i;simp[qY.V,B,i,a,f17]
 have I:=wU B;by_cases C:c.kind=5
 ·rw[zc (by omega),zc (by omega),zc (by omega),zd C]at a;obtain⟨w,J⟩:=S c.name (by rw[v,zd C];simp);rcases Wl u.ok.up c.name with⟨_,hj,g,z⟩|⟨e,_⟩
  case inr=>rw[w]at e;cases e
  obtain⟨s,hs⟩:=jc (l[jj l c.name]);rw[hs]at g z;have gs:=fun Y Z=>XW (fun l s=>W8 (qQ s l)) (fun l _=>l.length<=zu) l c.name Y Z (by omega)
  have K:W8 (qQ c.name l)=.wG [.agg s.V,qS true]:=by rw[g];rfl
  simp only[K]at gs;have L:=fun Y Z=>RS (m:=m) (l:=l) (s:=s) (x:=x) ⟨u,jj l c.name,by rw[zl hj,hs],J⟩ Y Z
  rw[z]at L;simp only[qY.V]at L;simp[qY.V,C,gs,L,a,f17]
 have M:=wU C;by_cases D:c.kind=3
 ·rw[zc (by omega),zc (by omega),zd D]at a;obtain⟨y,f⟩:∃y,c.args=[y]:=by
   have:=A.one D
   match h:c.args,this with
   |[y],_=>exact⟨y,rfl⟩
  rw[f]at a;simp only[hdC]at a;have i:=fun Y Z=>dP (X y (by rw[f];simp)) Y Z
  simp only[qY.V]at i;simp[qY.V,D,f,i,a,f17]
 have N:=wU D;have hkk:=A.kind;obtain⟨b,hb⟩:=jc (c.kind==1);have hv:hF l x c=hU b (hF l x) c.args:=by
  rw[a];unfold hU;rw[<-hb];by_cases E:c.kind=1
  ·rw[zd E,zd (by simpa using E)]
  ·rw[zc E,zd (show c.kind=2 by omega),zc (by simpa using E)]
 rw[hv];simp[qY.V,I,M,N,hb];refine zP (fun j U Y Z=>U 0=.sl 10 (l.map qd.V)/\U 5=.ref 1 0 0/\U 9=qS b/\U 46=.sl 7 (c.args.map qe.V)/\U 47=int c.args.length/\U 48=int j/\2<=Z/\Y 1=some ⟨29,2,false,[[str x.key,.sl 6 (x.attrs.map yk)]]⟩/\hU b (hF l x) c.args=hU b (hF l x) (c.args.drop j)) c.args.length
  ⟨by simp,by simp,by simp,by simp,by simp,by simp,by simp,by simp,by simp⟩ ?_
 rintro j U Y Z hj ⟨P,w,Q,p,q,r,hnx,F,g⟩;have n1:¬1=Z:=by omega
 by_cases o:j<c.args.length
 ·have hw:=qG j;obtain⟨y,f⟩:=jc (c.args[j]);rw[ze o,f,Hb]at g;have i:=fun Y Z=>dP (X y (by rw[<-f];exact zj o)) Y Z
  simp only[qY.V]at i;by_cases d:hF l x y=b
  ·rw[zd d]at g;rw[d]at i;have t:(b != b)=false:=by simp
   simp[P,w,Q,p,q,r,o,f,F,n1,i,t,hw]
   and_intros<;>first|omega|exact F|exact g|simp[n1,F]
  ·rw[zc d]at g;have t:=wU d;simp[P,w,Q,p,q,r,o,f,F,n1,i,t,g,d,f17]
 ·obtain rfl:j=c.args.length:=by omega
  rw[zn]at g;have g:hU b (hF l x) c.args=b:=by rw[g];cases b<;>rfl
  simp[P,w,Q,p,q,r,g,f17]
noncomputable abbrev zbv (m:Nat):Ctx:=zR prog [(53,zh false [1] (SZ fun l v=>qS (decide (v∈l)))),(17,zh false [] (FHe m zu))]
theorem Hd(m:Nat)(l:List qd)(s:qd)(x:qY)(h:InOk (m+1) l s x):zq (zbv m) f43 [.sl 10 (l.map qd.V),.agg s.V,.agg x.V]=some (qS (mF l x (jj l s.name))):=by
 obtain⟨b,i,a,A⟩:=h;have d:=zG a;have B:=xe d;have C:s.cb=1+s.name.length+QI s.ins+QI s.outs+s.cond.cb:=rfl;have u:=b.len;have w:zu=2097152:=rfl;have D:=Zg s.ins;have l2:=Zg s.outs;obtain⟨_,_,e⟩:=Im (b.ok.right s d).2;rw[(Pk b.ok.up a).1];have q:mF l x i=(s.ins.contains x.key||(!s.outs.contains x.key&&hF l x s.cond)):=by show LR l x.key (DM x) i=_;rw[H0 b.ok,Pj,a];rfl
 have f:=fun Y Z=>Xl (fun l v=>qS (decide (v∈l))) s.ins x.key Y Z (by omega)
 have g:=fun Y Z=>Xl (fun l v=>qS (decide (v∈l))) s.outs x.key Y Z (by omega)
 have y:=fun Y Z=>dP (m:=m) (k:=zu) (l:=l) (c:=s.cond) (x:=x) ⟨b,by omega,by omega,KZ e,ow e,fun n z=>⟨b.ok.known s d n z,by
  have r:jj l n∈wH l i:=by unfold wH;rw[a];exact Wo z
  have:=F7 b.ok i _ r;omega⟩⟩ Y Z
 simp only[qY.V]at y;refine zm rfl ?_;rw[q];by_cases j:x.key∈s.ins
 ·have o:s.ins.contains x.key=true:=by simpa using j
  rw[show decide (x.key∈s.ins)=true by simpa using j]at f;rw[o];simp[qY.V,f,f43]
 have o:s.ins.contains x.key=false:=by simpa using j
 rw[show decide (x.key∈s.ins)=false by simpa using j]at f;by_cases p:x.key∈s.outs
 ·have t:s.outs.contains x.key=true:=by simpa using p
  rw[show decide (x.key∈s.outs)=true by simpa using p]at g;rw[o,t];simp[qY.V,f,g,f43]
 have t:s.outs.contains x.key=false:=by simpa using p
 rw[show decide (x.key∈s.outs)=false by simpa using p]at g;rw[o,t];simp[qY.V,f,g,y,f43]
theorem hV(m:Nat)(h:zg prog 43 (zh false [] (FIn m)))(k:Nat):zg prog 17 (zh false [] (FHe m k)):=by
 induction k with
 |zero=>exact gZ ⟨_,func17,by kernel_rfl,by kernel_rfl⟩ (hC fun a b=>by have:=Kx a.2.1;have:=b.2.1;omega)
 |succ k d=>exact xy (C:=zbu m k) (qw (q:=[17]) mixed ⟨DS,by simp,Zh,by simp,h,by simp,d,fun _=>zt _ _,trivial⟩) func17 false [] fun⟨l,c,x⟩ e=>⟨by simp[f17],_,Hc m k l c x e,qb _⟩
theorem D0(m:Nat):zg prog 43 (zh false [] (FIn m)):=by
 induction m with
 |zero=>exact gZ ⟨_,func43,by kernel_rfl,by kernel_rfl⟩ (hC fun a b=>by obtain⟨_,i,_,hi⟩:=b;omega)
 |succ m c=>exact xy (C:=zbv m) (zU mixed ⟨ZT,hV m c zu,trivial⟩) func43 false [] fun⟨l,s,x⟩ d=>⟨by simp[f43],_,Hd m l s x d,qb _⟩
noncomputable def FSs2:zb->Option O:=ql (α:=List qd) (fun l=>[.sl 10 (l.map qd.V)]) (fun l=>2*x4 l<=zu) fun l=>int (kd l)
theorem MZ(l:List qd)(Y:Hp)(Z:Nat)(h:2*x4 l<=zu):zh false [] FSs2 [.sl 10 (l.map qd.V)] Y Z=some (int (kd l),Y,Z):=
 Ja l _ _ (by simp) (fun a b e=>by simp only[zk,zI]at e;exact xm e) h (.inl rfl)
noncomputable def WI:List qe->Int
 |[]=>0
 |c::l=>if c.check=0 then WI l else c.check
theorem ox{l:List qe}{k:Nat}(h:k<l.length):WI (l.drop k)=if l[k].check=0 then WI (l.drop (k+1))else l[k].check:=by rw[ze h];rfl
noncomputable def Zw (l:List qd) (cs:List qe):Int:=if kd l=0 then(if WI cs=0 then KV l cs else WI cs)else kd l
noncomputable def ri:zb->Option O:=ql (α:=List qd×List qe) (fun a=>[.sl 10 (a.1.map qd.V),.sl 7 (a.2.map qe.V)]) (fun a=>2*x4 a.1<=zu/\aD a.2<=zu) fun a=>int (Zw a.1 a.2)
theorem zak(l:List qd)(cs:List qe)(h:2*x4 l<=zu/\aD cs<=zu):ri [.sl 10 (l.map qd.V),.sl 7 (cs.map qe.V)]=some (int (Zw l cs)):=
 qF (V:=fun a:List qd×List qe=>[O.sl 10 (a.1.map qd.V),.sl 7 (a.2.map qe.V)]) (a:=(l,cs)) (fun a b e=>by obtain⟨f,g⟩:=a;obtain⟨i,j⟩:=b;simp only[zk,zI]at e;obtain⟨d,c⟩:=e;injection c with _ c;rw[xm d,kS (fun _ _=>kU) c]) h
theorem Kb(l:List qd)(c:qe)(Y:Hp)(Z:Nat)(a:2*x4 l<=zu)(b:c.cb<=zu):zh false [] ri [.sl 10 (l.map qd.V),.own Z 0 1] (qv Y Z (some ⟨26,7,true,[c.V]⟩)) (Z+1)=some (int (Zw l [c]),qv Y Z (some ⟨26,7,true,[c.V]⟩),Z+1):=
 yA (Y1:=qv (qv Y Z (some ⟨26,7,true,[c.V]⟩)) Z none) (show zD (qv Y Z (some ⟨26,7,true,[c.V]⟩)) [.sl 10 (l.map qd.V),.own Z 0 1]=some ([.sl 10 (l.map qd.V),.sl 7 ([c].map qe.V)],_) by simp) (zak l [c] ⟨a,by simpa[aD]using b⟩) (.inl rfl)
noncomputable abbrev zbw:Ctx:=zR prog [(35,zh false [] FSs2),(36,GC fun c=>int c.check),(37,zh false [] (FSC fun l cs=>int (KV l cs)))]
theorem oy(l:List qd)(cs:List qe)(h:2*x4 l<=zu)(v:aD cs<=zu):zq zbw f15 [.sl 10 (l.map qd.V),.sl 7 (cs.map qe.V)]=some (int (Zw l cs)):=by
 have t:=vG l;have w:=jf cs;have u:zu=2097152:=rfl;refine zm rfl ?_;have m:=fun Y Z=>MZ l Y Z h
 by_cases j:kd l=0
 case neg=>
  have n:=Za j;have o:Zw l cs=kd l:=by unfold Zw;rw[zc j]
  simp[m,n,o,wa,f15]
 rw[j]at m;have o:Zw l cs=if WI cs=0 then KV l cs else WI cs:=by unfold Zw;rw[zd j]
 rw[o];simp[m];refine zP (fun k U Y Z=>U 0=.sl 10 (l.map qd.V)/\U 1=.sl 7 (cs.map qe.V)/\U 14=.sl 7 (cs.map qe.V)/\U 15=int cs.length/\U 16=int k/\WI cs=WI (cs.drop k)) cs.length
  ⟨by simp,by simp,by simp,by simp,by simp,by simp⟩ ?_
 rintro k U Y Z A ⟨p,q,e,f,g,a⟩;by_cases b:k<cs.length
 ·have x:=qG k;obtain⟨c,d⟩:=jc (cs[k]);have B:=kj (show c∈cs by rw[<-d];exact zj b);have r:=fun Y Z=>ZR (fun c=>int c.check) c Y Z (by omega)
  rw[ox b,d]at a;by_cases i:c.check=0
  ·rw[zd i]at a;rw[i]at r;simp[p,q,e,f,g,b,d,r,x];exact⟨by omega,a⟩
  ·rw[zc i]at a;have s:=Za i;have y:¬WI cs=0:=by rw[a];exact i
   simp[p,q,e,f,g,b,d,r,s,a,i,wa,f15]
 ·obtain rfl:k=cs.length:=by omega
  rw[zn]at a;have a:WI cs=0:=a;have z:∀Y Z,zh false [] (FSC fun l cs=>int (KV l cs)) [.sl 10 (l.map qd.V),.sl 7 (cs.map qe.V)] Y Z=some (int (KV l cs),Y,Z):=fun Y Z=>yA (Y1:=Y) (show zD Y [.sl 10 (l.map qd.V),.sl 7 (cs.map qe.V)]=some ([.sl 10 (l.map qd.V),.sl 7 (cs.map qe.V)],Y) by simp) (Rs (fun l cs=>int (KV l cs)) l cs ⟨by omega,v⟩) (.inl rfl)
  simp[p,q,e,f,g,a,z,wa,f15]
theorem W0:zg prog 15 (zh false [] ri):=
 xy (C:=zbw) (zU mixed ⟨Xx,bb,Jm,trivial⟩) func15 false [] fun⟨l,cs⟩ ⟨a,b⟩=>⟨by simp[f15],_,oy l cs a b,qb _⟩
noncomputable def dQ (l:List qd) (c:qe) (x:qY):Bool×Int:=if Zw l [c]=0 then(if x.fault=0 then(hF l x c,0)else(false,x.fault))else(false,Zw l [c])
noncomputable def He (l:List qd) (c:qe) (x:qY):O:=.wG [qS (dQ l c x).1,int (dQ l c x).2]
noncomputable def RT:zb->Option O:=ql (α:=List qd×qe×qY) (fun a=>[.sl 10 (a.1.map qd.V),.agg a.2.1.V,.agg a.2.2.V]) (fun a=>2*x4 a.1<=zu/\a.2.1.cb<=zu/\a.2.2.cb+2<=zu) fun a=>He a.1 a.2.1 a.2.2
theorem M0(l:List qd)(c:qe)(x:qY)(Y:Hp)(Z:Nat)(d:2*x4 l<=zu)(f:c.cb<=zu)(g:x.cb+2<=zu):zh false [] RT [.sl 10 (l.map qd.V),.agg c.V,.agg x.V] Y Z=some (He l c x,Y,Z):=
 Ja (l,c,x) _ _ (by simp[qY.V,wi]) (fun a b e=>by obtain⟨h,i,j⟩:=a;obtain⟨k,m,n⟩:=b;simp only[zk,zI,O.agg.injEq]at e;rw[xm e.1,kU e.2.1,J2 e.2.2]) ⟨d,f,g⟩ (.inl rfl)
theorem oz{l:List qd}{c:qe}(h:Zw l [c]=0):Ye l/\c.check=0/\∀n∈c.names,w7 l n=true:=by
 unfold Zw at h;split at h
 case isFalse b=>exact absurd h b
 rename_i g;have a:=HZ g;split at h
 case isFalse b=>exact absurd h b
 rename_i d;have e:c.check=0:=by
  simp only[WI]at d;split at d
  ·assumption
  ·exact d
 refine⟨a,e,fun n i=>?_⟩;unfold KV at h;split at h
 ·rename_i f;simp only[wI,K8,zhY]at f;unfold oZ at f;have:=zV.1 f n i;rcases Wl a.up n with⟨j,_⟩|⟨_,k⟩
  ·exact j
  ·rw[k]at this;cases this
 ·omega
noncomputable abbrev Crhl:Ctx:=zR prog [(15,zh false [] ri),(16,zh false [] (FX fun x=>int x.fault)),(17,zh false [] (FHe 101 zu))]
theorem D1(l:List qd)(c:qe)(x:qY)(h:2*x4 l<=zu)(i:c.cb<=zu)(s:x.cb+2<=zu):zq Crhl Tryz.f5 [.sl 10 (l.map qd.V),.agg c.V,.agg x.V]=some (He l c x):=by
 have q:zu=2097152:=rfl;refine zm rfl ?_;have g:=fun Y Z=>Kb l c Y Z h i
 unfold He;by_cases a:Zw l [c]=0
 case neg=>
  have j:=Za a;have b:dQ l c x=(false,Zw l [c]):=by unfold dQ;rw[zc a]
  rw[b];simp[qY.V,zp,zE,zo,g,j,wa,Tryz.f5]
 rw[a]at g;have o:=fun Y Z=>HX (fun x=>int x.fault) x Y Z (by omega)
 simp only[qY.V]at o;by_cases d:x.fault=0
 case neg=>
  have p:=Za d;have b:dQ l c x=(false,x.fault):=by unfold dQ;rw[zd a,zc d]
  rw[b];simp[qY.V,zp,zE,zo,g,o,p,wa,Tryz.f5]
 obtain⟨e,f,t⟩:=oz a;have b:dQ l c x=(hF l x c,0):=by unfold dQ;rw[zd a,zd d]
 have r:=fun Y Z=>dP (m:=101) (k:=zu) (l:=l) (c:=c) (x:=x) ⟨⟨e,by omega,s,d⟩,i,i,KZ f,ow f,fun n u=>⟨t n u,by have:=F6 e (jj l n);omega⟩⟩ Y Z
 simp only[qY.V]at r;rw[b];simp[qY.V,zp,zE,zo,g,o,d,r,wa,Tryz.f5]
theorem AA:zg prog 5 (zh false [] RT):=
 xy (C:=Crhl) (zU mixed ⟨W0,iC,hV 101 (D0 101) zu,trivial⟩) func5 false [] fun⟨l,c,x⟩ ⟨a,b,d⟩=>⟨by simp[Tryz.f5],_,D1 l c x a b d,qb _⟩
end Go.Q
namespace Go.AM
variable{dr:Prop}
variable{dr:Prop}
structure Hid (n1 i m:Nat) (g:List (List O)×Option (List O)) (w:World) (S:Nat->Prop) (G:Nat->GI) (Y:Hp) (Z:Nat):Prop where
 li:i<Z
 lm:m<Z
 s1:(G i).s=1
 new:n1<=(G i).g
 ai:Vz S G Y (G i).g
 am:Vz S G Y (G m).g
 obj:∃(en:Array MapEntry) (clock:Nat) (seen:Array Nat),w.heap[(G m).g]?=some (.map en clock)/\Stamped en clock/\w.heap[(G i).g]?=some (.mapIter (some (G m).g) clock seen clock) /\
  g.1.length=(leftOf en seen).toList.length/\(∀(j:Nat) (c:List O) (e:MapEntry),g.1[j]?=some c->(leftOf en seen).toList[j]?=some e->YU w S c e) /\
  ∀c,g.2=some c->∃e zgp,e∈en.toList/\seen=Array.push zgp e.born/\YU w S c e
theorem YU.mono{w w':World}{S a:Nat->Prop}{c:zb}{e:MapEntry}(h:YU w S c e)(d:∀b,S b->a b/\w'.heap[b]?=w.heap[b]?):YU w' a c e:=by obtain⟨k,f,g,i,j,l⟩:=h;exact⟨k,f,g,i,j,l.mono d⟩
theorem dR{w:World}{b:Nat}{o:Obj}(h:w.heap[b]?=some o):b<w.heap.size:=(qg.1 h).1
theorem Hid.stp{P:Program}{n1 i m:Nat}{g:List zb×Option zb}{Y p:Hp}{Z q:Nat}{S r:Nat->Prop}{G s:Nat->GI}{w w':World}(h:Hid n1 i m g w S G Y Z)(hi:Inv P w S G Y Z)(k:kx dr P Y Z S G w p q r s w'):Hid n1 i m g w' r s p q:=by
 obtain⟨t,u,z,A,v,x,en,d,seen,l,B,n,C,D,E⟩:=h;have f:=k.loc i t;have em:=k.loc m u;have y:=k.same hi;have F:w'.heap[(G i).g]?=w.heap[(G i).g]?:=k.fr.block _ (dR n) fun⟨id,b,o,e⟩=>v.2 id b o e
 have H:w'.heap[(G m).g]?=w.heap[(G m).g]?:=k.fr.block _ (dR l) fun⟨id,b,o,e⟩=>x.2 id b o e
 refine⟨yb t k.up,yb u k.up,by rw[f];exact z,by rw[f];exact A,by rw[f];exact v.step k (dR n),by rw[em];exact x.step k (dR l),en,d,seen,by rw[em,H];exact l,B,by rw[f,em,F];exact n,C,fun j c e a b=>(D j c e a b).mono y,fun c I=>?_⟩;obtain⟨e,J,K,L,M⟩:=E c I;exact⟨e,J,K,L,M.mono y⟩
theorem vj.self{P:Program}{d:World}{e L:Nat->Prop}{N Z0:Nat}{f:Nat->GI}{c:Nat}{st:St}{S:Nat->Prop}{G:Nat->GI}{a:Act}{w:World}(h:vj dr P d e L N Z0 f c st S G a w):vj dr P w S (jz st.Y G) N st.Z G c st S G a w:=
 ⟨h.inv,h.jQ,h.size,h.defers,fun _ h=>h,fun _ h=>.inl h,fun id b g=>.inl ⟨id,b,g,rfl⟩,Fr.refl _ _,zf _,fun _ _=>rfl⟩
theorem vj.comp{P:Program}{g:World}{k L:Nat->Prop}{N Z0:Nat}{l:Nat->GI}{i:Nat}{st e:St}{S m:Nat->Prop}{G n:Nat->GI}{a o:Act}{w w':World}(h:vj dr P g k L N Z0 l i st S G a w)(c:vj dr P w S (jz st.Y G) N st.Z G i e m n o w'):vj dr P g k L N Z0 l i e m n o w':=by
 have f:=h.fr.size;have j:∀b,jz st.Y G b->L b\/g.heap.size<=b:=by rintro b ⟨id,blk,h1,rfl⟩;exact h.own id blk h1
 refine⟨c.inv,c.jQ,c.size,c.defers,fun b d=>c.s0 b (h.s0 b d),fun b d=>?_,fun id b d=>?_,h.fr.trans c.fr fun b d h1=>?_,zw h.up c.up,fun id hid=>(c.loc id (yb hid h.up)).trans (h.loc id hid)⟩
 ·rcases c.s1 b d with h1|h1|h1
  ·exact h.s1 b h1
  ·exact .inr (j b h1)
  ·exact .inr (.inr (zw f h1))
 ·rcases c.own id b d with h1|h1
  ·exact j _ h1
  ·exact .inr (zw f h1)
 ·rcases j b h1 with p|p
  ·exact p
  ·omega
abbrev GS:=List zb×Option zb
section
variable{C:Ctx}{pf:FuncId->Bool}{N i m:Nat}
def XC(dr:Prop)(C:Ctx)(N i m:Nat)(c:Code)(st:St)(g:GS)(K:Exit->St->GS->Prop):Prop:=
 ∀(d:World) (h L:Nat->Prop) (Z0:Nat) (j:Nat->GI) (f:Nat) (a:Act) (w:World) (Q:Exit->Act->World->Prop) (S:Nat->Prop) (G:Nat->GI),f<=d.heap.size->vj dr C.P d h L N Z0 j f st S G a w->Hid d.heap.size i m g w S G st.Y st.Z ->
  (∀e b k l w' n o,K e b k->vj dr C.P d h L N Z0 j f b n o l w'->Hid d.heap.size i m k w' n o b.Y b.Z->Q e l w')->c.wpIn Fence.wide 0 C.P Q a w
def cj(dr:Prop)(C:Ctx)(N i m:Nat)(d:Array Oper)(l:List Nat)(st:St)(g:GS)(K:St->GS->Prop):Prop:=
 ∀(c:World) (e L:Nat->Prop) (Z0:Nat) (f:Nat->GI) (h:Nat) (a:Act) (w:World) (Q:Exit->Act->World->Prop) (S:Nat->Prop) (G:Nat->GI),vj dr C.P c e L N Z0 f h st S G a w->Hid c.heap.size i m g w S G st.Y st.Z ->
  (∀b j k w' n o,K b j->vj dr C.P c e L N Z0 f h b n o k w'->Hid c.heap.size i m j w' n o b.Y b.Z->Q .normal k w')->wpOpsIn Fence.wide 0 C.P d Q l a w
theorem XC.of{c:Code}{st:St}{g:GS}{K:Exit->St->GS->Prop}(h:Wp dr C N c st fun e d=>K e d g):XC dr C N i m c st g K:=by
 intro q r L Z0 s f a w Q S G t hs j k;refine h w S (jz st.Y G) st.Z G f a w Q hs.defers.1 ⟨S,G,hs.self⟩ fun e d l w' n b=>?_
 obtain⟨o,p,b⟩:=b;exact k e d g l w' o p n (hs.comp b) (j.stp hs.inv b.stp)
theorem cj.of{d:Array Oper}{l:List Nat}{st:St}{g:GS}{K:St->GS->Prop}(h:QH dr C N d l st fun c=>K c g):cj dr C N i m d l st g K:=by
 intro q r L Z0 s e a w Q S G hs f j;refine h w S (jz st.Y G) st.Z G e a w Q ⟨S,G,hs.self⟩ fun c k w' n b=>?_
 obtain⟨o,p,b⟩:=b;exact j c g k w' o p n (hs.comp b) (f.stp hs.inv b.stp)
def Iw(dr:Prop)(C:Ctx)(N i m:Nat)(y:Code)(K:Exit->St->GS->Prop)(e:Exit)(st:St)(g:GS):Prop:=match e with
 | .normal=>XC dr C N i m y st g K
 |e=>K e st g
@[simp]theorem Ix(y:Code)(K:Exit->St->GS->Prop)(st:St)(g:GS):Iw dr C N i m y K .normal st g=XC dr C N i m y st g K:=rfl
@[simp]theorem zg6(y:Code)(K:Exit->St->GS->Prop)(st:St)(g:GS):Iw dr C N i m y K .ret st g=K .ret st g:=rfl
@[simp]theorem zal(y:Code)(K:Exit->St->GS->Prop)(j:Nat)(st:St)(g:GS):Iw dr C N i m y K (.exit j) st g=K (.exit j) st g:=rfl
theorem XC.seq{x y:Code}{st:St}{g:GS}{K:Exit->St->GS->Prop}(h:XC dr C N i m x st g (Iw dr C N i m y K)):XC dr C N i m (.seq x y) st g K:=by
 intro d f L Z0 j k a w Q S G l hs p n;refine wpIn_seq (h d f L Z0 j k a w _ S G l hs p fun e q u r w' s t o b c=>?_);cases e<;>first
  |exact o d f L Z0 j k r w' Q s t l b c n
  |exact n _ _ _ _ _ _ _ o b c
def oA(id:Nat)(K:Exit->St->GS->Prop)(e:Exit)(st:St)(g:GS):Prop:=match e with
 | .exit j=>if j=id then K .normal st g else K (.exit j) st g
 |e=>K e st g
@[simp]theorem zfZ(id:Nat)(K:Exit->St->GS->Prop)(st:St)(g:GS):oA id K .normal st g=K .normal st g:=rfl
@[simp]theorem zf0(id:Nat)(K:Exit->St->GS->Prop)(st:St)(g:GS):oA id K .ret st g=K .ret st g:=rfl
@[simp]theorem D2(id j:Nat)(K:Exit->St->GS->Prop)(st:St)(g:GS):oA id K (.exit j) st g=if j=id then K .normal st g else K (.exit j) st g:=rfl
theorem XC.block{id:Nat}{b:Code}{st:St}{g:GS}{K:Exit->St->GS->Prop}(h:XC dr C N i m b st g (oA id K)):XC dr C N i m (.block id b) st g K:=by
 intro n o L Z0 p q a w Q S G r hs s k;refine wpIn_block (h n o L Z0 p q a w _ S G r hs s fun e t u v w' x y f c d=>?_);cases e with
 |exit j=>
  unfold oA at f;unfold Exit.inBlock;simp only at f⊢;split at f
  ·rename_i l;rw[zd l];exact k _ _ _ _ _ _ _ f c d
  ·rename_i l;rw[zc l];exact k _ _ _ _ _ _ _ f c d
 |_=>exact k _ _ _ _ _ _ _ f c d
theorem XC.cond{c:Operand}{x y:Code}{st:St}{g:GS}{K:Exit->St->GS->Prop}{b:Bool}(d:get st.U c=some (.v (.bool b)))(h:XC dr C N i m (if b=true then x else y) st g K):XC dr C N i m (.cond c x y) st g K:=by intro e f L Z0 j k a w Q S G l hs n o;obtain⟨p,_⟩:=(xc hs.jQ d).w8;exact wpIn_cond p (h e f L Z0 j k a w Q S G l hs n o)
theorem XC.region{id:Nat}{b:Array Oper}{st:St}{g:GS}{K:Exit->St->GS->Prop}(h:cj dr C N i m b (List.range b.size) st g (fun st g=>K .normal st g)):XC dr C N i m (.region id b false) st g K:=
 fun f j L Z0 k l a w Q S G _ hs n o=>wpIn_region (h f j L Z0 k l a w Q S G hs n fun c p q w' r s t d e=>o .normal c p q w' r s t d e)
def AB(I:Nat->St->GS->Prop)(n:Nat)(K:Exit->St->GS->Prop)(e:Exit)(st:St)(g:GS):Prop:=match e with
 | .normal=>∃k,k<n/\I k st g
 |e=>K e st g
@[simp]theorem zf1(I:Nat->St->GS->Prop)(n:Nat)(K:Exit->St->GS->Prop)(st:St)(g:GS):AB I n K .normal st g=∃k,k<n/\I k st g:=rfl
@[simp]theorem zf2(I:Nat->St->GS->Prop)(n:Nat)(K:Exit->St->GS->Prop)(st:St)(g:GS):AB I n K .ret st g=K .ret st g:=rfl
@[simp]theorem RU(I:Nat->St->GS->Prop)(n j:Nat)(K:Exit->St->GS->Prop)(st:St)(g:GS):AB I n K (.exit j) st g=K (.exit j) st g:=rfl
theorem XC.loop{b:Code}{st:St}{g:GS}{K:Exit->St->GS->Prop}(I:Nat->St->GS->Prop)(n:Nat)(t:I n st g)(h:∀n st g,I n st g->XC dr C N i m b st g (AB I n K)):XC dr C N i m (.loop b) st g K:=by
 intro j q L Z0 r s a w Q S G u hs l v;refine wpIn_loop_rounds (n+1) ?_;have o:∀(k n:Nat) (st:St) (g:GS) (a:Act) (w:World) (S:Nat->Prop) (G:Nat->GI),n<k->I n st g->vj dr C.P j q L N Z0 r s st S G a w->Hid j.heap.size i m g w S G st.Y st.Z->Code.roundsIn Fence.wide 0 C.P b Q k a w:=by
  intro k
  induction k with
  |zero=>intro n st g a w S G x;omega
  |succ k y=>
   intro n st g a w S G x hi hs l;rw[roundsIn_succ];refine h n st g hi j q L Z0 r s a w _ S G u hs l fun e p z A w' B D c d f=>?_
   cases e with
   |normal=>obtain⟨E,H,F⟩:=c;exact y E p z A w' B D (by omega) F d f
   |_=>exact v _ _ _ _ _ _ _ c d f
 exact o _ n st g a w S G (by omega) t hs l
theorem Hid.slot{n1:Nat}{g:GS}{w:World}{S:Nat->Prop}{G:Nat->GI}{Y:Hp}{Z:Nat}(h:Hid n1 i m g w S G Y Z){u:Value}(a:qf w S G Z (.ref i 0 0) u):u=.pointer (some ⟨(G i).g,0,none⟩):=by obtain⟨_,rfl⟩:=a.Wq;simp
theorem oB{α:Type}:∀(l:List α) (j:Nat) (h:j<l.length),l.Perm (l[j]::l.eraseIdx j)
 |x::l,0,_=>by simp
 |x::l,j+1,h=>by have:=oB l j (by simpa using h);simp only[List.getElem_cons_succ,List.eraseIdx_cons_succ];exact(this.cons x).trans (List.Perm.swap _ _ _)
theorem AD{l:List MapEntry}(b:(l.map (·.born)).Nodup){j:Nat}{e:MapEntry}(a:l[j]?=some e):l.filter (fun x=>!(x.born==e.born))=l.eraseIdx j:=by
 induction l generalizing j with
 |nil=>simp at a
 |cons x l c=>
  rw[we,List.nodup_cons]at b;cases j with
  |zero=>
   simp only[List.getElem?_cons_zero,z6]at a;subst a;simp only[Sg,Sk,Bool.not_true,zF,qR,List.eraseIdx_cons_zero];refine List.filter_eq_self.2 fun y d=>?_
   simp only[yI,wN];exact fun e=>b.1 (qj.2 ⟨y,d,e⟩)
  |succ j=>
   simp only[List.getElem?_cons_succ]at a;have f:(!(x.born==e.born))=true:=by simp only[yI,wN];exact fun g=>b.1 (qj.2 ⟨e,zG a,g.symm⟩)
   rw[Sg,f,zd rfl,List.eraseIdx_cons_succ,c b.2 a]
theorem ta{en:Array MapEntry}{seen:Array Nat}(b:(en.toList.map (·.born)).Nodup){j:Nat}{e:MapEntry}(a:(leftOf en seen).toList[j]?=some e):(leftOf en (seen.push e.born)).toList=(leftOf en seen).toList.eraseIdx j:=by
 have c:(leftOf en seen).toList=en.toList.filter fun x=>!seen.contains x.born:=by unfold leftOf;rw[Array.toList_filter]
 have d:(leftOf en (seen.push e.born)).toList=(en.toList.filter fun x=>!seen.contains x.born).filter fun x=>!(x.born==e.born):=by
  unfold leftOf;rw[Array.toList_filter,List.filter_filter];refine List.filter_congr fun x _=>?_
  rw[contains_push,Bool.not_or,Bool.and_comm]
 rw[c]at a⊢;rw[d];exact AD ((List.filter_sublist.map _).nodup b) a
theorem YU.val{w:World}{S:Nat->Prop}{c:zb}{e:MapEntry}(h:YU w S c e):∃k d,c=[.v k,d]/\wJ w S (.wG [.v k,d]) (.tuple #[e.key,e.val])/\wJ w S (.wG [.v (.bool true),.v k,d]) (.tuple #[.bool true,e.key,e.val]):=by
 obtain⟨k,d,i,rfl,f,g⟩:=h;refine⟨_,d,i,.wG rfl fun j p u a b=>?_,.wG rfl fun j p u a b=>?_⟩
 ·match j,a,b with
  | 0,a,b=>simp at a b;subst a;subst b;exact .v f
  | 1,a,b=>simp at a b;subst a;subst b;exact g
  |j+2,a,b=>simp at a
 ·match j,a,b with
  | 0,a,b=>simp at a b;subst a;subst b;exact .v rfl
  | 1,a,b=>simp at a b;subst a;subst b;exact .v f
  | 2,a,b=>simp at a b;subst a;subst b;exact g
  |j+3,a,b=>simp at a
theorem cj.next{z:Array Oper}{j:Nat}{d:Tmp}{x:Operand}{ty:TypeId}{p:String}{af:Array Edge}{l:List Nat}{st:St}{g:GS}{K:St->GS->Prop}
  (ho:z[j]?=some ⟨some d,.next x false,ty,p,af,none⟩) (hd:d<N) (hx:get st.U x=some (.ref i 0 0))
  (M:g.1=[]->cj dr C N i m z l ⟨qv st.U d (.wG [.v (.bool false)]),st.Y,st.Z⟩ g K)
  (E:∀k B R,g.1.Perm ([.v k,B]::R)->cj dr C N i m z l ⟨qv st.U d (.wG [.v (.bool true),.v k,B]),st.Y,st.Z⟩ (R,some [.v k,B]) K):cj dr C N i m z (j::l) st g K:=by
 intro w0 S0 L Z0 G0 n0 a w Q S G hs hh hQ;simp only[wpOpsIn,ho];rw[Qm hs.jQ,zd (vV _ _ _ _ _ _)];have hnd:∀c,(Op.next x false:Op)≠.defer c:=fun c T=>by cases T
 refine⟨fun f _=>trivial,?_⟩;rw[Kg _ _ _ hnd];have W:=hh.slot (xc hs.jQ hx);obtain⟨h1,h2,h3,h4,h5,h6,en,h,seen,g1,g2,g3,g4,g5,g6⟩:=id hh;rcases run_next_at (P:=C.P) w ty (G i).g (G m).g h h seen en h g3 g1 g2.1 (zf _)with⟨e0,q⟩|⟨e,he,w1,r,q⟩
 ·have s:(execOp a.eval ⟨some d,.next x false,ty,p,af,none⟩).run C.P w=.ok (.value (.tuple #[.bool false])) w:=by simp[execOp,W,q,-bind_pure_comp]
  rw[s];have hl:g.1=[]:=jb (by rw[g4];simpa using e0);refine M hl w0 S0 L Z0 G0 n0 (a.put (some d) (.tuple #[.bool false])) w Q S G (hs.step (dst:=some d) (.refl hs.inv) (.c (.wG rfl fun j B u a b=>?_)) (fun _ e=>by cases e;exact hd)) hh hQ
  match j,a,b with
  | 0,a,b=>simp at a b;subst a;subst b;exact .v rfl
  |j+1,a,b=>simp at a
 ·have s:(execOp a.eval ⟨some d,.next x false,ty,p,af,none⟩).run C.P w=.ok (.value (.tuple #[.bool true,e.key,e.val])) (Go.ChangeMaps.setBlock w1 (G i).g (.mapIter (some (G m).g) h (seen.push e.born) h)):=by simp[execOp,W,q,-bind_pure_comp]
  rw[s];obtain⟨F,X,hje⟩:=List.getElem_of_mem he;have t:(leftOf en seen).toList[F]?=some e:=by rw[zl X,hje]
  obtain⟨c,T⟩:∃c,g.1[F]?=some c:=⟨_,zl (by omega)⟩;have hen:=g5 F c e T t;have hem:=(mem_left he).1;obtain⟨w2,o⟩:=jc (Go.ChangeMaps.setBlock w1 (G i).g (.mapIter (some (G m).g) h (seen.push e.born) h));have n:w2.heap=w.heap.setIfInBounds (G i).g (.mapIter (some (G m).g) h (seen.push e.born) h):=by rw[<-o];rcases r with rfl|rfl<;>rfl
  have y:=MapKept.heap_set (o':=Obj.mapIter (some (G m).g) h (seen.push e.born) h) g3;have Nt:Fr dr w (fun b=>b=(G i).g) w2:=⟨by rw[<-o];rcases r with rfl|rfl<;>rfl,by rw[<-o];rcases r with rfl|rfl<;>rfl,by rw[<-o];rcases r with rfl|rfl<;>rfl,by rw[n];simp,fun _=>by rw[<-o];rcases r with rfl|rfl<;>first|exact zf _|exact Zp _,fun k _ hk=>by rw[n];exact y.2 k hk⟩;have hs2:=hs.frame Nt (fun b A=>by rw[A];exact h5) (fun b A=>.inr (by rw[A];exact h4)) (fun D hD A=>by have:=(hs.defers.at hD).2.1;rw[A,g3]at this;cases this)
  rw[o];have hS:∀b,S b->S b/\w2.heap[b]?=w.heap[b]?:=fun b A=>⟨A,Nt.block b (hs.inv.st b A) fun e=>h5.1 (e ▸ A)⟩
  have S7:(G m).g≠(G i).g:=fun e=>by rw[e,g3]at g1;cases g1
  obtain⟨k,B,hcc,hv1,hv2⟩:=(hen.mono hS).val;have hlt:F<g.1.length:=(zi.1 T).1;have H:g.1.Perm ([.v k,B]::g.1.eraseIdx F):=by
   have h7:g.1[F]=[.v k,B]:=by rw[<-hcc];exact(zi.1 T).2
   rw[<-h7];exact oB _ _ hlt
  refine E k B (g.1.eraseIdx F) H w0 S0 L Z0 G0 n0 (a.put (some d) (.tuple #[.bool true,e.key,e.val])) w2 Q S G (hs2.step (dst:=some d) (.refl hs2.inv) (.c hv2) (fun _ e=>by cases e;exact hd)) ?_ hQ;refine⟨h1,h2,h3,h4,h5,h6,en,h,seen.push e.born,by rw[n,y.2 _ S7];exact g1,g2,by rw[n];exact y.1,?_,fun j' c' e' q1 J=>?_,fun c' I=>?_⟩
  ·rw[ta g2.2 t,List.length_eraseIdx_of_lt X,List.length_eraseIdx_of_lt hlt,g4]
  ·rw[ta g2.2 t]at J;simp only[List.getElem?_eraseIdx]at q1 J;split at q1
   ·rename_i hj;rw[zd hj]at J;exact(g5 _ _ _ q1 J).mono hS
   ·rename_i hj;rw[zc hj]at J;exact(g5 _ _ _ q1 J).mono hS
  ·injection I with I;subst I;exact⟨e,seen,hem,rfl,by rw[<-hcc];exact hen.mono hS⟩
theorem cj.entry{n:Array Oper}{j:Nat}{d:Tmp}{x:Operand}{ty:TypeId}{p:String}{A:Array Edge}{l:List Nat}{st:St}{g:GS}{K:St->GS->Prop}{k:Value}{B:O}
  (D:n[j]?=some ⟨some d,.entry x,ty,p,A,none⟩) (hd:d<N) (E:get st.U x=some (.ref i 0 0)) (s:g.2=some [.v k,B])
  (h:cj dr C N i m n l ⟨qv st.U d (.wG [.v k,B]),st.Y,st.Z⟩ g K):cj dr C N i m n (j::l) st g K:=by
 intro F H L Z0 I J a w Q S G hs t M;simp only[wpOpsIn,D];rw[Qm hs.jQ,zd (vV _ _ _ _ _ _)];have u:∀c,(Op.entry x:Op)≠.defer c:=fun c s=>by cases s
 refine⟨fun f _=>trivial,?_⟩;rw[Kg _ _ _ u];have y:=t.slot (xc hs.jQ E);obtain⟨h1,h2,h3,h4,h5,h6,en,b,seen,R,T,W,g4,g5,X⟩:=id t;obtain⟨e,s0,q1,rfl,q3⟩:=X _ s;have o:=run_entry_at (P:=C.P) w (G i).g (G m).g b s0 en b e W R q1 T.2;have q:(execOp a.eval ⟨some d,.entry x,ty,p,A,none⟩).run C.P w=.ok (.value (.tuple #[e.key,e.val])) w:=by simp[execOp,y,o,-bind_pure_comp]
 rw[q];obtain⟨k',pv',r,z,_⟩:=q3.val;simp only[zk,O.v.injEq,zI]at r;obtain⟨rfl,rfl⟩:=r;exact h F H L Z0 I J (a.put (some d) (.tuple #[e.key,e.val])) w Q S G (hs.step (dst:=some d) (.refl hs.inv) (.c z) (fun _ e=>by cases e;exact hd)) t M
theorem zam{P:Program}{o:Oper}{a:Act}{w:World}{K i:Act->World->Prop}{Q f:Exit->Act->World->Prop}(h:∀a w,K a w->i a w)(d:∀e a w,e≠.normal->Q e a w->f e a w)(b:o.wpIn Fence.wide 0 P a w K Q):o.wpIn Fence.wide 0 P a w i f:=by
 unfold Oper.wpIn at *;refine⟨b.1,?_⟩;have b:=b.2;have j:LetsOut Q->LetsOut f:=fun⟨a,w,h⟩=>⟨a,w,d _ _ _ (by simp) h⟩
 generalize (o.semAt Fence.wide.round a.eval).run P w=r at *;cases r with
 |ok x w'=>
  cases x<;>simp only[Oper.uponIn]at b⊢ <;>
   first
    |exact h _ _ b
    |exact⟨b.1,CallsIn.mono b.2 (fun e g c=>by cases e<;>first|exact h _ _ c|exact j c|exact d _ _ _ (by simp) c)⟩
    |exact⟨b.1,RowsIn.mono b.2 (fun _ _ c=>h _ _ c)⟩
    |exact⟨b.1,RoundIn.mono b.2 (fun e g c=>by cases e<;>first|exact h _ _ c|exact j c|exact d _ _ _ (by simp) c)⟩
 |halt x w'=>cases x<;>simp only[Oper.uponIn]at b⊢<;>first|exact b|exact d _ _ _ (by simp) b
theorem zc8{next:Act->World->Prop}{Q:Exit->Act->World->Prop}(e:Exit)(a:Act)(w:World)(h:e≠.normal)(b:Exit.then next Q e a w):Q e a w:=by
 cases e<;>first
  |exact(h rfl).elim
  |exact b
theorem X9{P:Program}{b:Array Oper}{Q:Exit->Act->World->Prop}(l2:List Nat):∀(l:List Nat) (a:Act) (w:World),wpOpsIn Fence.wide 0 P b (Exit.then (wpOpsIn Fence.wide 0 P b Q l2) Q) l a w->wpOpsIn Fence.wide 0 P b Q (l++l2) a w
 |[],a,w,h=>h
 |i::l,a,w,h=>by
  simp only[q6,wpOpsIn]at h⊢;split at h
  ·exact X9 l2 l _ _ h
  ·split at h
   ·rename_i c;rw[zd c];exact zam (fun a w d=>X9 l2 l _ _ d) zc8 h
   ·rename_i c;rw[zc c];exact⟨h.1,X9 l2 l _ _ h.2⟩
theorem kx.hide{P:Program}{w:World}{S:Nat->Prop}{G:Nat->GI}{Y:Hp}{Z:Nat}(h:Inv P w S G Y Z)(m:Nat)(o:Obj):kx dr P Y Z S G w (qv Y m none) (Z+1) S (qv G Z ⟨w.heap.size,0,1⟩) (w.alloc o):=by
 have d:∀b,b<w.heap.size->(w.alloc o).heap[b]?=w.heap[b]?:=fun b a=>Below.heap_alloc w _ b a
 have l:∀b,S b->S b/\(w.alloc o).heap[b]?=w.heap[b]?:=fun b a=>⟨a,d b (h.st b a)⟩
 have f:∀id,id<Z->qv G Z ⟨w.heap.size,0,1⟩ id=G id:=fun id hid=>qO _ _ _ _ (by omega)
 have e:(w.alloc o).heap.size=w.heap.size+1:=by show(w.heap.push _).size=_;simp
 refine⟨⟨fun b a=>by rw[e];have:=h.st b a;omega,fun id b a=>?_,fun id b a=>?_,fun id b a=>?_,fun id id' b n a j p=>?_,h.iQ.mono l⟩,by omega,f,fun _ a=>a,fun _ a=>.inl a,fun id b a=>?_,⟨rfl,rfl,rfl,by rw[e];omega,fun _=>zf _,fun k q _=>d k q⟩⟩
 all_goals have c:=xk a
 all_goals have i:=h.top id b c
 ·omega
 ·rw[f id i];exact(h.live id b c).mono l (by omega) f (d _ (h.live id b c).lt)
 ·rw[f id i];exact h.apart id b c
 ·have g:=xk j;rw[f id i,f id' (h.top id' n g)]at p;exact h.inj id id' b n c g p
 ·rw[f id i];exact .inl ⟨id,b,c,rfl⟩
theorem Wp.range(hg:xa dr C pf){id:Nat}{q:Array Oper}(n:Nat){d:Tmp}{x:Operand}{t kt et ty:TypeId}{p:String}{H:Array Edge}{D:Code}{st:St}{K:Exit->St->Prop}
  (EM:q.toList.drop n=[⟨some d,.range t x,ty,p,H,none⟩]) (hd:q.toList.all (fun o=>match o.dst with|some d=>decide (d<N)|none=>true)=true) (ht:C.P.underlying t=some (.map kt et))
  (h:iU C q (q.toList.take n) st fun st1=>∃m b,get st1.U x=some (.mp m)/\st1.Y m=some b/\b.s=0/\XC dr C N st1.Z m D ⟨qv st1.U d (.ref st1.Z 0 0),qv st1.Y m none,st1.Z+1⟩ (b.es,none) fun e st _=>K e st):Wp dr C N (.seq (.region id q false) D) st K:=by
 obtain⟨pre,I⟩:=jc (q.toList.take n);rw[I]at h;have u:q.toList=pre++[⟨some d,.range t x,ty,p,H,none⟩]:=by rw[<-I,<-EM,kb]
 intro w0 S0 L Z0 G0 n0 a w Q hn hs hQ;refine wpIn_seq (wpIn_region ?_);obtain⟨st1,he,m,b,hx,F,hbs,hG⟩:=h;have hsz:q.size=pre.length+1:=by rw[<-wC,u];simp
 have J:∀o∈pre,∀d,o.dst=some d->d<N:=fun o ho d hd'=>by have:=zV.1 hd o (by rw[u];exact List.mem_append_left _ ho);rw[hd']at this;simpa using this
 have hdN:d<N:=by have:=zV.1 hd ⟨some d,.range t x,ty,p,H,none⟩ (by rw[u];simp);simpa using this
 have ho:q[pre.length]?=some ⟨some d,.range t x,ty,p,H,none⟩:=by rw[<-ia,u];simp
 rw[hsz,List.range_succ];refine X9 _ _ _ _ ?_;have M:(List.range pre.length).map (fun i=>q[i]?)=pre.map some:=by
  apply dT;intro i;rw[qo,qo];by_cases hi:i<pre.length
  ·rw[jZ hi];simp only[zC];rw[<-ia,u,zY hi,zl hi];rfl
  ·rw[wT (by simpa using hi),wT (by simpa using hi)];rfl
 have hw:=fS (l2:=[]) hg M J he (QH.nil (K:=fun st=>st=st1) rfl);rw[yU]at hw;refine hw w0 S0 L Z0 G0 n0 a w _ hs fun r a' w' o1 l=>?_
 subst o1;obtain⟨S,G,l⟩:=l;show wpOpsIn Fence.wide 0 C.P q _ [pre.length] a' w';simp only[wpOpsIn,ho];rw[Qm l.jQ,zd (vV _ _ _ _ _ _)];have hnd:∀c,(Op.range t x:Op)≠.defer c:=fun c hc=>by cases hc
 refine⟨fun f _=>trivial,?_⟩;rw[Kg _ _ _ hnd];obtain⟨m1,m2,hxu⟩:=(xc l.jQ hx).Ho;have R:=(l.inv.live m b F).ent m2;obtain⟨en,k,g1,g2,g3⟩:=R.row;obtain⟨en',B,T,g4⟩:=R.Sl;obtain⟨rfl,rfl⟩:en=en'/\k=B:=by rw[g1]at T;simpa using T
 have W:=run_range_map (P:=C.P) w' t kt et (G m).g en k ht g1;have X:(execOp a'.eval ⟨some d,.range t x,ty,p,H,none⟩).run C.P w'=.ok (.value (.pointer (some ⟨w'.heap.size,0,none⟩))) (w'.alloc (.mapIter (some (G m).g) k #[] k)):=by simp[execOp,hxu,W,-bind_pure_comp]
 rw[X];have hk:=kx.hide (dr:=dr) l.inv m (.mapIter (some (G m).g) k #[] k);have E:qv G r.Z ⟨w'.heap.size,0,1⟩ r.Z=⟨w'.heap.size,0,1⟩:=by simp
 have e2:qv G r.Z ⟨w'.heap.size,0,1⟩ m=G m:=qO _ _ _ _ (by omega);have hr:qf (w'.alloc (.mapIter (some (G m).g) k #[] k)) S (qv G r.Z ⟨w'.heap.size,0,1⟩) (r.Z+1) (.ref r.Z 0 0) (.pointer (some ⟨w'.heap.size,0,none⟩)):=by have:=qf.ref (w:=w'.alloc (.mapIter (some (G m).g) k #[] k)) (S:=S) (G:=qv G r.Z ⟨w'.heap.size,0,1⟩) (Z:=r.Z+1) (id:=r.Z) (i:=0) (j:=0) (by omega) (by rw[E];exact Nat.one_pos);rw[E]at this;exact this
 have hlt:=dR g1;have y:leftOf en #[]=en:=by unfold leftOf;exact Array.filter_eq_self.2 fun x _=>by simp
 have hS:∀b,S b->S b/\(w'.alloc (.mapIter (some (G m).g) k #[] k)).heap[b]?=w'.heap[b]?:=fun b F=>⟨F,Below.heap_alloc w' _ b (l.inv.st b F)⟩
 refine hG w0 S0 L Z0 G0 n0 (a'.put (some d) (.pointer (some ⟨w'.heap.size,0,none⟩))) _ Q S _ hn (l.step (dst:=some d) hk hr (fun _ e=>by cases e;exact hdN)) ?_ fun e st2 g' a2 w2 S2 G2 hk2 hs2 _=>hQ e st2 a2 w2 hk2 ⟨S2,G2,hs2⟩
 refine⟨by simp,by show m<r.Z+1;omega,by rw[E],by rw[E];exact l.fr.size,⟨?_,?_⟩,⟨?_,?_⟩,en,k,#[],?_,g4,?_,?_,?_,?_⟩
 ·rw[E];intro v;exact Nat.lt_irrefl _ (l.inv.st _ v)
 ·rw[E];intro id b' v z;have A:=xk v;rw[qO _ _ _ _ (by have:=l.inv.top id b' A;omega)]at z;have:=(l.inv.live id b' A).lt;simp at z;omega
 ·rw[e2];exact l.inv.apart m b F
 ·rw[e2];intro id b' v z;have A:=xk v;rw[qO _ _ _ _ (by have:=l.inv.top id b' A;omega)]at z;have:=l.inv.inj id m b' b A F z;subst this;simp at v
 ·rw[e2,Below.heap_alloc w' _ _ hlt];exact g1
 ·rw[E,e2];exact Sf w' _
 ·rw[y,wC];exact g2.symm
 ·rw[y];intro j c e a b;exact(g3 j c e a (by simpa using b)).mono hS
 ·intro c hc;cases hc
theorem QH.zgq{k:Array Oper}{j g:Nat}{d:Option Tmp}{b:Array Operand}{ts:Array TypeId}{ty:TypeId}{p:String}{B:Array Edge}{l:List Nat}{st:St}{K:St->Prop}{vs:zb}{R:O->Hp->Nat->Prop}
  (D:k[j]?=some ⟨d,.call ⟨.value (.func g),b,ts⟩,ty,p,B,none⟩) (hd:∀x,d=some x->x<N) (E:∃fn,C.P.funcs[g]?=some fn/\(fn.name== "runtime.NumGoroutine")=false/\fn.body.isNone=false) (m:ya (b.toList.map (get st.U))=some vs)
  (t:∀(w:World) (S:Nat->Prop) (G:Nat->GI) (us:List Value),Inv C.P w S G st.Y st.Z->Zip (qf w S G st.Z) vs us->Calls C.P g us.toArray w fun e w'=>∃x n i v q r,R x n i/\e=.returned v/\kx dr C.P st.Y st.Z S G w n i q r w'/\qf w' q r i x v)
  (h:∀x n i,R x n i->QH dr C N k l ⟨put st.U d x,n,i⟩ K):QH dr C N k (j::l) st K:=by
 intro F H L Z0 I J a w Q hs M;simp only[wpOpsIn,D];obtain⟨S,G,s⟩:=hs;rw[Qm s.jQ,zd (vV _ _ _ _ _ _)];have u:∀c,(Op.call ⟨.value (.func g),b,ts⟩:Op)≠.defer c:=fun c t=>by cases t
 refine⟨fun f _=>trivial,?_⟩;rw[Kg _ _ _ u];obtain⟨fn,T,W,X⟩:=E;have hz:Zip (qf w S G st.Z) vs ((b.map a.eval).toList):=by rw[Array.toList_map];exact Z8 (fun y pv hy=>xc s.jQ hy) m
 have z:¬fn.name= "runtime.NumGoroutine":=by simpa using W
 have A:¬fn.body=none:=by intro h;simp[h]at X
 have o:(execOp a.eval ⟨d,.call ⟨.value (.func g),b,ts⟩,ty,p,B,none⟩).run C.P w=.ok (.enter g (b.map a.eval)) w:=by simp[execOp,resolve,Act.eval,Deferred.ofValue,invoke,callFunc,T,z,A,-bind_pure_comp]
 rw[o];refine⟨fun h=>by simp[Fence.wide]at h,aC.2 ((t w S G _ s.inv hz).mono fun e w' hh=>?_)⟩;obtain⟨x,n,i,v,q,r,hR,rfl,hk,hx⟩:=hh;exact h x n i hR F H L Z0 I J _ w' Q ⟨q,r,s.step hk hx hd⟩ M
theorem Wp.A0(I:xa dr C pf){id bi bj i1 i3:Nat}{q a:Array Oper}(n W:Nat){d j r X:Tmp}{x:Operand}{t kt et ty L D ty3:TypeId}{p p1 p2 p3:String}{af M E af3:Array Edge}{w:Code}{st:St}{K:Exit->St->Prop}(J:List zb->(Nat->O)->Hp->Nat->Prop)
  (EM:q.toList.drop n=[⟨some d,.range t x,ty,p,af,none⟩]) (hd:q.toList.all (fun o=>match o.dst with|some d=>decide (d<N)|none=>true)=true) (ht:C.P.underlying t=some (.map kt et))
  (ho3:a[0]?=some ⟨some X,.entry (.tmp d),ty3,p3,af3,none⟩) (hd3:a.toList.all (fun o=>match o.dst with|some d=>decide (d<N)|none=>true)=true) (hn3:a.size=W+1) (hdd:decide (j<N/\r<N/\X<N/\d≠j/\d≠r/\d≠X)=true)
  (h:iU C q (q.toList.take n) st fun st1=>∃m b,get st1.U x=some (.mp m)/\st1.Y m=some b/\b.s=0/\J [] (qv st1.U d (.ref st1.Z 0 0)) (qv st1.Y m none) (st1.Z+1) /\
   (∀f Q k F U Y Z,b.es.Perm (f++[.v k,F]::Q)->J f U Y Z->U d=.ref st1.Z 0 0->iU C a ((a.toList.drop 1).take W) ⟨qv (qv (qv U j (.wG [.v (.bool true),.v k,F])) r (.v (.bool true))) X (.wG [.v k,F]),Y,Z⟩ fun G=>
    Wp dr C N w G fun e c=>(e=.normal\/e=.exit bj)/\c.U d=.ref st1.Z 0 0/\J (f++[[.v k,F]]) c.U c.Y c.Z) /\
   ∀f U Y Z,b.es.Perm f->J f U Y Z->K .normal ⟨qv (qv U j (.wG [.v (.bool false)])) r (.v (.bool false)),Y,Z⟩) :
  Wp dr C N (.seq (.region id q false) (.block bi (.loop (.seq (.region i1 #[⟨some j,.next (.tmp d) false,L,p1,M,none⟩,⟨some r,.extract (.tmp j) 0,D,p2,E,none⟩] false) (.seq (.cond (.tmp r) .skip (.exit bi)) (.block bj (.seq (.region i3 a false) w))))))) st K:=by
 obtain⟨hd1,hd2,R,n1,n2,n3'⟩:=xG hdd;refine Wp.range I n EM hd ht ?_;obtain⟨st1,he,m,b,hx,hb,hbs,hj0,u,S⟩:=h;refine⟨st1,he,m,b,hx,hb,hbs,XC.block (XC.loop (fun k st g=>g.1.length=k/\st.U d=.ref st1.Z 0 0/\∃f,b.es.Perm (f++g.1)/\J f st.U st.Y st.Z) b.es.length ⟨rfl,by simp,[],by simp,hj0⟩ ?_)⟩;rintro k ⟨U,Y,Z⟩ ⟨Q,cur⟩ ⟨hk,hs,f,Y0,hj⟩;simp only at hk hs Y0 hj;refine XC.seq (XC.region ?_);have z:∀(v:zb) (y:Bool) (g:GS) (K':St->GS->Prop),v[0]?=some (.v (.bool y))->K' ⟨qv (qv U j (.wG v)) r (.v (.bool y)),Y,Z⟩ g->cj dr C N st1.Z m #[⟨some j,.next (.tmp d) false,L,p1,M,none⟩,⟨some r,.extract (.tmp j) 0,D,p2,E,none⟩] [1] ⟨qv U j (.wG v),Y,Z⟩ g K':=fun v y g K' hv hk'=>by refine cj.of (QH.cons I (o:=⟨some r,.extract (.tmp j) 0,D,p2,E,none⟩) rfl (fun _ e=>by cases e;exact hd2) (st1:=⟨qv (qv U j (.wG v)) r (.v (.bool y)),Y,Z⟩) ?_ (QH.nil hk'));rw[Br];simp[zX,AM.get,hv,put]
 refine cj.next (l:=[1]) rfl hd1 (by simp[AM.get,hs]) (fun hl=>?_) (fun T F i H=>?_)
 ·simp only at hl;subst hl;refine z _ false _ _ rfl ?_;show XC dr C N st1.Z m _ _ _ _;refine XC.seq (XC.cond (b:=false) (by simp[AM.get]) ?_);rw[zc (by simp)];refine XC.of (Wp.of I rfl ?_);rw[Bn];simp only[zal,RU,D2,qH];exact S f U Y Z (by simpa using Y0) hj
 ·simp only at H;refine z _ true _ _ rfl ?_;show XC dr C N st1.Z m _ _ _ _;refine XC.seq (XC.cond (b:=true) (by simp[AM.get]) ?_);rw[zd rfl];refine XC.of (Wp.of I rfl ?_);rw[Bm];simp only[Ix];refine XC.block (XC.seq (XC.region ?_));have hsz:List.range a.size=0::(List.range' 1 W++[]):=by rw[hn3,yU,zgd,List.range'_succ]
  rw[hsz];refine cj.entry ho3 R (by simp[AM.get,qO _ _ _ _ n1,qO _ _ _ _ n2,hs]) rfl ?_;refine cj.of (QH.VA I 1 W (by omega) hd3 ?_);have A:b.es.Perm (f++[.v T,F]::i):=Y0.trans (H.append_left f);obtain⟨G,e2,hw⟩:=u f i T F U Y Z A hj hs;refine⟨G,e2,QH.nil ?_⟩;simp only[Ix];have hll:i.length<k:=by rw[<-hk,H.length_eq];simp
  refine XC.of (hw.mono fun e c hh=>?_);obtain⟨he3,q1,q2⟩:=hh;have B:∃k',k'<k/\(i.length=k'/\c.U d=.ref st1.Z 0 0/\∃f,b.es.Perm (f++i)/\J f c.U c.Y c.Z):=⟨_,hll,rfl,q1,_,by simpa using A,q2⟩;rcases he3 with rfl|rfl
  ·exact B
  ·simp only[D2,qH];exact B
def K1(a:Array Oper):Nat->Array Bool->List (List Nat)
 | 0,_=>[[]]
 |f+1,b=>if(Region.ready .any a b).isEmpty=true then[[]]else(Region.ready .any a b).flatMap fun i=>(K1 a f (b.setIfInBounds i true)).map (i::·)
theorem tc(ops:Array Oper):∀(f t:Nat) (ls:Array Bool),Region.linearise.go .any ops f t ls []∈K1 ops f ls
 | 0,t,ls=>by simp[Region.linearise.go,K1]
 |f+1,t,ls=>by
  simp only[Region.linearise.go];change (match(Region.ready .any ops ls)[t % (Region.ready .any ops ls).length]? with
   |some i=>Region.linearise.go .any ops f (t/(Region.ready .any ops ls).length) (ls.setIfInBounds i true) [i]
   |none=>[].reverse)∈K1 ops (f+1) ls
  unfold K1;cases hi:(Region.ready .any ops ls)[t % (Region.ready .any ops ls).length]? with
  |none=>
   have hnil:Region.ready .any ops ls=[]:=by
    cases hr:Region.ready .any ops ls with
    |nil=>rfl
    |cons x xs=>rw[hr]at hi;have hlt:t % (x::xs).length<(x::xs).length:=Nat.mod_lt _ (by simp);simp at hi;simp at hlt;omega
   rw[hnil];simp
  |some i=>
   have hm:=zG hi;rw[zc (by intro he;rw[List.isEmpty_iff]at he;rw[he]at hm;cases hm)]
   simp only[];rw[linearise_go_acc,List.reverse_singleton,List.singleton_append];exact List.mem_flatMap.2 ⟨i,hm,qj.2 ⟨_,tc ops f _ _,rfl⟩⟩
theorem Wp.Nk(hm:C.P.follows .mixedOrders=true){id:Nat}{ops:Array Oper}{st:St}{K:Exit->St->Prop}(h:∀l∈K1 ops ops.size (Array.replicate ops.size false),QH dr C N ops l st (Y9 K)):Wp dr C N (.region id ops true) st K:=
 fun w0 S0 L Z0 G0 n0 a w Q _ hs hQ=>wpIn_region_draw fun t=>by rw[hm];exact h _ (by simp only[Region.schedule,dU,qH,Region.linearise];exact tc ops _ _ _) w0 S0 L Z0 G0 n0 a _ Q hs.drew fun st' a' w' hk hs'=>hQ .normal st' a' w' hk hs'
theorem QH.ord(b:xa dr C pf){a:Array Oper}(l:List Nat){st:St}{K:St->Prop}(c:l.map (fun i=>a[i]?)=(l.filterMap fun i=>a[i]?).map some)(hd:a.toList.all (fun o=>match o.dst with|some d=>decide (d<N)|none=>true)=true)(h:iU C a (l.filterMap fun i=>a[i]?) st K):QH dr C N a l st K:=by
 rw[<-yU l];refine QH.pre b c (zV.2 fun o e=>zV.1 hd o ?_) ?_
 ·obtain⟨i,_,hi⟩:=List.mem_filterMap.1 e;exact Array.mem_toList_iff.2 (ib hi)
 ·obtain⟨st1,f,g⟩:=h;exact⟨st1,f,QH.nil g⟩
end
end Go.AM
namespace Go.Q
theorem RV{l:List qd}(d:aq (l.map qd.name))(c:qe):Qx l c=oZ l c.names:=by
 unfold Qx oZ;congr 1;funext n;rcases Wl d n with⟨a,e,b,_⟩|⟨a,b⟩
 ·rw[a,b];rfl
 ·rw[a,b];rfl
noncomputable abbrev Cxcs:Ctx:=zR prog [(23,zh false [] (FSs fun l=>int (kd l))),(24,GC fun c=>int c.check),(25,zh false [] FKn)]
theorem D3(l:List qd)(cs:List qe)(h:2*x4 l<=zu)(B:aD cs<=zu):zq Cxcs f11 [.sl 10 (l.map qd.V),.sl 7 (cs.map qe.V)]=some (int (Zw l cs)):=by
 have v:=vG l;have y:=jf cs;have w:zu=2097152:=rfl;refine zm rfl ?_;have q:=fun Y Z=>Rb (fun l=>int (kd l)) l Y Z (by omega) rfl
 by_cases o:kd l=0
 case neg=>
  have r:=Za o;have n:Zw l cs=kd l:=by unfold Zw;rw[zc o]
  simp[q,r,n,wa,f11]
 have s:=HZ o;rw[o]at q;have n:Zw l cs=if WI cs=0 then KV l cs else WI cs:=by unfold Zw;rw[zd o]
 rw[n];simp[q];refine zP (fun k U Y Z=>U 0=.sl 10 (l.map qd.V)/\U 1=.sl 7 (cs.map qe.V)/\U 16=.sl 7 (cs.map qe.V)/\U 17=int cs.length/\U 18=int k/\WI cs=WI (cs.drop k)) cs.length
  ⟨by simp,by simp,by simp,by simp,by simp,by simp⟩ ?_
 rintro k U Y Z x ⟨i,p,d,e,f,g⟩;by_cases a:k<cs.length
 ·have t:=qG k;obtain⟨c,b⟩:=jc (cs[k]);have z:=kj (show c∈cs by rw[<-b];exact zj a);have j:=fun Y Z=>ZR (fun c=>int c.check) c Y Z (by omega)
  rw[ox a,b]at g;by_cases m:c.check=0
  ·rw[zd m]at g;rw[m]at j;simp[i,p,d,e,f,a,b,j,t];exact⟨by omega,g⟩
  ·rw[zc m]at g;have u:=Za m;simp[i,p,d,e,f,a,b,j,u,g,m,wa,f11]
 obtain rfl:k=cs.length:=by omega
 rw[zn]at g;have A:WI cs=0:=g;simp[i,p,d,e,f,A];clear x a d e f g;refine zP (fun k U Y Z=>U 0=.sl 10 (l.map qd.V)/\U 28=.sl 7 (cs.map qe.V)/\U 29=int cs.length/\U 30=int k/\(cs.all fun c=>oZ l c.names)=(cs.drop k).all fun c=>oZ l c.names) cs.length
  ⟨by simp[i],by simp,by simp,by simp,by simp⟩ ?_
 clear i p U Y Z;rintro k U Y Z x ⟨i,d,e,f,g⟩;by_cases a:k<cs.length
 ·have t:=qG k;obtain⟨c,b⟩:=jc (cs[k]);have z:=kj (show c∈cs by rw[<-b];exact zj a);have j:=fun Y Z=>C7 l c Y Z (by omega) (by omega)
  rw[fL a,b]at g;rw[RV s.up]at j;cases m:oZ l c.names
  ·rw[m]at j g;have n:KV l cs=9:=by unfold KV;rw[g];rfl
   simp[i,d,e,f,a,b,j,n,wa,f11]
  ·rw[m]at j g;simp[i,d,e,f,a,b,j,t];exact⟨by omega,by simpa using g⟩
 ·obtain rfl:k=cs.length:=by omega
  rw[zn]at g;have n:KV l cs=0:=by unfold KV;rw[g];rfl
  simp[i,d,e,f,n,wa,f11]
theorem K2:zg prog 11 (zh false [] ri):=
 xy (C:=Cxcs) (zU mixed ⟨ax,db,gT,trivial⟩) func11 false [] fun⟨l,cs⟩ ⟨a,b⟩=>⟨by simp[f11],_,D3 l cs a b,qb _⟩
noncomputable abbrev Chls:Ctx:=zR prog [(11,zh false [] ri),(12,zh false [] (FX fun x=>int x.fault)),(13,askS),(14,Vt (DJ 101) zu)]
theorem zan:Gd Chls:=zU mixed ⟨K2,nk,MP,om (MR 101) zu,trivial⟩
theorem RW(l:List qd)(c:qe)(x:qY)(h:2*x4 l<=zu)(u:c.cb<=zu)(C:x.cb+2<=zu){code:Code}(f:Tryz.f4.body=some code) :
  Wp True Chls Tryz.f4.ntmps code ⟨j9 [.sl 10 (l.map qd.V),.agg c.V,.agg x.V],fun _=>none,0⟩ (Jt Chls.P Tryz.f4 (xx (He l c x))):=by
 have D:zu=2097152:=rfl;have E:=vG l;have g:=zan;have s:=fun Y Z=>Kb l c Y Z h u
 have k:=fun Y Z=>HX (fun x=>int x.fault) x Y Z (by omega)
 simp only[qY.V]at k;injection f with f
 subst f;unfold He;refine Wp.cut g (fun U Y Z=>U 0=.sl 10 (l.map qd.V)/\U 4=.ref 0 0 0/\U 5=.ref 1 0 0/\Y=qv (qv (fun _=>none) 0 (some ⟨26,7,false,[c.V]⟩)) 1 (some ⟨29,2,false,[x.V]⟩)/\Z=2) (by kernel_rfl) (by simp[qY.V]) ?_;rintro U Y Z ⟨a,b,d,rfl,rfl⟩;by_cases i:Zw l [c]=0
 case neg=>
  have v:=Za i;have o:dQ l c x=(false,Zw l [c]):=by unfold dQ;rw[zc i]
  rw[o];refine Wp.cut g (fun _ _ _=>False) (by kernel_rfl) ?_ fun _ _ _ h=>h.elim
  simp[a,b,d,zp,zE,zo,s,v,xx,Tryz.f4];exact qb _
 rw[i]at s;refine Wp.cut g (fun U Y Z=>U 0=.sl 10 (l.map qd.V)/\U 4=.ref 0 0 0/\U 5=.ref 1 0 0/\Y=qv (qv (qv (fun _=>none) 0 (some ⟨26,7,false,[c.V]⟩)) 1 (some ⟨29,2,false,[x.V]⟩)) 2 (some ⟨26,7,true,[c.V]⟩)/\Z=3) (by kernel_rfl) (by simp[a,b,d,zp,zE,zo,s,qY.V]) ?_;clear a b d s U;rintro U Y Z ⟨a,b,d,rfl,rfl⟩;by_cases t:x.fault=0
 case neg=>
  have w:=Za t;have o:dQ l c x=(false,x.fault):=by unfold dQ;rw[zd i,zc t]
  rw[o];refine Wp.cut g (fun _ _ _=>False) (by kernel_rfl) ?_ fun _ _ _ h=>h.elim
  simp[a,b,d,qY.V,k,w,xx,Tryz.f4];exact qb _
 rw[t]at k;obtain⟨q,y,z⟩:=oz i;have o:dQ l c x=(hF l x c,0):=by unfold dQ;rw[zd i,zd t]
 rw[o];obtain⟨H,A⟩:∃H:Hp,H=qv (qv (qv (fun _=>none) 0 (some ⟨26,7,false,[c.V]⟩)) 1 (some ⟨29,2,false,[x.V]⟩)) 2 (some ⟨26,7,true,[c.V]⟩):=⟨_,rfl⟩;rw[<-A];have K:H 0=some ⟨26,7,false,[c.V]⟩:=by rw[A];simp
 have B:H 1=some ⟨29,2,false,[x.V]⟩:=by rw[A];simp
 refine Wp.cut g (fun U Y Z=>U 0=.sl 10 (l.map qd.V)/\U 4=.ref 0 0 0/\U 5=.ref 1 0 0/\Y=H/\Z=3) (by kernel_rfl) (by simp[a,b,d,B,k,qY.V]) ?_;clear a b d k U;rintro U Y Z ⟨a,b,d,rfl,rfl⟩;have e:=zaa l x Y 3;obtain⟨r,Q,R,F,rfl,_,_,S⟩:=Xw (mem:=DJ 101) (l:=l) (x:=x) (ida:=5) (m:=4) (Z0:=6) (I:=fun j=>j<l.length/\Uc l j<101) (by omega) (by omega) (by omega) (by omega) C (fun j Y Z G z L=>Io (by omega) (by omega) (by omega) q (by omega) C 101 j Y Z G.1 G.2 z L) zu c
  (qv (qv (qv Y 3 (some ⟨29,2,false,[x.V]⟩)) (3+1) (some (oi []))) (3+2) (some (DI l x (3+1)))) 6 u u (KZ y) (fun n M=>⟨fq (z n M),by have:=F6 q (jj l n);omega⟩) (zf _) ⟨by simp,[],by simp,fun p Y=>by cases Y⟩
 simp only[qY.V]at e F B;refine Wp.seq (Wp.Nk mixed ?_);rw[show K1 _ _ _=[[0,1,2,3,4,5,6],[0,1,3,2,4,5,6],[0,3,1,2,4,5,6],[1,0,2,3,4,5,6],[1,0,3,2,4,5,6],[1,3,0,2,4,5,6],[3,0,1,2,4,5,6],[3,1,0,2,4,5,6]]from by kernel_rfl];intro N J;simp only[zv,K9,or_false]at J;rcases J with rfl|rfl|rfl|rfl|rfl|rfl|rfl|rfl
 all_goals
  refine QH.ord g _ (by kernel_rfl) (by decide) ?_;simp[a,b,d,K,B,e,F,qY.V];refine Wp.of g (by kernel_rfl) ?_;simp[xx,Tryz.f4];exact qb _
theorem D4:zg prog 4 (zh false [] RT):=
 Ys (C:=Chls) (pf:=fun _=>true) (fn:=Tryz.f4) (code:=_) ⟨func4,by kernel_rfl,rfl,by kernel_rfl⟩ false [] _ fun args r h=>by obtain⟨⟨l,c,x⟩,rfl,⟨a,b,d⟩,rfl⟩:=zN h;exact⟨by simp[Tryz.f4],RW l c x a b d rfl⟩
@[simp]theorem szFc:qz prog 76=some 1:=by kernel_rfl
@[simp]theorem agFc:yo prog 76=some false:=by kernel_rfl
def Xy(K:List za)(s:za):List za:=if s∈K then K else K++[s]
theorem D5{K:List za}{s n:za}:n∈Xy K s↔n∈K\/n=s:=by
 unfold Xy;split
 ·rename_i h;exact⟨.inl,fun a=>a.elim id fun e=>e ▸ h⟩
 ·simp
theorem Iy{K:List za}{s:za}(h:K.Nodup):(Xy K s).Nodup:=by
 unfold Xy;split
 ·exact h
 ·rename_i hs;exact List.nodup_append.2 ⟨h,by simp,fun a d b c=>by simp at c;subst c;exact fun e=>hs (e ▸ d)⟩
theorem D6(s:za):∀(l:List za) (i:Nat),s∈l->∃j,kH (.string ⟨s.toArray⟩) (QL l) i=some (some (i+j,qS true))/\l[j]?=some s
 |[],i,h=>by simp at h
 |x::l,i,h=>by
  by_cases a:s=x
  ·subst a;exact⟨0,by simp[QL,kH,kF],rfl⟩
  ·have b:kF (.string ⟨s.toArray⟩) (.string ⟨x.toArray⟩)=some false:=by simp only[kF];congr 1;rw[wN];intro e;exact a (by simpa[YB]using e)
   have c:kH (.string ⟨s.toArray⟩) (QL (x::l)) i=kH (.string ⟨s.toArray⟩) (QL l) (i+1):=by simp only[QL,we,kH,b]
   obtain⟨j,d,f⟩:=D6 s l (i+1) ((zv.1 h).resolve_left a);exact⟨j+1,by rw[c,d];congr 3;omega,by simpa using f⟩
theorem Iz{Y:Hp}{id:Nat}{l:List za}(s:za)(h:Y id=some (pR l)):xb prog Y 74 (.mp id) (str s) (qS true)=some (qv Y id (some (pR (Xy l s)))):=by
 by_cases hs:s∈l
 ·obtain⟨j,c,a⟩:=D6 s l 0 hs;have d:(QL l).set j [str s,qS true]=QL l:=by
   apply dT;intro k;by_cases b:j=k
   ·subst b;have e:=(zi.1 a).1;rw[ve (by simpa[QL]using e)];simp[QL,a]
   ·rw[yH b]
  have hi:Xy l s=l:=by unfold Xy;rw[zd hs]
  rw[hi];simp[xb,h,pR,Y4,c];rw[d]
 ·have hi:Xy l s=l++[s]:=by unfold Xy;rw[zc hs]
  rw[hi];exact UP s h hs
noncomputable abbrev RX:AM.Spec:=yr C0 f45
theorem M1:zg prog 45 RX:=ky jG func45
def iM(b:Nat):O:=.fn (.func 45) [] [.ref b 0 0]
structure o5 (m b:Nat) (K:List (List UInt8)) (Y:Hp):Prop where
 set:Y m=some (pR K)
 box:Y b=some ⟨74,1,false,[[.mp m]]⟩
theorem o5.qv{m b:Nat}{K:List za}{Y:Hp}(h:o5 m b K Y){j:Nat}(x:Option kv)(a:j≠m)(c:j≠b):o5 m b K (qv Y j x):=
 ⟨by rw[zx _ _ _ _ a.symm];exact h.set,by rw[zx _ _ _ _ c.symm];exact h.box⟩
theorem zao(c:qe)(m b:Nat)(d:m≠b)(K:List za)(Y:Hp)(Z:Nat)(n:m<Z)(o:b<Z)(f:o5 m b K Y):∃x g h,RX [.agg c.V,.ref b 0 0] Y Z=some (x,g,h)/\yP (·=m) (o5 m b) (.wG []) (Xy K c.attr) Y Z x g h:=by
 have i:Y b=some ⟨74,1,false,[[.mp m]]⟩:=f.box;have k:¬b=Z:=by omega
 have a:qv Y Z (some (⟨26,7,false,[c.V]⟩:kv)) m=some (pR K):=by rw[zx _ _ _ _ (by omega)];exact f.set
 have e:=Iz c.attr a;unfold RX yr;rw[zd (by simp[f45])];refine qE rfl ?_;simp[i,k,e,yP,f45];exact⟨⟨by simp,by rw[zx _ _ _ _ d.symm,zx _ _ _ _ (by omega)];exact i⟩,fun j p l=>by rw[zx _ _ _ _ l,zx _ _ _ _ (by omega)]⟩
noncomputable def etS:Nat->AM.Spec
 | 0=>fun _ _ _=>none
 |n+1=>yr (zR prog [(89,etS n),(45,RX)]) f89
theorem D7:∀n,zg prog 89 (etS n)
 | 0=>Z4 ⟨_,func89,by kernel_rfl,by kernel_rfl⟩
 |n+1=>ky (qw (q:=[]) (l:=[(89,etS n),(45,RX)]) mixed ⟨D7 n,by simp,M1,by simp,trivial⟩) func89
def QC(K:List za)(ts:List qe):List za:=ts.foldl (fun K t=>Xy K t.attr) K
theorem RY(K:List za)(a b:List qe):QC K (a++b)=QC (QC K a) b:=List.foldl_append
theorem oC{n:za}:∀(ts:List qe) (K:List za),n∈QC K ts↔n∈K\/∃t∈ts,t.attr=n
 |[],K=>by simp[QC]
 |t::ts,K=>by
  show n∈QC (Xy K t.attr) ts↔_;rw[oC ts,D5];constructor
  ·rintro ((h|rfl)|⟨u,h1,a⟩)
   ·exact .inl h
   ·exact .inr ⟨t,by simp,rfl⟩
   ·exact .inr ⟨u,by simp[h1],a⟩
  ·rintro (h|⟨u,h1,rfl⟩)
   ·exact .inl (.inl h)
   ·rcases zv.1 h1 with rfl|h1
    ·exact .inl (.inr rfl)
    ·exact .inr ⟨u,h1,rfl⟩
theorem AE:∀(ts:List qe) (K:List za),K.Nodup->(QC K ts).Nodup
 |[],K,h=>h
 |t::ts,K,h=>AE ts _ (Iy h)
theorem Hf(m b:Nat)(r:m≠b):∀(n:Nat) (c:qe) (K:List za) (Y:Hp) (Z:Nat),c.cb<=n->c.cb<=zu->m<Z->b<Z->o5 m b K Y ->
  ∃x L M,etS n [.agg c.V,iM b] Y Z=some (x,L,M)/\yP (·=m) (o5 m b) (.wG []) (QC K c.yq) Y Z x L M
 | 0,c,_,_,_,h,_,_,_,_=>absurd h (by have:=Kx c;omega)
 |n+1,c,K,C,a,Q,R,hm,hb,D=>by
  have S:=Zm c;have T:=jf c.args;have s:=dJ c;have N:zu=2097152:=rfl;unfold etS yr;rw[zd (by simp[f89])];refine qE rfl ?_;have g:=D.qv (j:=a) (some ⟨26,7,false,[c.V]⟩) (by omega) (by omega);refine jI (fun U Y Z=>U 1=iM b/\U 2=.ref a 0 0/\Y=qv C a (some ⟨26,7,false,[c.V]⟩)/\Z=a+1) (by simp) ?_;rintro U Y Z ⟨f,q,rfl,rfl⟩;refine jI (fun U Y Z=>U 1=iM b/\U 2=.ref a 0 0/\a<Z/\Y a=some ⟨26,7,false,[c.V]⟩/\(∀j,j<a->¬j=m->Y j=C j)/\∃l,o5 m b l Y/\QC K c.yq=QC l (ko c.args)) ?_ ?_
  ·by_cases z:c.kind=4
   ·obtain⟨x,Y2,E,F,rfl,G,W,A⟩:=zao c m b r K _ (a+1) (by omega) (by omega) g;simp only[iM]at f;have H:¬45=89:=by decide
    simp[f,q,z,H,F,iM];refine⟨by omega,by rw[A a (by omega) (by omega)];simp,fun j I B=>by rw[A j (by omega) B,zx _ _ _ _ (by omega)],_,G,?_⟩;rw[s,zd z];rfl
   ·have J:=wU z;simp[f,q,J];refine⟨fun j I _=>by rw[zx _ _ _ _ (by omega)],K,g,?_⟩;rw[s,zc z,jJ]
  clear f q g U;rintro U Y Z ⟨f,q,o,t,e,l,u,d⟩;simp[q,t];refine zP (fun k U Y Z=>U 1=iM b/\U 13=.sl 7 (c.args.map qe.V)/\U 14=int c.args.length/\U 15=int k/\a<Z/\(∀j,j<a->¬j=m->Y j=C j)/\∃P,o5 m b P Y/\QC K c.yq=QC P (ko (c.args.drop k))) c.args.length
   ⟨by simp[f],by simp,by simp,by simp,o,e,l,u,by simpa using d⟩ ?_
  clear f q o t e u d l U Y Z;rintro i U Y Z hi ⟨f,v,w,y,o,e,l,u,d⟩;by_cases p:i<c.args.length
  ·have X:=kj (zj p);have hw:=qG i;obtain⟨x,Y2,E,F,rfl,G,W,A⟩:=Hf m b r n c.args[i] l (qv Y Z (some ⟨26,7,false,[c.args[i].V]⟩)) (Z+1) (by omega) (by omega) (by omega) (by omega) (u.qv _ (by omega) (by omega));rw[DA p,RY]at d;simp[f,v,w,y,p,F,hw];exact⟨by omega,by omega,fun j I B=>by rw[A j (by omega) B,zx _ _ _ _ (by omega)];exact e j I B,_,G,d⟩
  ·obtain rfl:i=c.args.length:=by omega
   rw[zn]at d;simp[f,v,w,y,yP,d,f89];exact⟨u,by omega,e⟩
theorem oD(l:List qd)(c:qe)(d:x4 l<=zu)(e:c.cb<=zu)(f:∀s∈l,∀n∈s.cond.names,w7 l n=true)(g:∀n∈c.names,w7 l n=true){y:O}{Y Y1:Hp}(Z:Nat)(h:zD Y [.sl 10 (l.map qd.V),y]=some ([.sl 10 (l.map qd.V),.sl 7 [c.V]],Y1)) :
  ∃id a b,hFz DL [.sl 10 (l.map qd.V),y] Y Z=some (.mp id,a,b)/\Z<=id/\id<b/\a id=some (fP (KW l c.names))/\∀j,j<Z->a j=Y1 j:=by
 obtain⟨id,a,b,i,k⟩:=zab l c d e f g Y1 Z;exact⟨id,a,b,by simp only[hFz,h,z7,i],k⟩
theorem unMI:prog.underlying 45=some (.map 3 4):=by kernel_rfl
theorem unMS:prog.underlying 74=some (.map 9 4):=by kernel_rfl
theorem oE{M:List Nat}{c:zb}(h:c∈Q7 M):∃i∈M,c=[int i,qS true]:=by obtain⟨i,a,rfl⟩:=qj.1 h;exact⟨i,a,rfl⟩
theorem dS(V:List Nat)(i:Nat):Q7 V++[[int i,qS true]]=Q7 (V++[i]):=by simp[Q7]
def decV:zb->Nat
 |[.v (.int _ z),_]=>z.toNat
 |_=>0
theorem fU{M V:List Nat}(h:(Q7 M).Perm (Q7 V)):V.Perm M:=by
 have:=h.map decV;have e:∀M:List Nat,(Q7 M).map decV=M:=fun M=>by
  unfold Q7;rw[zaD]
  conv=>rhs;rw[<-List.map_id M]
  exact x1 fun i _=>by simp[decV]
 rw[e,e]at this;exact this.symm
theorem RZ{M:List za}{c:zb}(h:c∈QL M):∃s∈M,c=[str s,qS true]:=by obtain⟨i,a,rfl⟩:=qj.1 h;exact⟨i,a,rfl⟩
def decM:zb->za
 |[.v (.string b),_]=>b.toList
 |_=>[]
theorem M3{M V:List za}(h:(QL M).Perm (QL V)):V.Perm M:=by
 have:=h.map decM;have e:∀M:List za,(QL M).map decM=M:=fun M=>by
  unfold QL;rw[zaD]
  conv=>rhs;rw[<-List.map_id M]
  exact x1 fun s _=>by simp[decM,YB]
 rw[e,e]at this;exact this.symm
def Z5(l:List qd)(i:Nat):List qe:=match l[i]? with
 |some s=>s.cond.yq
 |none=>[]
def cg(l:List qd)(K:List za)(V:List Nat):List za:=V.foldl (fun K i=>QC K (Z5 l i)) K
theorem R0(l:List qd)(K:List za)(V:List Nat)(i:Nat):cg l K (V++[i])=QC (cg l K V) (Z5 l i):=by simp[cg]
theorem D8{l:List qd}{n:za}:∀(V:List Nat) (K:List za),n∈cg l K V↔n∈K\/∃i∈V,∃t∈Z5 l i,t.attr=n
 |[],K=>by simp[cg]
 |i::V,K=>by show n∈cg l (QC K (Z5 l i)) V↔_;rw[D8 V,oC];simp[or_assoc]
theorem IA{l:List qd}:∀(V:List Nat) (K:List za),K.Nodup->(cg l K V).Nodup
 |[],K,h=>h
 |i::V,K,h=>IA V _ (AE _ _ h)
noncomputable abbrev Cevt:Ctx:=zR prog [(89,etS zu),(20,hFz DL)]
theorem zap:Gd Cevt:=zU mixed ⟨D7 zu,fQ,trivial⟩
def EvtR(l:List qd)(c:qe)(m b:Nat)(e:List za)(f:Hp)(a:Nat)(x:O)(d:Hp)(g:Nat):Prop:=x=.wG []/\a<=g/\(∃V,V.Perm (KW l c.names)/\o5 m b (cg l (QC e c.yq) V) d)/\∀j,j<a->¬j=m->d j=f j
theorem zc9(l:List qd)(c:qe)(u:Ye l)(hl:x4 l<=zu)(F:c.cb<=zu)(S:∀n∈c.names,w7 l n=true)(m b:Nat)(w:m≠b)(g:List za)(t:Hp)(a:Nat)(hm:m<a)(hb:b<a)(G:o5 m b g t){code:Code}(o:f44.body=some code) :
  Wp True Cevt f44.ntmps code ⟨j9 [.sl 10 (l.map qd.V),.sl 7 [c.V],iM b],t,a⟩ (Jt Cevt.P f44 (EvtR l c m b g t a)):=by
 have H:=zap;have T:=u.known;have hll:=vG l;have W:zu=2097152:=rfl;have I:=Ka u.len T S;injection o with o
 subst o;refine Wp.cut H (fun U Y Z=>U 0=.sl 10 (l.map qd.V)/\U 1=.sl 7 [c.V]/\U 2=iM b/\a<=Z/\o5 m b (QC g c.yq) Y/\∀j,j<a->¬j=m->Y j=t j) (by kernel_rfl) ?_ ?_
 ·simp;refine zP (fun k U Y Z=>U 0=.sl 10 (l.map qd.V)/\U 1=.sl 7 [c.V]/\U 2=iM b/\U 9=.sl 7 [c.V]/\U 10=int 1/\U 11=int k/\a<=Z/\o5 m b (if k=0 then g else QC g c.yq) Y/\∀j,j<a->¬j=m->Y j=t j) 1
   ⟨by simp,by simp,by simp,by simp,by simp,by simp,by simp,by simpa using G,fun _ _ _=>rfl⟩ ?_
  rintro k U Y Z hk1 ⟨p,E,q,X,z,A,e,f,h⟩;by_cases J:k=0
  ·subst J;rw[zd rfl]at f;obtain⟨x,Y2,K,L,rfl,q2,n2,B⟩:=Hf m b w zu c g (qv Y Z (some ⟨26,7,false,[c.V]⟩)) (Z+1) F F (by omega) (by omega) (f.qv _ (by omega) (by omega));have M:IntKind.i64.wrap 1=1:=by decide
   simp[p,E,q,X,z,A,L,M];exact⟨by omega,q2,fun j C d=>by rw[B j (by omega) d,zx _ _ _ _ (by omega)];exact h j C d⟩
  ·obtain rfl:k=1:=by omega
   rw[zc (by omega)]at f;simp[p,E,q,X,z,A];exact⟨e,f,h⟩
 rintro U Y Z ⟨p,E,q,e,f,h⟩;obtain⟨id,Y2,K,L,i1,i2,i3,B⟩:=oD l c hl F T S (y:=.sl 7 [c.V]) (Y:=Y) (Y1:=Y) Z (by simp[wi]);refine Wp.A0 H 3 2 (fun N U Y Z=>U 0=.sl 10 (l.map qd.V)/\U 2=iM b/\a<=Z/\(∃V,N=Q7 V/\o5 m b (cg l (QC g c.yq) V) Y)/\∀j,j<a->¬j=m->Y j=t j) rfl (by decide) unMI rfl (by decide) rfl (by decide) ?_;simp[p,E,L];have Q:o5 m b (QC g c.yq) (qv Y2 id none):=(o5.mk (by rw[B m (by omega)];exact f.set) (by rw[B b (by omega)];exact f.box):o5 m b (QC g c.yq) Y2).qv _ (by omega) (by omega);refine⟨_,i3,rfl,⟨q,by omega,⟨[],by simp[Q7],by simpa[cg]using Q⟩,fun j C d=>by rw[zx _ _ _ _ (by omega),B j (by omega)];exact h j C d⟩,?_,?_⟩
 ·rintro N lft k pv U Y Z r p q e V rfl f h hs;have D:[O.v k,pv]∈Q7 (KW l c.names):=r.mem_iff.2 (by simp);obtain⟨i,hi,he⟩:=oE D;simp only[zk,O.v.injEq,zI]at he;obtain⟨rfl,rfl⟩:=he;have s:=I.lt i hi;have hcm:=xe (zj s);have hmc:l[i].cb=1+l[i].name.length+QI l[i].ins+QI l[i].outs+l[i].cond.cb:=rfl;obtain⟨x,hp3,nx3,e3,rfl,q3,n3,f3⟩:=Hf m b w zu l[i].cond (cg l (QC g c.yq) V) Y Z (by omega) (by omega) (by omega) (by omega) f;have R:Z5 l i=l[i].cond.yq:=by unfold Z5;rw[zl s]
  refine Wp.of H (by kernel_rfl) ?_;simp[p,q,hs,s,e3];exact⟨by omega,⟨V++[i],dS V i,by rw[R0,R];exact q3⟩,fun j C d=>by rw[f3 j (by omega) d];exact h j C d⟩
 ·rintro N U Y Z r p q e V rfl f h;simp[EvtR,f44];exact⟨e,⟨V,fU r,f⟩,h⟩
def hasK(l:List qd)(i:Nat):Prop:=∃s,l[i]?=some s/\0<s.ins.length+s.outs.length
theorem R1{l:List qd}(e:aq (l.map qd.name))(q:l.length<=100)(j:∀s∈l,∀n∈s.cond.names,w7 l n=true){c:qe}(k:∀n∈c.names,w7 l n=true)(n:za) :
  n∈(c.yq.map qe.attr++(kG l c.names).flatMap fun n=>Xv (Zt (qQ n l)))↔(∃t∈c.yq,t.attr=n)\/(∃i∈KW l c.names,∃t∈Z5 l i,t.attr=n)\/(n=b9/\∃i∈KW l c.names,hasK l i):=by
 have d:∀m,Ke (jX l) c.names m->w7 l m=true/\∃s,l[jj l m]?=some s/\Zt (qQ m l)=s:=fun m a=>by
  have o:=Dx j e k a;rcases Wl e m with⟨_,u,p,_⟩|⟨p,_⟩
  ·exact⟨o,_,zl u,by rw[p];rfl⟩
  ·rw[o]at p;cases p
 have f:∀s:qd,n∈Xv s↔(∃t∈s.cond.yq,t.attr=n)\/(n=b9/\0<s.ins.length+s.outs.length):=fun s=>by
  unfold Xv;by_cases r:s.ins.length+s.outs.length=0
  ·rw[zd r];simp[r]
  ·rw[zc r];simp only[zM,qj,wM];have:0<s.ins.length+s.outs.length:=by omega
   simp[this]
 simp only[zM,qj,List.mem_flatMap,f];constructor
 ·rintro (h|⟨m,a,h⟩)
  ·exact .inl h
  ·rw[X6]at a;obtain⟨o,s,b,g⟩:=d m a;rw[g]at h;have hi:=(YT e q j k (jj l m)).2 ⟨m,a,o,rfl⟩;rcases h with h|⟨rfl,h⟩
   ·exact .inr (.inl ⟨_,hi,by unfold Z5;rw[b];exact h⟩)
   ·exact .inr (.inr ⟨rfl,_,hi,s,b,h⟩)
 ·rintro (h|⟨i,hi,h⟩|⟨rfl,i,hi,s,hs,h⟩)
  ·exact .inl h
  ·obtain⟨m,a,_,rfl⟩:=(YT e q j k i).1 hi;obtain⟨_,s,b,g⟩:=d m a;refine .inr ⟨m,(X6 _ _ _).2 a,.inl ?_⟩;rw[g];unfold Z5 at h;rw[b]at h;exact h
  ·obtain⟨m,a,_,rfl⟩:=(YT e q j k i).1 hi;obtain⟨_,v,b,g⟩:=d m a;rw[hs]at b;injection b with b;subst b;exact .inr ⟨m,(X6 _ _ _).2 a,.inr ⟨rfl,by rw[g];exact h⟩⟩
theorem R2:∀(N:Nat) (M:List Nat),M.Nodup->(∀j∈M,j<N)->M.length<=N
 | 0,[],_,_=>zf _
 | 0,a::_,_,h=>absurd (h a (by simp)) (by omega)
 |N+1,M,b,c=>by
  have:=R2 N (M.erase N) (b.erase N) fun j d=>by have:=(b.mem_erase_iff).1 d;have:=c j this.2;omega
  have e:M.length<=(M.erase N).length+1:=by rw[List.length_erase];split<;>omega
  omega
theorem D9(K:List za)(s:za):(Xy K s).length<=K.length+1:=by unfold Xy;split<;>simp
theorem oF:∀(ts:List qe) (K:List za),(QC K ts).length<=K.length+ts.length
 |[],K=>by simp[QC]
 |t::ts,K=>by have a:=oF ts (Xy K t.attr);have b:=D9 K t.attr;show(QC (Xy K t.attr) ts).length<=_;simp only[zO];omega
theorem ZI:∀(n:Nat) (c:qe),c.cb<=n->c.yq.length<=c.cb
 | 0,c,h=>by have:=Kx c;omega
 |n+1,c,h=>by
  have d:=Zm c;have a:∀l:List qe,aD l<=n->(ko l).length<=aD l:=by
   intro l
   induction l with
   |nil=>exact fun _=>zf _
   |cons x l b=>
    intro e;have f:aD (x::l)=x.cb+aD l:=by simp[aD]
    have g:=ZI n x (by omega);have i:=b (by omega);show(x.yq++ko l).length<=_;rw[zL];omega
  have:=a c.args (by omega);rw[dJ,zL];split<;>simp<;>omega
theorem Hg{l:List qd}(h:x4 l<=zu)(i:Nat):(Z5 l i).length<=zu:=by
 unfold Z5;split
 ·rename_i s hs;have b:=xe (zG hs);have a:s.cb=1+s.name.length+QI s.ins+QI s.outs+s.cond.cb:=rfl;have c:=ZI _ s.cond (zf _);omega
 ·simp
theorem Ea{l:List qd}(h:x4 l<=zu):∀(V:List Nat) (K:List za),(cg l K V).length<=K.length+V.length*zu
 |[],K=>by simp[cg]
 |i::V,K=>by have a:=Ea h V (QC K (Z5 l i));have b:=oF (Z5 l i) K;have c:=Hg h i;show(cg l (QC K (Z5 l i)) V).length<=_;rw[zO,qI];omega
theorem oG{Y:Hp}{Z:Nat}{v:O}{K:List za}(e:qT Y Z 9 1 v (zy K))(f:K.length<4611686018427387904):∃b,Vs xF false [v] Y Z=some (.wG [],b,Z)/\qT b Z 9 1 v (zy (xF K)):=by
 rcases e with⟨rfl,g⟩|⟨id,hid,rfl,c⟩
 ·have hd:K=[]:=by simpa[zy]using g
  subst hd;exact⟨Y,rfl,.inl ⟨rfl,by simp[xF,zy]⟩⟩
 ·have d:zy K=WY K:=rfl;rw[d]at c;have hs:=b7 xF false (Z:=Z) c f;have a:(xF K).length=K.length:=zdh _;refine⟨_,by rw[d,Xt];exact hs,.inr ⟨id,hid,?_,by simp;rfl⟩⟩;simp[qC,a]
theorem aa{Y:Hp}{Z:Nat}{v:O}{K:List za}(i:qT Y Z 9 1 v (zy K))(s:za)(m:K.length<1000000000000):∃Y2,yK prog (qv Y Z (some ⟨9,1,true,[[str s]]⟩)) (Z+1) 33 33 v (.own Z 0 1)=some (.own (Z+1) 0 (K.length+1),Y2,Z+2)/\qT Y2 (Z+2) 9 1 (.own (Z+1) 0 (K.length+1)) (zy (K++[s]))/\∀j b,j<Z->Y j=some b->b.arr=false->Y2 j=some b:=by
 have d:=i.jd (P:=prog) (t:=33) (c:=[str s]) eD HH Ll Lm rfl (by omega) (by simp[qC,maxLen];omega) (by simp[qC];omega);have f:=qT.after (Y:=Y) (Z:=Z) (e:=9) (s:=1) (v:=v) (xs:=zy K) (c:=[str s]) (tmp:=some ⟨9,1,true,[[str s]]⟩);have g:zy K++[[str s]]=zy (K++[s]):=by simp[zy]
 rw[qC]at d;refine⟨_,d,?_,fun j b n a k=>?_⟩
 ·rw[<-g];simpa[qC]using f
 ·rw[zx _ _ _ _ (by omega)];rcases i with⟨rfl,_⟩|⟨id,hid,rfl,l⟩
  ·simp only[Zl];rw[zx _ _ _ _ (by omega)];exact a
  ·have h:j≠id:=by rintro rfl;rw[l]at a;injection a with a;subst a;cases k
   simp only[Zl];rw[zx _ _ _ _ h,zx _ _ _ _ (by omega)];exact a
end Go.Q
