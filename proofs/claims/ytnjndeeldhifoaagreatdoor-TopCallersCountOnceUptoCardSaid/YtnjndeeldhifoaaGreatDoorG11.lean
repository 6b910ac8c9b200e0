/- Lemmas. -/
import Derived.Deep.AppendSrc
import Derived.Maps.RangeRun
import Derived.Shelf.SlSortCmp.WholeK
import Derived.Shelf.SlSortCmp.NoneTotal
import Derived.Test.YtnjndeeldhifoaaGreatDoorProg
import Derived.Sort.EncStr
import Derived.Laws.CopyRow
import Derived.Lib.Overlaps
import Derived.Lib.AppendZerosOnto
import Derived.Laws.NewBlocks
import Derived.Shelf.Spec.SlicesInsert
import Derived.Sort.Walk0
import Derived.Lib.SlicesCompact
import Derived.Shelf.Sort.Plain
import Derived.Shelf.Slices.CompactS
import Derived.Shelf.Slices.In.SortNone
import Derived.Lib.RowBridge
import Derived.Ground.Names2Prog
import Derived.Test.YtnjndeeldhifoaaGreatDoorG10
set_option maxRecDepth 100000
set_option maxHeartbeats 4000000
open Go Proofs Proofs.YtnjndeeldhifoaaGreatDoor Proofs.Tryz RowKit AM SpanLaw Q Zz
open Go.IntKind renaming i64→i6
namespace Go.AM
variable{dr:Prop}
section
variable{C:Ctx}{pf:FuncId->Bool}{N:Nat}
def Wp(dr:Prop)(C:Ctx)(N:Nat)(c:Code)(st:St)(K:Exit->St->Prop):Prop:=
 ∀(d:World) (g L:Nat->Prop) (Z0:Nat) (h:Nat->GI) (f:Nat) (a:Act) (w:World) (Q:Exit->Act->World->Prop),f<=d.heap.size->b4 dr C.P d g L N Z0 h f st a w ->
  (∀e b i j,K e b->b4 dr C.P d g L N Z0 h f b i j->Q e i j)->c.wpIn Fence.wide 0 C.P Q a w
theorem Wp.of(b:kV dr C pf){c:Code}{st:St}{K:Exit->St->Prop}(f:kj pf C.dyn C.Ey C.bk N c=true)(h:vU C c st K):Wp dr C N c st K:=by obtain⟨e,d,i,j⟩:=h;intro k l L Z0 m n a w Q o hs p;exact cJ b.spec b.quiet b.box b.iter b.mixed c f Fence.wide 0 (.inl rfl) (.inl rfl) k l L Z0 m n st d e a w Q o i hs fun q r g=>p e d q r j g
theorem Wp.mono{c:Code}{st:St}{K f:Exit->St->Prop}(h:Wp dr C N c st K)(g:∀e b,K e b->f e b):Wp dr C N c st f:=
 fun i j L Z0 k l a w Q m hs n=>h i j L Z0 k l a w Q m hs fun e b o p d=>n e b o p (g e b d)
def Bn(dr:Prop)(C:Ctx)(N:Nat)(y:Code)(K:Exit->St->Prop)(e:Exit)(st:St):Prop:=match e with
 | .normal=>Wp dr C N y st K
 |e=>K e st
theorem Wp.seq{x y:Code}{st:St}{K:Exit->St->Prop}(h:Wp dr C N x st (Bn dr C N y K)):Wp dr C N (.seq x y) st K:=by
 intro c d L Z0 f g a w Q i hs j;refine wpIn_seq (h c d L Z0 f g a w _ i hs fun e l m n k b=>?_);cases e<;>first
  |exact k c d L Z0 f g m n Q i b j
  |exact j _ _ _ _ k b
def uO(I:Nat->St->Prop)(n:Nat)(K:Exit->St->Prop)(e:Exit)(st:St):Prop:=match e with
 | .normal=>∃m,m<n/\I m st
 |e=>K e st
def K1(dr:Prop)(C:Ctx)(N:Nat)(c:Array Oper)(l:List Nat)(st:St)(K:St->Prop):Prop:=
 ∀(d:World) (e L:Nat->Prop) (Z0:Nat) (f:Nat->GI) (g:Nat) (a:Act) (w:World) (Q:Exit->Act->World->Prop),b4 dr C.P d e L N Z0 f g st a w ->
  (∀b h i,K b->b4 dr C.P d e L N Z0 f g b h i->Q .normal h i)->wpOpsIn Fence.wide 0 C.P c Q l a w
theorem Wp.region{id:Nat}{b:Array Oper}{st:St}{K:Exit->St->Prop}(h:K1 dr C N b (List.range b.size) st (Wg K)):Wp dr C N (.region id b false) st K:=
 fun e f L Z0 g i a w Q _ hs j=>wpIn_region (h e f L Z0 g i a w Q hs fun c k l m d=>j .normal c k l m d)
theorem K1.nil{b:Array Oper}{st:St}{K:St->Prop}(h:K st):K1 dr C N b [] st K:=fun d e L Z0 f g a w Q hs c=>c st a w h hs
theorem K1.cons(M:kV dr C pf){k:Array Oper}{i:Nat}{o:Oper}{l:List Nat}{st st1:St}{K:St->Prop}(P:k[i]?=some o)(hd:∀d,o.dst=some d->d<N)(j:yb C k o st=some st1)(h:K1 dr C N k l st1 K):K1 dr C N k (i::l) st K:=by
 intro q r L Z0 s t a w Q hs u;simp only[wpOpsIn,P];obtain⟨S,G,m⟩:=hs;unfold yb at j;rw[Wh m.kb];split at j
 ·rename_i z;rw[ze z];split at j
  ·rename_i x Y Z n;injection j with j
   subst j;have A:∀c,o.op≠.defer c:=by intro c B;rw[B]at n;simp[zF]at n
   refine⟨fun f _=>trivial,?_⟩;rw[Sz _ _ _ A];have D:=K7 M.spec m.inv (a:=a.eval) (fun y W R=>x0 m.kb R) (o:=o) n;rcases D with⟨v,E,F,H,p,I,J⟩|⟨g,vs,p,B⟩
   ·have b:=h q r L Z0 s t _ E Q ⟨F,H,m.step I J hd⟩ u;rcases p with p|⟨p,rfl⟩
    ·rw[p];exact b
    ·rw[p];exact b
   ·rw[p];refine⟨fun h=>by simp[Fence.wide]at h,fk.2 (B.mono fun e E T=>?_)⟩;obtain⟨v,F,H,rfl,I,J⟩:=T;exact h q r L Z0 s t _ E Q ⟨F,H,m.step I J hd⟩ u
  ·cases j
 ·rename_i z;rw[zj z];injection j with j
  subst j;exact⟨fun f _=>trivial,h q r L Z0 s t _ w Q ⟨S,G,m.step (.refl m.inv) yY hd⟩ u⟩
end
section
variable{P:Program}{w:World}{S:Nat->Prop}{G:Nat->GI}{Y:Hp}{Z:Nat}
end
section
variable{C:Ctx}{pf:Nat->Bool}{f:FuncId}{fn:Func}{code:Code}
theorem rC{st:St}{a:Act}{w:World}{S:Nat->Prop}{G:Nat->GI}(m:Inv C.P w S G st.Y st.Z)(f:∀t,zW w S G st.Z (st.U t) (a.tmps.getD t undef)){r:O}(h:kZ C.P fn st=some r):∃v,(results fn a.tmps).run C.P w=.ok v w/\zW w S G st.Z r v:=by
 unfold kZ at h;have k:∀xs,wH (fn.results.toList.map (ZN C.P st))=some xs->r=(match xs with|[x]=>x|xs=>.q8 xs)->∃v,(results fn a.tmps).run C.P w=.ok v w/\zW w S G st.Z r v:=by
  intro xs g b;obtain⟨us,n,c⟩:=QY m f g;have e:(results fn a.tmps).run C.P w=.ok (if h:us.toArray.size=1 then us.toArray[0]else .tuple us.toArray) w:=by unfold results;rw[Array.mapM_eq_mapM_toList];simp only[kp,Sem.run_map];erw [n];rfl
  refine⟨_,e,?_⟩
  match xs,c,b with
  |[],c,b=>rw[c.Qs];subst b;exact .q8 rfl (by simp)
  |[y],c,b=>obtain⟨u,rfl,i⟩:=WR c;subst b;simpa using i
  |y::z::ys,c,b=>have l:=c.1;subst b;rw[dif_neg (by simp at l⊢;omega)];exact .q8 (by simpa using l) (fun j o u p i=>c.2 j o u p (by simpa using i))
 split at h
 ·rename_i y q;injection h with h
  exact k [y] q h.symm
 ·rename_i xs d g;injection h with h
  refine k xs g ?_;rw[<-h]
  match xs,d with
  |[],_=>rfl
  |[y],d=>exact(d y rfl).elim
  |y::z::ys,_=>rfl
 ·cases h
theorem aM(y:V7 C pf f fn code){args:zb}{Y:Hp}{Z:Nat}{R:O->Hp->Nat->Prop}(hW:Wp dr C fn.ntmps code ⟨jX args,Y,Z⟩ (YX C.P fn R))
  {w:World} {S:Nat->Prop} {G:Nat->GI} {vs:List Value} (hi:Inv C.P w S G Y Z) (z:Zip (zW w S G Z) args vs) (hn:args.length<=fn.ntmps) :
  Calls C.P f vs.toArray w fun e k=>∃x p Z' v d g,R x p Z'/\e=.returned v/\j6 dr C.P Y Z S G w p Z' d g k/\zW k d g Z' x v:=by
 refine fk.1 (callsIn_of_wp_marks (n:=0) y.func y.body trivial ?_);have q:b4 dr C.P w S (yP Y G) fn.ntmps Z G w.heap.size ⟨jX args,Y,Z⟩ {tmps:=vs.toArray++Array.replicate (fn.ntmps-vs.toArray.size) undef,defers:=[]} w:=by
  refine⟨S,G,hi,fun t=>?_,?_,.nil (zi _),fun _ h=>h,fun _ h=>.inl h,fun id b i=>.inl ⟨id,b,i,rfl⟩,Fr.refl _ _,zi _,fun _ _=>rfl⟩
  ·have A:vs.length=args.length:=z.1.symm;unfold jX;by_cases ht:t<args.length
   ·have o:args[t]?=some args[t]:=zn ht;have T:vs[t]?=some (vs[t]'(by omega)):=zn (by omega);have h3:=z.2 t _ _ o T;have B:(vs.toArray++Array.replicate (fn.ntmps-vs.toArray.size) undef)[t]?=vs[t]?:=by rw[WG (by simpa using(by omega:t<vs.length))];simp
    simp only[o,bE];rw[QQ,B,T];exact h3
   ·have o:args[t]?=none:=qS (by omega);have B:(vs.toArray++Array.replicate (fn.ntmps-vs.toArray.size) undef).getD t undef=undef:=by rw[QQ,Array.getElem?_append_right (by simpa using(by omega:vs.length<=t)),Array.getElem?_replicate];split<;>rfl
    simp only[o,Option.getD_none];rw[B];exact yY
  ·have A:vs.length=args.length:=z.1.symm;simp;omega
 refine hW w S (yP Y G) Z G w.heap.size _ w _ (zi _) q fun e st E W c F=>?_
 obtain⟨d,g,a⟩:=F;obtain⟨hd0,X,H,I,j⟩:=a.defers;have J:(e=.normal\/e=.ret)/\∃r,kZ C.P fn st=some r/\R r st.Y st.Z:=by
  cases e<;>first
   |exact⟨.inl rfl,c⟩
   |exact⟨.inr rfl,c⟩
   |exact c.elim
 obtain⟨J,r,K,hR⟩:=J;have s:LeavesInM Fence.wide 0 C.P fn E.tmps (fun e k=>∃x p Z' v d g,R x p Z'/\e=.returned v/\j6 dr C.P Y Z S G w p Z' d g k/\zW k d g Z' x v) E.defers .returning W:=by
  rw[H];refine WU (dr:=dr) X W I (fun D hD=>(j D hD).2.1) fun k m=>?_
  have u:∀b,b∈X->YN d g st.Y b:=fun b i=>⟨(j b i).2.2.1,(j b i).2.2.2⟩
  have l:=a.inv.frame m u;have L:∀t,zW k d g st.Z (st.U t) (E.tmps.getD t undef):=fun t=>(a.kb t).mono (fun b i=>⟨i,m.block b (a.inv.st b i) fun M=>(u b M).1 i⟩) (zi _) (fun _ _=>rfl)
  have y:j6 dr C.P Y Z S G w st.Y st.Z d g k:=⟨l,a.up,a.loc,a.s0,a.s1,a.own,a.fr.trans m fun b i o=>by have:=(j b o).1;omega⟩;obtain⟨v,N,Q⟩:=rC l L K;exact⟨v,N,r,_,_,v,d,g,hR,rfl,y,Q⟩
 rcases J with rfl|rfl
 ·exact s
 ·exact s
theorem mx(p:V7 C pf f fn code)(i:Bool)(T:List Nat)(F:zb->Option O)(hF:∀args r,F args=some r->args.length<=fn.ntmps/\Wp dr C fn.ntmps code ⟨jX args,fun _=>none,0⟩ (YX C.P fn (J9 r))):kF dr C.P f (zg i T F):=by
 refine⟨⟨fn,p.func,p.name,by rw[p.body];rfl⟩,?_⟩;intro args Y Z r Y' Z' h w S G vs L W;unfold zg at h;split at h
 ·rename_i X Y1 s;split at h
  ·rename_i r0 t;obtain⟨hn,hW⟩:=hF _ r0 t;obtain⟨S1,q,u,y⟩:=yZ (dr:=dr) L s W;refine(aM p hW (JF (fun _=>⟨0,0,0⟩) q.inv.st q.inv.bF) (Zm u).closed hn).mono fun e M hh=>?_
   obtain⟨x,hpe,nxe,v,S',G',⟨r1,j,z⟩,N,k,hx⟩:=hh;have Q:Fr dr w (fun _=>False) M:=⟨k.fr.os,k.fr.tape,k.fr.output,k.fr.size,k.fr.drawn,fun b d _=>k.fr.block b d vX⟩;obtain⟨⟨r2,hpf⟩,A,l⟩:=zH j;simp only at l;subst l;obtain⟨S2,R,B⟩:=ZO (dr:=dr) k.inv A hx;have D:=cM B z;have m:∀b,S2 b->S1 b\/(w.heap.size<=b/\b<M.heap.size):=by
    intro b d;have n:=R.inv.st b d;rcases R.from_ b d with h1|⟨id,blk,h1,rfl⟩|h1
    ·rcases k.from_ b h1 with a|a|a
     ·exact .inl a
     ·exact(vX a).elim
     ·exact .inr ⟨a,n⟩
    ·rcases k.own id blk h1 with a|a
     ·exact(vX a).elim
     ·exact .inr ⟨a,n⟩
    ·exact absurd h1 (by omega)
   split at h
   ·rename_i g;injection h with h
    injection h with E h;injection h with H I;subst E;subst H;subst I;refine⟨v,_,G,N,j6.outer L Q,.c ?_⟩;rcases g with J|K
    ·exact cL D J
    ·have o:=y K;exact D.mono fun b d=>⟨by rw[<-o];exact m b d,rfl⟩
   ·split at h
    ·injection h with h;injection h with E h;injection h with H I;subst E;subst H;subst I;exact⟨v,_,G,N,q.trans (j6.outer q.inv Q),.c (D.mono fun b d=>⟨m b d,rfl⟩)⟩
    ·cases h
  ·cases h
 ·cases h
end
variable{dr:Prop}
section
variable{C:Ctx}{pf:FuncId->Bool}{N:Nat}
@[simp]theorem NA(y:Code)(K:Exit->St->Prop)(st:St):Bn dr C N y K .normal st=Wp dr C N y st K:=rfl
@[simp]theorem zci(y:Code)(K:Exit->St->Prop)(st:St):Bn dr C N y K .ret st=K .ret st:=rfl
@[simp]theorem zcj(y:Code)(K:Exit->St->Prop)(i:Nat)(st:St):Bn dr C N y K (.exit i) st=K (.exit i) st:=rfl
@[simp]theorem za5(I:Nat->St->Prop)(n:Nat)(K:Exit->St->Prop)(st:St):uO I n K .normal st=∃m,m<n/\I m st:=rfl
@[simp]theorem za6(I:Nat->St->Prop)(n:Nat)(K:Exit->St->Prop)(st:St):uO I n K .ret st=K .ret st:=rfl
@[simp]theorem za7(I:Nat->St->Prop)(n i:Nat)(K:Exit->St->Prop)(st:St):uO I n K (.exit i) st=K (.exit i) st:=rfl
theorem Wp.cut(f:kV dr C pf){a b:Code}{st:St}{K:Exit->St->Prop}(Q:(Nat->O)->Hp->Nat->Prop)(c:kj pf C.dyn C.Ey C.bk N a=true)(g:vU C a st (C2 (fun st=>Q st.U st.Y st.Z) K))(h:∀U Y Z,Q U Y Z->Wp dr C N b ⟨U,Y,Z⟩ K):Wp dr C N (.seq a b) st K:=
 Wp.seq ((Wp.of f c g).mono fun e i d=>by
  cases e<;>first
   |exact h _ _ _ d
   |exact d)
theorem Wp.any{c:Code}{st:St}{K:Exit->St->Prop}(Q:(Nat->O)->Hp->Nat->Prop)(a:Q st.U st.Y st.Z)(h:∀U Y Z,Q U Y Z->Wp dr C N c ⟨U,Y,Z⟩ K):Wp dr C N c st K:=h _ _ _ a
theorem X3{a:Array Oper}{K:St->Prop}(f:kV dr C pf):∀{l:List Nat} {b:List Oper} {l2:List Nat} {st st1:St},l.map (fun i=>a[i]?)=b.map some->(∀o∈b,∀d,o.dst=some d->d<N)->kE C a b st=some st1->K1 dr C N a l2 st1 K->K1 dr C N a (l++l2) st K
 |[],[],l2,st,st1,_,_,h,c=>by simp only[kE]at h;injection h with h;subst h;exact c
 |[],_::_,_,_,_,h,_,_,_=>by simp at h
 |_::_,[],_,_,_,h,_,_,_=>by simp at h
 |i::l,o::b,l2,st,st1,e,hd,h,c=>by
  simp only[z6,zc]at e;simp only[kE]at h;split at h
  ·rename_i s hs;exact K1.cons f e.1 (hd o (by simp)) hs (X3 f e.2 (fun o g=>hd o (by simp[g])) h c)
  ·cases h
theorem K1.pre(e:kV dr C pf){a:Array Oper}{l l2:List Nat}{b:List Oper}{st:St}{K:St->Prop}(f:l.map (fun i=>a[i]?)=b.map some)(hd:b.all (fun o=>match o.dst with|some d=>decide (d<N)|none=>true)=true)(h:cH C a b st fun st1=>K1 dr C N a l2 st1 K):K1 dr C N a (l++l2) st K:=by
 obtain⟨st1,g,j⟩:=h;exact X3 e f (fun o k d c=>by have:=zQ.1 hd o k;rw[c]at this;simpa using this) g j
theorem K1.Kr(g:kV dr C pf){c:Array Oper}{l2:List Nat}{st:St}{K:St->Prop}(a b:Nat)(k:a+b<=c.size)(hd:c.toList.all (fun o=>match o.dst with|some d=>decide (d<N)|none=>true)=true)(h:cH C c ((c.toList.drop a).take b) st fun st1=>K1 dr C N c l2 st1 K):K1 dr C N c (List.range' a b++l2) st K:=by
 refine K1.pre g ?_ ?_ h
 ·apply Bw;intro i;rw[qn,qn,wM];by_cases f:i<b
  ·have e:(List.range' a b)[i]?=some (a+i):=by rw[List.getElem?_range' f];simp
   rw[e,ze f,wB];have:a+i<c.size:=by omega
   simp[this]
  ·rw[zj f,qS (by simp;omega)];rfl
 ·exact zQ.2 fun o j=>zQ.1 hd o (bC _ _ (Yt _ _ j))
@[simp]theorem zcQ(P:Program)(t:TypeId)(a:Addr):YJ P t (.v (.slice (some a) 0 0))=(wC P t).map fun _=>.v (.int .i64 0):=rfl
end
variable{dr:Prop}
structure Hid (n1 i m:Nat) (g:List (List O)×Option (List O)) (w:World) (S:Nat->Prop) (G:Nat->GI) (Y:Hp) (Z:Nat):Prop where
 li:i<Z
 lm:m<Z
 s1:(G i).s=1
 new:n1<=(G i).g
 ai:YN S G Y (G i).g
 am:YN S G Y (G m).g
 obj:∃(en:Array MapEntry) (clock:Nat) (seen:Array Nat),w.heap[(G m).g]?=some (.map en clock)/\Stamped en clock/\w.heap[(G i).g]?=some (.mapIter (some (G m).g) clock seen clock) /\
  g.1.length=(leftOf en seen).toList.length/\(∀(j:Nat) (c:List O) (e:MapEntry),g.1[j]?=some c->(leftOf en seen).toList[j]?=some e->Qq w S c e) /\
  ∀c,g.2=some c->∃e zbD,e∈en.toList/\seen=Array.push zbD e.born/\Qq w S c e
theorem Qq.mono{w a:World}{S d:Nat->Prop}{c:zb}{e:MapEntry}(h:Qq w S c e)(f:∀b,S b->d b/\a.heap[b]?=w.heap[b]?):Qq a d c e:=by obtain⟨k,g,i,j,l,m⟩:=h;exact⟨k,g,i,j,l,m.mono f⟩
theorem VY{w:World}{b:Nat}{o:Obj}(h:w.heap[b]?=some o):b<w.heap.size:=(qb.1 h).1
theorem Hid.SG{P:Program}{n1 i m:Nat}{g:List zb×Option zb}{Y q:Hp}{Z Z':Nat}{S r:Nat->Prop}{G s:Nat->GI}{w f:World}(h:Hid n1 i m g w S G Y Z)(z:Inv P w S G Y Z)(k:j6 dr P Y Z S G w q Z' r s f):Hid n1 i m g f r s q Z':=by
 obtain⟨t,u,A,B,v,x,en,d,seen,n,C,o,D,E,F⟩:=h;have l:=k.loc i t;have em:=k.loc m u;have y:=k.same z;have H:f.heap[(G i).g]?=w.heap[(G i).g]?:=k.fr.block _ (VY o) fun⟨id,b,p,e⟩=>v.2 id b p e
 have I:f.heap[(G m).g]?=w.heap[(G m).g]?:=k.fr.block _ (VY n) fun⟨id,b,p,e⟩=>x.2 id b p e
 refine⟨wA t k.up,wA u k.up,by rw[l];exact A,by rw[l];exact B,by rw[l];exact v.step k (VY o),by rw[em];exact x.step k (VY n),en,d,seen,by rw[em,I];exact n,C,by rw[l,em,H];exact o,D,fun j c e a b=>(E j c e a b).mono y,fun c J=>?_⟩;obtain⟨e,K,L,M,N⟩:=F c J;exact⟨e,K,L,M,N.mono y⟩
theorem jR.self{P:Program}{d:World}{e L:Nat->Prop}{N Z0:Nat}{f:Nat->GI}{c:Nat}{st:St}{S:Nat->Prop}{G:Nat->GI}{a:Act}{w:World}(h:jR dr P d e L N Z0 f c st S G a w):jR dr P w S (yP st.Y G) N st.Z G c st S G a w:=
 ⟨h.inv,h.kb,h.size,h.defers,fun _ h=>h,fun _ h=>.inl h,fun id b g=>.inl ⟨id,b,g,rfl⟩,Fr.refl _ _,zi _,fun _ _=>rfl⟩
theorem jR.comp{P:Program}{g:World}{k L:Nat->Prop}{N Z0:Nat}{l:Nat->GI}{i:Nat}{st e:St}{S m:Nat->Prop}{G n:Nat->GI}{a o:Act}{w p:World}(h:jR dr P g k L N Z0 l i st S G a w)(c:jR dr P w S (yP st.Y G) N st.Z G i e m n o p):jR dr P g k L N Z0 l i e m n o p:=by
 have f:=h.fr.size;have j:∀b,yP st.Y G b->L b\/g.heap.size<=b:=by rintro b ⟨id,blk,h1,rfl⟩;exact h.own id blk h1
 refine⟨c.inv,c.kb,c.size,c.defers,fun b d=>c.s0 b (h.s0 b d),fun b d=>?_,fun id b d=>?_,h.fr.trans c.fr fun b d h1=>?_,zA h.up c.up,fun id hid=>(c.loc id (wA hid h.up)).trans (h.loc id hid)⟩
 ·rcases c.s1 b d with h1|h1|h1
  ·exact h.s1 b h1
  ·exact .inr (j b h1)
  ·exact .inr (.inr (zA f h1))
 ·rcases c.own id b d with h1|h1
  ·exact j _ h1
  ·exact .inr (zA f h1)
 ·rcases j b h1 with q|q
  ·exact q
  ·omega
abbrev GS:=List zb×Option zb
section
variable{C:Ctx}{pf:FuncId->Bool}{N i m:Nat}
def Jw(dr:Prop)(C:Ctx)(N i m:Nat)(c:Code)(st:St)(g:GS)(K:Exit->St->GS->Prop):Prop:=
 ∀(d:World) (j L:Nat->Prop) (Z0:Nat) (k:Nat->GI) (f:Nat) (a:Act) (w:World) (Q:Exit->Act->World->Prop) (S:Nat->Prop) (G:Nat->GI),f<=d.heap.size->jR dr C.P d j L N Z0 k f st S G a w->Hid d.heap.size i m g w S G st.Y st.Z ->
  (∀e b l n h o p,K e b l->jR dr C.P d j L N Z0 k f b o p n h->Hid d.heap.size i m l h o p b.Y b.Z->Q e n h)->c.wpIn Fence.wide 0 C.P Q a w
def K2(dr:Prop)(C:Ctx)(N i m:Nat)(d:Array Oper)(l:List Nat)(st:St)(g:GS)(K:St->GS->Prop):Prop:=
 ∀(c:World) (f L:Nat->Prop) (Z0:Nat) (h:Nat->GI) (j:Nat) (a:Act) (w:World) (Q:Exit->Act->World->Prop) (S:Nat->Prop) (G:Nat->GI),jR dr C.P c f L N Z0 h j st S G a w->Hid c.heap.size i m g w S G st.Y st.Z ->
  (∀b k n e o p,K b k->jR dr C.P c f L N Z0 h j b o p n e->Hid c.heap.size i m k e o p b.Y b.Z->Q .normal n e)->wpOpsIn Fence.wide 0 C.P d Q l a w
theorem Jw.of{c:Code}{st:St}{g:GS}{K:Exit->St->GS->Prop}(h:Wp dr C N c st fun e d=>K e d g):Jw dr C N i m c st g K:=by
 intro r s L Z0 t f a w Q S G u hs j k;refine h w S (yP st.Y G) st.Z G f a w Q hs.defers.1 ⟨S,G,hs.self⟩ fun e d l n o b=>?_
 obtain⟨p,q,b⟩:=b;exact k e d g l n p q o (hs.comp b) (j.SG hs.inv b.SG)
theorem K2.of{d:Array Oper}{l:List Nat}{st:St}{g:GS}{K:St->GS->Prop}(h:K1 dr C N d l st fun c=>K c g):K2 dr C N i m d l st g K:=by
 intro r s L Z0 t e a w Q S G hs f j;refine h w S (yP st.Y G) st.Z G e a w Q ⟨S,G,hs.self⟩ fun c k n o b=>?_
 obtain⟨p,q,b⟩:=b;exact j c g k n p q o (hs.comp b) (f.SG hs.inv b.SG)
def Bo(dr:Prop)(C:Ctx)(N i m:Nat)(y:Code)(K:Exit->St->GS->Prop)(e:Exit)(st:St)(g:GS):Prop:=match e with
 | .normal=>Jw dr C N i m y st g K
 |e=>K e st g
@[simp]theorem Bp(y:Code)(K:Exit->St->GS->Prop)(st:St)(g:GS):Bo dr C N i m y K .normal st g=Jw dr C N i m y st g K:=rfl
@[simp]theorem zck(y:Code)(K:Exit->St->GS->Prop)(st:St)(g:GS):Bo dr C N i m y K .ret st g=K .ret st g:=rfl
@[simp]theorem NB(y:Code)(K:Exit->St->GS->Prop)(j:Nat)(st:St)(g:GS):Bo dr C N i m y K (.exit j) st g=K (.exit j) st g:=rfl
theorem Jw.seq{x y:Code}{st:St}{g:GS}{K:Exit->St->GS->Prop}(h:Jw dr C N i m x st g (Bo dr C N i m y K)):Jw dr C N i m (.seq x y) st g K:=by
 intro d f L Z0 j k a w Q S G l hs p n;refine wpIn_seq (h d f L Z0 j k a w _ S G l hs p fun e q v r s t u o b c=>?_);cases e<;>first
  |exact o d f L Z0 j k r s Q t u l b c n
  |exact n _ _ _ _ _ _ _ o b c
def eV(id:Nat)(K:Exit->St->GS->Prop)(e:Exit)(st:St)(g:GS):Prop:=match e with
 | .exit j=>if j=id then K .normal st g else K (.exit j) st g
 |e=>K e st g
@[simp]theorem za8(id:Nat)(K:Exit->St->GS->Prop)(st:St)(g:GS):eV id K .normal st g=K .normal st g:=rfl
@[simp]theorem za9(id:Nat)(K:Exit->St->GS->Prop)(st:St)(g:GS):eV id K .ret st g=K .ret st g:=rfl
@[simp]theorem rD(id j:Nat)(K:Exit->St->GS->Prop)(st:St)(g:GS):eV id K (.exit j) st g=if j=id then K .normal st g else K (.exit j) st g:=rfl
theorem Jw.block{id:Nat}{b:Code}{st:St}{g:GS}{K:Exit->St->GS->Prop}(h:Jw dr C N i m b st g (eV id K)):Jw dr C N i m (.block id b) st g K:=by
 intro n o L Z0 p q a w Q S G r hs s k;refine wpIn_block (h n o L Z0 p q a w _ S G r hs s fun e t u v x y z f c d=>?_);cases e with
 |exit j=>
  unfold eV at f;unfold Exit.inBlock;simp only at f⊢;split at f
  ·rename_i l;rw[ze l];exact k _ _ _ _ _ _ _ f c d
  ·rename_i l;rw[zj l];exact k _ _ _ _ _ _ _ f c d
 |_=>exact k _ _ _ _ _ _ _ f c d
theorem Jw.cond{c:Operand}{x y:Code}{st:St}{g:GS}{K:Exit->St->GS->Prop}{b:Bool}(d:get st.U c=some (.v (.bool b)))(h:Jw dr C N i m (if b=true then x else y) st g K):Jw dr C N i m (.cond c x y) st g K:=by intro e f L Z0 j k a w Q S G l hs n o;obtain⟨p,_⟩:=(x0 hs.kb d).wF;exact wpIn_cond p (h e f L Z0 j k a w Q S G l hs n o)
theorem Jw.region{id:Nat}{b:Array Oper}{st:St}{g:GS}{K:Exit->St->GS->Prop}(h:K2 dr C N i m b (List.range b.size) st g (fun st g=>K .normal st g)):Jw dr C N i m (.region id b false) st g K:=
 fun f j L Z0 k l a w Q S G _ hs n o=>wpIn_region (h f j L Z0 k l a w Q S G hs n fun c p q r s t u d e=>o .normal c p q r s t u d e)
def my(I:Nat->St->GS->Prop)(n:Nat)(K:Exit->St->GS->Prop)(e:Exit)(st:St)(g:GS):Prop:=match e with
 | .normal=>∃k,k<n/\I k st g
 |e=>K e st g
@[simp]theorem zba(I:Nat->St->GS->Prop)(n:Nat)(K:Exit->St->GS->Prop)(st:St)(g:GS):my I n K .normal st g=∃k,k<n/\I k st g:=rfl
@[simp]theorem zbb(I:Nat->St->GS->Prop)(n:Nat)(K:Exit->St->GS->Prop)(st:St)(g:GS):my I n K .ret st g=K .ret st g:=rfl
@[simp]theorem HS(I:Nat->St->GS->Prop)(n j:Nat)(K:Exit->St->GS->Prop)(st:St)(g:GS):my I n K (.exit j) st g=K (.exit j) st g:=rfl
theorem Jw.loop{b:Code}{st:St}{g:GS}{K:Exit->St->GS->Prop}(I:Nat->St->GS->Prop)(n:Nat)(t:I n st g)(h:∀n st g,I n st g->Jw dr C N i m b st g (my I n K)):Jw dr C N i m (.loop b) st g K:=by
 intro j q L Z0 r s a w Q S G u hs l v;refine wpIn_loop_rounds (n+1) ?_;have o:∀(k n:Nat) (st:St) (g:GS) (a:Act) (w:World) (S:Nat->Prop) (G:Nat->GI),n<k->I n st g->jR dr C.P j q L N Z0 r s st S G a w->Hid j.heap.size i m g w S G st.Y st.Z->Code.roundsIn Fence.wide 0 C.P b Q k a w:=by
  intro k
  induction k with
  |zero=>intro n st g a w S G x;omega
  |succ k y=>
   intro n st g a w S G x z hs l;rw[roundsIn_succ];refine h n st g z j q L Z0 r s a w _ S G u hs l fun e p A B D E F c d f=>?_
   cases e with
   |normal=>obtain⟨H,M,J⟩:=c;exact y H p A B D E F (by omega) J d f
   |_=>exact v _ _ _ _ _ _ _ c d f
 exact o _ n st g a w S G (by omega) t hs l
theorem Hid.slot{n1:Nat}{g:GS}{w:World}{S:Nat->Prop}{G:Nat->GI}{Y:Hp}{Z:Nat}(h:Hid n1 i m g w S G Y Z){u:Value}(a:zW w S G Z (.ref i 0 0) u):u=.pointer (some ⟨(G i).g,0,none⟩):=by obtain⟨_,rfl⟩:=a.Zg;simp
theorem eW{α:Type}:∀(l:List α) (j:Nat) (h:j<l.length),l.Perm (l[j]::l.eraseIdx j)
 |x::l,0,_=>by simp
 |x::l,j+1,h=>by have:=eW l j (by simpa using h);simp only[List.getElem_cons_succ,List.eraseIdx_cons_succ];exact(this.cons x).trans (List.Perm.swap _ _ _)
theorem mz{l:List MapEntry}(b:(l.map (·.born)).Nodup){j:Nat}{e:MapEntry}(a:l[j]?=some e):l.filter (fun x=>!(x.born==e.born))=l.eraseIdx j:=by
 induction l generalizing j with
 |nil=>simp at a
 |cons x l c=>
  rw[z6,gj]at b;cases j with
  |zero=>
   simp only[List.getElem?_cons_zero,wb]at a;subst a;simp only[Yv,beq_self_eq_true,Bool.not_true,zE,wE,List.eraseIdx_cons_zero];refine List.filter_eq_self.2 fun y d=>?_
   simp only[kU,yC];exact fun e=>b.1 (zN.2 ⟨y,d,e⟩)
  |succ j=>
   simp only[List.getElem?_cons_succ]at a;have f:(!(x.born==e.born))=true:=by simp only[kU,yC];exact fun g=>b.1 (zN.2 ⟨e,zD a,g.symm⟩)
   rw[Yv,f,ze rfl,List.eraseIdx_cons_succ,c b.2 a]
theorem iA{en:Array MapEntry}{seen:Array Nat}(b:(en.toList.map (·.born)).Nodup){j:Nat}{e:MapEntry}(a:(leftOf en seen).toList[j]?=some e):(leftOf en (seen.push e.born)).toList=(leftOf en seen).toList.eraseIdx j:=by
 have c:(leftOf en seen).toList=en.toList.filter fun x=>!seen.contains x.born:=by unfold leftOf;rw[Array.toList_filter]
 have d:(leftOf en (seen.push e.born)).toList=(en.toList.filter fun x=>!seen.contains x.born).filter fun x=>!(x.born==e.born):=by
  unfold leftOf;rw[Array.toList_filter,List.filter_filter];refine List.filter_congr fun x _=>?_
  rw[contains_push,Bool.not_or,Bool.and_comm]
 rw[c]at a⊢;rw[d];exact mz ((List.filter_sublist.map _).nodup b) a
theorem Qq.val{w:World}{S:Nat->Prop}{c:zb}{e:MapEntry}(h:Qq w S c e):∃k d,c=[.v k,d]/\q9 w S (.q8 [.v k,d]) (.tuple #[e.key,e.val])/\q9 w S (.q8 [.v (.bool true),.v k,d]) (.tuple #[.bool true,e.key,e.val]):=by
 obtain⟨k,d,i,rfl,f,g⟩:=h;refine⟨_,d,i,.q8 rfl fun j p u a b=>?_,.q8 rfl fun j p u a b=>?_⟩
 ·match j,a,b with
  | 0,a,b=>simp at a b;subst a;subst b;exact .v f
  | 1,a,b=>simp at a b;subst a;subst b;exact g
  |j+2,a,b=>simp at a
 ·match j,a,b with
  | 0,a,b=>simp at a b;subst a;subst b;exact .v rfl
  | 1,a,b=>simp at a b;subst a;subst b;exact .v f
  | 2,a,b=>simp at a b;subst a;subst b;exact g
  |j+3,a,b=>simp at a
theorem K2.next{z:Array Oper}{j:Nat}{d:Tmp}{x:Operand}{ty:TypeId}{p:String}{af:Array Edge}{l:List Nat}{st:St}{g:GS}{K:St->GS->Prop}
  (ho:z[j]?=some ⟨some d,.next x false,ty,p,af,none⟩) (hd:d<N) (hx:get st.U x=some (.ref i 0 0))
  (M:g.1=[]->K2 dr C N i m z l ⟨ql st.U d (.q8 [.v (.bool false)]),st.Y,st.Z⟩ g K)
  (E:∀k B R,g.1.Perm ([.v k,B]::R)->K2 dr C N i m z l ⟨ql st.U d (.q8 [.v (.bool true),.v k,B]),st.Y,st.Z⟩ (R,some [.v k,B]) K):K2 dr C N i m z (j::l) st g K:=by
 intro w0 S0 L Z0 G0 n0 a w Q S G hs hh hQ;simp only[wpOpsIn,ho];rw[Wh hs.kb,ze (QF _ _ _ _ _ _)];have hnd:∀c,(Op.next x false:Op)≠.defer c:=fun c T=>by cases T
 refine⟨fun f _=>trivial,?_⟩;rw[Sz _ _ _ hnd];have W:=hh.slot (x0 hs.kb hx);obtain⟨h1,h2,h3,h4,h5,h6,en,h,seen,g1,g2,g3,g4,g5,g6⟩:=id hh;rcases run_next_at (P:=C.P) w ty (G i).g (G m).g h h seen en h g3 g1 g2.1 (zi _)with⟨e0,q⟩|⟨e,he,w1,r,q⟩
 ·have s:(execOp a.eval ⟨some d,.next x false,ty,p,af,none⟩).run C.P w=.ok (.value (.tuple #[.bool false])) w:=by simp[execOp,W,q,-bind_pure_comp]
  rw[s];have hl:g.1=[]:=ZK (by rw[g4];simpa using e0);refine M hl w0 S0 L Z0 G0 n0 (a.put (some d) (.tuple #[.bool false])) w Q S G (hs.step (dst:=some d) (.refl hs.inv) (.c (.q8 rfl fun j B u a b=>?_)) (fun _ e=>by cases e;exact hd)) hh hQ
  match j,a,b with
  | 0,a,b=>simp at a b;subst a;subst b;exact .v rfl
  |j+1,a,b=>simp at a
 ·have s:(execOp a.eval ⟨some d,.next x false,ty,p,af,none⟩).run C.P w=.ok (.value (.tuple #[.bool true,e.key,e.val])) (Go.ChangeMaps.setBlock w1 (G i).g (.mapIter (some (G m).g) h (seen.push e.born) h)):=by simp[execOp,W,q,-bind_pure_comp]
  rw[s];obtain⟨F,X,hje⟩:=List.getElem_of_mem he;have t:(leftOf en seen).toList[F]?=some e:=by rw[zn X,hje]
  obtain⟨c,T⟩:∃c,g.1[F]?=some c:=⟨_,zn (by omega)⟩;have hen:=g5 F c e T t;have hem:=(mem_left he).1;obtain⟨w2,o⟩:=kC (Go.ChangeMaps.setBlock w1 (G i).g (.mapIter (some (G m).g) h (seen.push e.born) h));have n:w2.heap=w.heap.setIfInBounds (G i).g (.mapIter (some (G m).g) h (seen.push e.born) h):=by rw[<-o];rcases r with rfl|rfl<;>rfl
  have y:=MapKept.heap_set (o':=Obj.mapIter (some (G m).g) h (seen.push e.born) h) g3;have BE:Fr dr w (fun b=>b=(G i).g) w2:=⟨by rw[<-o];rcases r with rfl|rfl<;>rfl,by rw[<-o];rcases r with rfl|rfl<;>rfl,by rw[<-o];rcases r with rfl|rfl<;>rfl,by rw[n];simp,fun _=>by rw[<-o];rcases r with rfl|rfl<;>first|exact zi _|exact Bv _,fun k _ hk=>by rw[n];exact y.2 k hk⟩;have hs2:=hs.frame BE (fun b A=>by rw[A];exact h5) (fun b A=>.inr (by rw[A];exact h4)) (fun D hD A=>by have:=(hs.defers.at hD).2.1;rw[A,g3]at this;cases this)
  rw[o];have hS:∀b,S b->S b/\w2.heap[b]?=w.heap[b]?:=fun b A=>⟨A,BE.block b (hs.inv.st b A) fun e=>h5.1 (e ▸ A)⟩
  have SN:(G m).g≠(G i).g:=fun e=>by rw[e,g3]at g1;cases g1
  obtain⟨k,B,hcc,hv1,O2⟩:=(hen.mono hS).val;have hlt:F<g.1.length:=(zh.1 T).1;have H:g.1.Perm ([.v k,B]::g.1.eraseIdx F):=by
   have h7:g.1[F]=[.v k,B]:=by rw[<-hcc];exact(zh.1 T).2
   rw[<-h7];exact eW _ _ hlt
  refine E k B (g.1.eraseIdx F) H w0 S0 L Z0 G0 n0 (a.put (some d) (.tuple #[.bool true,e.key,e.val])) w2 Q S G (hs2.step (dst:=some d) (.refl hs2.inv) (.c O2) (fun _ e=>by cases e;exact hd)) ?_ hQ;refine⟨h1,h2,h3,h4,h5,h6,en,h,seen.push e.born,by rw[n,y.2 _ SN];exact g1,g2,by rw[n];exact y.1,?_,fun j' c' e' q1 J=>?_,fun c' I=>?_⟩
  ·rw[iA g2.2 t,List.length_eraseIdx_of_lt X,List.length_eraseIdx_of_lt hlt,g4]
  ·rw[iA g2.2 t]at J;simp only[List.getElem?_eraseIdx]at q1 J;split at q1
   ·rename_i hj;rw[ze hj]at J;exact(g5 _ _ _ q1 J).mono hS
   ·rename_i hj;rw[zj hj]at J;exact(g5 _ _ _ q1 J).mono hS
  ·injection I with I;subst I;exact⟨e,seen,hem,rfl,by rw[<-hcc];exact hen.mono hS⟩
theorem K2.entry{n:Array Oper}{j:Nat}{d:Tmp}{x:Operand}{ty:TypeId}{p:String}{A:Array Edge}{l:List Nat}{st:St}{g:GS}{K:St->GS->Prop}{k:Value}{B:O}
  (D:n[j]?=some ⟨some d,.entry x,ty,p,A,none⟩) (hd:d<N) (E:get st.U x=some (.ref i 0 0)) (s:g.2=some [.v k,B])
  (h:K2 dr C N i m n l ⟨ql st.U d (.q8 [.v k,B]),st.Y,st.Z⟩ g K):K2 dr C N i m n (j::l) st g K:=by
 intro F H L Z0 I J a w Q S G hs t M;simp only[wpOpsIn,D];rw[Wh hs.kb,ze (QF _ _ _ _ _ _)];have u:∀c,(Op.entry x:Op)≠.defer c:=fun c s=>by cases s
 refine⟨fun f _=>trivial,?_⟩;rw[Sz _ _ _ u];have y:=t.slot (x0 hs.kb E);obtain⟨h1,h2,h3,h4,h5,h6,en,b,seen,R,T,W,g4,g5,X⟩:=id t;obtain⟨e,s0,q1,rfl,q3⟩:=X _ s;have o:=run_entry_at (P:=C.P) w (G i).g (G m).g b s0 en b e W R q1 T.2;have q:(execOp a.eval ⟨some d,.entry x,ty,p,A,none⟩).run C.P w=.ok (.value (.tuple #[e.key,e.val])) w:=by simp[execOp,y,o,-bind_pure_comp]
 rw[q];obtain⟨k',pv',r,z,_⟩:=q3.val;simp only[zc,O.v.injEq,zs]at r;obtain⟨rfl,rfl⟩:=r;exact h F H L Z0 I J (a.put (some d) (.tuple #[e.key,e.val])) w Q S G (hs.step (dst:=some d) (.refl hs.inv) (.c z) (fun _ e=>by cases e;exact hd)) t M
theorem NC{P:Program}{o:Oper}{a:Act}{w:World}{K i:Act->World->Prop}{Q f:Exit->Act->World->Prop}(h:∀a w,K a w->i a w)(d:∀e a w,e≠.normal->Q e a w->f e a w)(b:o.wpIn Fence.wide 0 P a w K Q):o.wpIn Fence.wide 0 P a w i f:=by
 unfold Oper.wpIn at *;refine⟨b.1,?_⟩;have b:=b.2;have j:LetsOut Q->LetsOut f:=fun⟨a,w,h⟩=>⟨a,w,d _ _ _ (by simp) h⟩
 generalize (o.semAt Fence.wide.round a.eval).run P w=r at *;cases r with
 |ok x k=>
  cases x<;>simp only[Oper.uponIn]at b⊢ <;>
   first
    |exact h _ _ b
    |exact⟨b.1,CallsIn.mono b.2 (fun e g c=>by cases e<;>first|exact h _ _ c|exact j c|exact d _ _ _ (by simp) c)⟩
    |exact⟨b.1,RowsIn.mono b.2 (fun _ _ c=>h _ _ c)⟩
    |exact⟨b.1,RoundIn.mono b.2 (fun e g c=>by cases e<;>first|exact h _ _ c|exact j c|exact d _ _ _ (by simp) c)⟩
 |halt x k=>cases x<;>simp only[Oper.uponIn]at b⊢<;>first|exact b|exact d _ _ _ (by simp) b
theorem R6{next:Act->World->Prop}{Q:Exit->Act->World->Prop}(e:Exit)(a:Act)(w:World)(h:e≠.normal)(b:Exit.then next Q e a w):Q e a w:=by
 cases e<;>first
  |exact(h rfl).elim
  |exact b
theorem JS{P:Program}{b:Array Oper}{Q:Exit->Act->World->Prop}(l2:List Nat):∀(l:List Nat) (a:Act) (w:World),wpOpsIn Fence.wide 0 P b (Exit.then (wpOpsIn Fence.wide 0 P b Q l2) Q) l a w->wpOpsIn Fence.wide 0 P b Q (l++l2) a w
 |[],a,w,h=>h
 |i::l,a,w,h=>by
  simp only[q7,wpOpsIn]at h⊢;split at h
  ·exact JS l2 l _ _ h
  ·split at h
   ·rename_i c;rw[ze c];exact NC (fun a w d=>JS l2 l _ _ d) R6 h
   ·rename_i c;rw[zj c];exact⟨h.1,JS l2 l _ _ h.2⟩
theorem j6.hide{P:Program}{w:World}{S:Nat->Prop}{G:Nat->GI}{Y:Hp}{Z:Nat}(h:Inv P w S G Y Z)(m:Nat)(o:Obj):j6 dr P Y Z S G w (ql Y m none) (Z+1) S (ql G Z ⟨w.heap.size,0,1⟩) (w.alloc o):=by
 have d:∀b,b<w.heap.size->(w.alloc o).heap[b]?=w.heap[b]?:=fun b a=>Below.heap_alloc w _ b a
 have l:∀b,S b->S b/\(w.alloc o).heap[b]?=w.heap[b]?:=fun b a=>⟨a,d b (h.st b a)⟩
 have f:∀id,id<Z->ql G Z ⟨w.heap.size,0,1⟩ id=G id:=fun id hid=>qu _ _ _ _ (by omega)
 have e:(w.alloc o).heap.size=w.heap.size+1:=by show(w.heap.push _).size=_;simp
 refine⟨⟨fun b a=>by rw[e];have:=h.st b a;omega,fun id b a=>?_,fun id b a=>?_,fun id b a=>?_,fun id id' b n a j p=>?_,h.bF.mono l⟩,by omega,f,fun _ a=>a,fun _ a=>.inl a,fun id b a=>?_,⟨rfl,rfl,rfl,by rw[e];omega,fun _=>zi _,fun k q _=>d k q⟩⟩
 all_goals have c:=Zi a
 all_goals have i:=h.top id b c
 ·omega
 ·rw[f id i];exact(h.live id b c).mono l (by omega) f (d _ (h.live id b c).lt)
 ·rw[f id i];exact h.apart id b c
 ·have g:=Zi j;rw[f id i,f id' (h.top id' n g)]at p;exact h.inj id id' b n c g p
 ·rw[f id i];exact .inl ⟨id,b,c,rfl⟩
theorem Wp.range(hg:kV dr C pf){id:Nat}{q:Array Oper}(n:Nat){d:Tmp}{x:Operand}{t kt et ty:TypeId}{p:String}{I:Array Edge}{E:Code}{st:St}{K:Exit->St->Prop}
  (N6:q.toList.drop n=[⟨some d,.range t x,ty,p,I,none⟩]) (hd:q.toList.all (fun o=>match o.dst with|some d=>decide (d<N)|none=>true)=true) (ht:C.P.underlying t=some (.map kt et))
  (h:cH C q (q.toList.take n) st fun st1=>∃m b,get st1.U x=some (.mp m)/\st1.Y m=some b/\b.s=0/\Jw dr C N st1.Z m E ⟨ql st1.U d (.ref st1.Z 0 0),ql st1.Y m none,st1.Z+1⟩ (b.es,none) fun e st _=>K e st):Wp dr C N (.seq (.region id q false) E) st K:=by
 obtain⟨pre,J⟩:=kC (q.toList.take n);rw[J]at h;have v:q.toList=pre++[⟨some d,.range t x,ty,p,I,none⟩]:=by rw[<-J,<-N6,Qy]
 intro w0 S0 L Z0 G0 n0 a w Q hn hs hQ;refine wpIn_seq (wpIn_region ?_);obtain⟨st1,he,m,b,hx,H,Us,hG⟩:=h;have hsz:q.size=pre.length+1:=by rw[<-iG,v];simp
 have M:∀o∈pre,∀d,o.dst=some d->d<N:=fun o ho d hd'=>by have:=zQ.1 hd o (by rw[v];exact List.mem_append_left _ ho);rw[hd']at this;simpa using this
 have hdN:d<N:=by have:=zQ.1 hd ⟨some d,.range t x,ty,p,I,none⟩ (by rw[v];simp);simpa using this
 have ho:q[pre.length]?=some ⟨some d,.range t x,ty,p,I,none⟩:=by rw[<-aQ,v];simp
 rw[hsz,List.range_succ];refine JS _ _ _ _ ?_;have R:(List.range pre.length).map (fun i=>q[i]?)=pre.map some:=by
  apply Bw;intro i;rw[qn,qn];by_cases T:i<pre.length
  ·rw[Zf T];simp only[zL];rw[<-aQ,v,wU T,zn T];rfl
  ·rw[qS (by simpa using T),qS (by simpa using T)];rfl
 have hw:=X3 (l2:=[]) hg R M he (K1.nil (K:=fun st=>st=st1) rfl);rw[yh]at hw;refine hw w0 S0 L Z0 G0 n0 a w _ hs fun r a' u rZ l=>?_
 subst rZ;obtain⟨S,G,l⟩:=l;show wpOpsIn Fence.wide 0 C.P q _ [pre.length] a' u;simp only[wpOpsIn,ho];rw[Wh l.kb,ze (QF _ _ _ _ _ _)];have hnd:∀c,(Op.range t x:Op)≠.defer c:=fun c hc=>by cases hc
 refine⟨fun f _=>trivial,?_⟩;rw[Sz _ _ _ hnd];obtain⟨m1,m2,hxu⟩:=(x0 l.kb hx).mS;have W:=(l.inv.live m b H).Ld m2;obtain⟨en,k,g1,g2,g3⟩:=W.row;obtain⟨en',D,X,g4⟩:=W.Ix;obtain⟨rfl,rfl⟩:en=en'/\k=D:=by rw[g1]at X;simpa using X
 have hrun:=run_range_map (P:=C.P) u t kt et (G m).g en k ht g1;have hsem:(execOp a'.eval ⟨some d,.range t x,ty,p,I,none⟩).run C.P u=.ok (.value (.pointer (some ⟨u.heap.size,0,none⟩))) (u.alloc (.mapIter (some (G m).g) k #[] k)):=by simp[execOp,hxu,hrun,-bind_pure_comp]
 rw[hsem];have hk:=j6.hide (dr:=dr) l.inv m (.mapIter (some (G m).g) k #[] k);have F:ql G r.Z ⟨u.heap.size,0,1⟩ r.Z=⟨u.heap.size,0,1⟩:=by simp
 have e2:ql G r.Z ⟨u.heap.size,0,1⟩ m=G m:=qu _ _ _ _ (by omega);have hr:zW (u.alloc (.mapIter (some (G m).g) k #[] k)) S (ql G r.Z ⟨u.heap.size,0,1⟩) (r.Z+1) (.ref r.Z 0 0) (.pointer (some ⟨u.heap.size,0,none⟩)):=by have:=zW.ref (w:=u.alloc (.mapIter (some (G m).g) k #[] k)) (S:=S) (G:=ql G r.Z ⟨u.heap.size,0,1⟩) (Z:=r.Z+1) (id:=r.Z) (i:=0) (j:=0) (by omega) (by rw[F];exact Nat.one_pos);rw[F]at this;exact this
 have hlt:=VY g1;have z:leftOf en #[]=en:=by unfold leftOf;exact Array.filter_eq_self.2 fun x _=>by simp
 have hS:∀b,S b->S b/\(u.alloc (.mapIter (some (G m).g) k #[] k)).heap[b]?=u.heap[b]?:=fun b H=>⟨H,Below.heap_alloc u _ b (l.inv.st b H)⟩
 refine hG w0 S0 L Z0 G0 n0 (a'.put (some d) (.pointer (some ⟨u.heap.size,0,none⟩))) _ Q S _ hn (l.step (dst:=some d) hk hr (fun _ e=>by cases e;exact hdN)) ?_ fun e st2 g' a2 w2 S2 G2 hk2 hs2 _=>hQ e st2 a2 w2 hk2 ⟨S2,G2,hs2⟩
 refine⟨by simp,by show m<r.Z+1;omega,by rw[F],by rw[F];exact l.fr.size,⟨?_,?_⟩,⟨?_,?_⟩,en,k,#[],?_,g4,?_,?_,?_,?_⟩
 ·rw[F];intro y;exact Nat.lt_irrefl _ (l.inv.st _ y)
 ·rw[F];intro id b' y A;have B:=Zi y;rw[qu _ _ _ _ (by have:=l.inv.top id b' B;omega)]at A;have:=(l.inv.live id b' B).lt;simp at A;omega
 ·rw[e2];exact l.inv.apart m b H
 ·rw[e2];intro id b' y A;have B:=Zi y;rw[qu _ _ _ _ (by have:=l.inv.top id b' B;omega)]at A;have:=l.inv.inj id m b' b B H A;subst this;simp at y
 ·rw[e2,Below.heap_alloc u _ _ hlt];exact g1
 ·rw[F,e2];exact heap_alloc_new u _
 ·rw[z,iG];exact g2.symm
 ·rw[z];intro j c e a b;exact(g3 j c e a (by simpa using b)).mono hS
 ·intro c hc;cases hc
theorem Wp.SY(I:kV dr C pf){id bi bj i1 i3:Nat}{q a:Array Oper}(n W:Nat){d j r X:Tmp}{x:Operand}{t kt et ty L D ty3:TypeId}{p p1 p2 p3:String}{af M E af3:Array Edge}{w:Code}{st:St}{K:Exit->St->Prop}(J:List zb->(Nat->O)->Hp->Nat->Prop)
  (N6:q.toList.drop n=[⟨some d,.range t x,ty,p,af,none⟩]) (hd:q.toList.all (fun o=>match o.dst with|some d=>decide (d<N)|none=>true)=true) (ht:C.P.underlying t=some (.map kt et))
  (ho3:a[0]?=some ⟨some X,.entry (.tmp d),ty3,p3,af3,none⟩) (hd3:a.toList.all (fun o=>match o.dst with|some d=>decide (d<N)|none=>true)=true) (hn3:a.size=W+1) (hdd:decide (j<N/\r<N/\X<N/\d≠j/\d≠r/\d≠X)=true)
  (h:cH C q (q.toList.take n) st fun st1=>∃m b,get st1.U x=some (.mp m)/\st1.Y m=some b/\b.s=0/\J [] (ql st1.U d (.ref st1.Z 0 0)) (ql st1.Y m none) (st1.Z+1) /\
   (∀f Q k F U Y Z,b.es.Perm (f++[.v k,F]::Q)->J f U Y Z->U d=.ref st1.Z 0 0->cH C a ((a.toList.drop 1).take W) ⟨ql (ql (ql U j (.q8 [.v (.bool true),.v k,F])) r (.v (.bool true))) X (.q8 [.v k,F]),Y,Z⟩ fun G=>
    Wp dr C N w G fun e c=>(e=.normal\/e=.exit bj)/\c.U d=.ref st1.Z 0 0/\J (f++[[.v k,F]]) c.U c.Y c.Z) /\
   ∀f U Y Z,b.es.Perm f->J f U Y Z->K .normal ⟨ql (ql U j (.q8 [.v (.bool false)])) r (.v (.bool false)),Y,Z⟩) :
  Wp dr C N (.seq (.region id q false) (.block bi (.loop (.seq (.region i1 #[⟨some j,.next (.tmp d) false,L,p1,M,none⟩,⟨some r,.extract (.tmp j) 0,D,p2,E,none⟩] false) (.seq (.cond (.tmp r) .skip (.exit bi)) (.block bj (.seq (.region i3 a false) w))))))) st K:=by
 obtain⟨hd1,hd2,R,n1,n2,n3'⟩:=yK hdd;refine Wp.range I n N6 hd ht ?_;obtain⟨st1,he,m,b,hx,hb,Us,hj0,u,S⟩:=h;refine⟨st1,he,m,b,hx,hb,Us,Jw.block (Jw.loop (fun k st g=>g.1.length=k/\st.U d=.ref st1.Z 0 0/\∃f,b.es.Perm (f++g.1)/\J f st.U st.Y st.Z) b.es.length ⟨rfl,by simp,[],by simp,hj0⟩ ?_)⟩;rintro k ⟨U,Y,Z⟩ ⟨Q,cur⟩ ⟨hk,hs,f,Y0,hj⟩;simp only at hk hs Y0 hj;refine Jw.seq (Jw.region ?_);have z:∀(v:zb) (y:Bool) (g:GS) (K':St->GS->Prop),v[0]?=some (.v (.bool y))->K' ⟨ql (ql U j (.q8 v)) r (.v (.bool y)),Y,Z⟩ g->K2 dr C N st1.Z m #[⟨some j,.next (.tmp d) false,L,p1,M,none⟩,⟨some r,.extract (.tmp j) 0,D,p2,E,none⟩] [1] ⟨ql U j (.q8 v),Y,Z⟩ g K':=fun v y g K' hv hk'=>by refine K2.of (K1.cons I (o:=⟨some r,.extract (.tmp j) 0,D,p2,E,none⟩) rfl (fun _ e=>by cases e;exact hd2) (st1:=⟨ql (ql U j (.q8 v)) r (.v (.bool y)),Y,Z⟩) ?_ (K1.nil hk'));rw[nG];simp[zF,AM.get,hv,put]
 refine K2.next (l:=[1]) rfl hd1 (by simp[AM.get,hs]) (fun hl=>?_) (fun T F i H=>?_)
 ·simp only at hl;subst hl;refine z _ false _ _ rfl ?_;show Jw dr C N st1.Z m _ _ _ _;refine Jw.seq (Jw.cond (b:=false) (by simp[AM.get]) ?_);rw[zj (by simp)];refine Jw.of (Wp.of I rfl ?_);rw[nB];simp only[NB,HS,rD,qI];exact S f U Y Z (by simpa using Y0) hj
 ·simp only at H;refine z _ true _ _ rfl ?_;show Jw dr C N st1.Z m _ _ _ _;refine Jw.seq (Jw.cond (b:=true) (by simp[AM.get]) ?_);rw[ze rfl];refine Jw.of (Wp.of I rfl ?_);rw[nA];simp only[Bp];refine Jw.block (Jw.seq (Jw.region ?_));have hsz:List.range a.size=0::(List.range' 1 W++[]):=by rw[hn3,yh,zbw,List.range'_succ]
  rw[hsz];refine K2.entry ho3 R (by simp[AM.get,qu _ _ _ _ n1,qu _ _ _ _ n2,hs]) rfl ?_;refine K2.of (K1.Kr I 1 W (by omega) hd3 ?_);have A:b.es.Perm (f++[.v T,F]::i):=Y0.trans (H.append_left f);obtain⟨G,e2,hw⟩:=u f i T F U Y Z A hj hs;refine⟨G,e2,K1.nil ?_⟩;simp only[Bp];have hll:i.length<k:=by rw[<-hk,H.length_eq];simp
  refine Jw.of (hw.mono fun e c hh=>?_);obtain⟨he3,q1,q2⟩:=hh;have B:∃k',k'<k/\(i.length=k'/\c.U d=.ref st1.Z 0 0/\∃f,b.es.Perm (f++i)/\J f c.U c.Y c.Z):=⟨_,hll,rfl,q1,_,by simpa using A,q2⟩;rcases he3 with rfl|rfl
  ·exact B
  ·simp only[rD,qI];exact B
end
variable{dr:Prop}{C:Ctx}{N:Nat}{pf:FuncId->Bool}
theorem K1.lenM{i:Array Oper}{j:Nat}{d:Tmp}{x:Operand}{t z A ty:TypeId}{p:String}{q:Array Edge}{r:Option (Nat×Bool)}{l:List Nat}{st:St}{K:St->Prop}{m:Nat}{b:jV}
  (B:i[j]?=some ⟨some d,.call ⟨.builtin .len,#[x],#[t]⟩,ty,p,q,r⟩) (D:Region.wanted ⟨some d,.call ⟨.builtin .len,#[x],#[t]⟩,ty,p,q,r⟩ (vW i st.U)=true) (hd:d<N) (E:C.P.underlying t=some (.map z A)) (F:get st.U x=some (.mp m)) (H:st.Y m=some b) (I:b.s=0)
  (h:K1 dr C N i l ⟨ql st.U d (.v (.int .i64 b.es.length)),st.Y,st.Z⟩ K):K1 dr C N i (j::l) st K:=by
 intro J M L Z0 R T a w Q hs W;simp only[wpOpsIn,B];obtain⟨S,G,k⟩:=hs;rw[Wh k.kb,ze D];have u:∀c,(Op.call ⟨.builtin .len,#[x],#[t]⟩:Op)≠.defer c:=fun c X=>by cases X
 refine⟨fun f _=>trivial,?_⟩;rw[Sz _ _ _ u];obtain⟨h1,h2,hu⟩:=(x0 k.kb F).mS;obtain⟨en,y,g1,g2,_⟩:=((k.inv.live m b H).Ld h2).row;have n:(Builtin.len_ #[t] ty #[.map (some (G m).g)]).run C.P w=.ok (.int .i64 b.es.length) w:=by simp[Builtin.len_,zz E,xd g1,g2,goInt,Result.andThen]
 have o:(execOp a.eval ⟨some d,.call ⟨.builtin .len,#[x],#[t]⟩,ty,p,q,r⟩).run C.P w=.ok (.value (.int .i64 b.es.length)) w:=by simp[execOp,resolve,invoke,builtin,hu,n,-bind_pure_comp]
 rw[o];exact h J M L Z0 R T (a.put (some d) (.int .i64 b.es.length)) w Q ⟨S,G,k.step (dst:=some d) (.refl k.inv) (.c (.v rfl)) (fun _ e=>by cases e;exact hd)⟩ W
theorem uP{f:FuncId}{fn:Func}{code:Code}(n:V7 C pf f fn code){args:zb}(h:Wp dr C fn.ntmps code ⟨jX args,fun _=>none,0⟩ (YX C.P fn (J9 (.v (.bool true)))))(o:args.length<=fn.ntmps){w:World}{vs:List Value}(g:w.ShapedOpen C.P)(a:∀t∈Wc,nd w (fun b=>b<w.heap.size) t)(p:Zip (q9 w (fun b=>b<w.heap.size)) args vs) :
  Calls C.P f vs.toArray w fun e m=>e=.returned (.bool true)/\Below w.heap.size w m:=by
 refine(aM n h (JF (fun _=>⟨0,0,0⟩) (fun _ i=>i) (Bz.Iy g a)) p.closed o).mono fun e m q=>?_
 obtain⟨x,r,s,v,B,D,⟨E,c,j⟩,u,k,y⟩:=q;obtain⟨⟨F,z⟩,l,d⟩:=zH c;simp only at d;subst d;obtain⟨G,_,A⟩:=ZO (dr:=dr) k.inv l y;obtain⟨rfl,_⟩:=(cM A j).wF;exact⟨u,k.fr.os,k.fr.tape,k.fr.output,k.fr.size,fun b i=>k.fr.block b i vX⟩
theorem D6{Y:Hp}{Z r s f g:Nat}{v w:O}{xs ys:List zb}(t:wD Y Z r f v xs)(u:wD Y Z s g w ys)(n:r≠s):J9 (.q8 [.sl f xs,.sl g ys]) (.q8 [v,w]) Y Z:=by
 have c:∀a b:O,(a=.sl f xs\/a=.nil/\xs=[])->(b=.sl g ys\/b=.nil/\ys=[])->YY (.q8 [a,b]) (.q8 [.sl f xs,.sl g ys]):=fun a b x m=>by
  refine⟨rfl,fun j p q Y d=>?_⟩
  match j,Y,d with
  | 0,Y,d=>simp at Y d;subst Y;subst d;exact x.imp id fun h=>⟨h.1,f,by rw[h.2]⟩
  | 1,Y,d=>simp at Y d;subst Y;subst d;exact m.imp id fun h=>⟨h.1,g,by rw[h.2]⟩
  |j+2,Y,d=>simp at Y
 rcases t with⟨rfl,rfl⟩|⟨i,y,rfl,m⟩<;>rcases u with⟨rfl,rfl⟩|⟨k,z,rfl,l⟩
 ·exact⟨.q8 [.nil,.nil],by simp,c _ _ (.inr ⟨rfl,rfl⟩) (.inr ⟨rfl,rfl⟩)⟩
 ·exact⟨.q8 [.nil,.sl g ys],by simp[l],c _ _ (.inr ⟨rfl,rfl⟩) (.inl rfl)⟩
 ·exact⟨.q8 [.sl f xs,.nil],by simp[m],c _ _ (.inl rfl) (.inr ⟨rfl,rfl⟩)⟩
 ·have o:k≠i:=by rintro rfl;rw[m]at l;injection l with l;exact n (by have:=zo jV.e l;simpa using this)
  exact⟨.q8 [.sl f xs,.sl g ys],by simp[m,l,o],c _ _ (.inl rfl) (.inl rfl)⟩
end Go.AM
namespace Go.Q
structure wv where
 sh:List UInt8
 n:Int
 kind:Int
 t:Int
 key:List UInt8
 nm:List UInt8
 arm:Int
 m:Int
def wv.V(e:wv):zb:=[str e.sh,int e.n,int e.kind,int e.t,str e.key,str e.nm,int e.arm,int e.m]
theorem VZ{a b:wv}(h:a.V=b.V):a=b:=by cases a;cases b;simp only[wv.V,zc,zs]at h;obtain⟨c,d,e,f,g,i,j,k⟩:=h;rw[qv c,zT d,zT e,zT f,qv g,qv i,zT j,zT k]
theorem V0:∀{a b:List wv},a.map wv.V=b.map wv.V->a=b
 |[],[],_=>rfl
 |[],_::_,h=>by cases h
 |_::_,[],h=>by cases h
 |x::a,y::b,h=>by simp only[z6,zc]at h;rw[VZ h.1,V0 h.2]
structure wv.Good (e:wv) (k:Nat):Prop where
 sh:e.sh=[115]
 n:e.n=k+1
 kind:e.kind=1
 t:vG e.t 0 4000000000=true
 key:kM e.key=true
 nm:qK e.nm=true
 arm:vG e.arm 0 19=true
 m:e.m=0
 kl:e.key.length<=zw
 nl:e.nm.length<=zw
structure iH (l:List wv):Prop where
 len:l.length<=200
 ok:∀(k:Nat) (h:k<l.length),l[k].Good k
theorem gb:zf prog 109 (zg false [] (F3 vG)):=
 yt (fn:=f109) y7 (qW func109) false [] _ fun args r h=>by obtain⟨a,b,c,rfl,rfl⟩:=cT h;exact⟨by simp[f109],_,zl rfl (by simp[f109,vG]),qa _⟩
noncomputable def FEv:zb->Option O:=zS (α:=wv) (fun e=>[.agg e.V]) (fun e=>∃k,k<=200/\e.Good k) fun _=>int 0
theorem HT(e:wv)(k:Nat)(c:k<=200)(h:e.Good k)(Y:Hp)(Z:Nat):zg false [] FEv [.agg e.V] Y Z=some (int 0,Y,Z):=
 Zc e _ _ (by simp[wv.V]) (fun a b e=>by simp only[zc,zs,O.agg.injEq]at e;exact VZ e) ⟨k,c,h⟩ (.inl rfl)
noncomputable abbrev Cevn:Ctx:=zG prog [(30,zg false [] (FS qK)),(109,zg false [] (F3 vG)),(29,zg false [] (FS kM))]
theorem ND:Gd Cevn:=zM mixed ⟨jK,gb,QG,trivial⟩
theorem R7:qK [115]=true:=by decide
theorem mA(e:wv)(k:Nat)(y:k<=200)(h:e.Good k):zt Cevn f68 [.agg e.V]=some (int 0):=by
 refine zl rfl ?_;obtain⟨sh,n,kind,t,f,v,w,m⟩:=e;obtain⟨i,j,l,o,p,q,r,s,u,a⟩:=h;simp only at i j l o p q r s u a;subst i;subst j;subst l;subst s;have x:vG ((k:Int)+1) 1 1000000000000=true:=by simp[vG];omega
 have g:vG 1 1 3=true:=by decide
 have b:=fun Y Z=>ke qK [115] Y Z (by decide)
 have c:=fun Y Z=>ke qK v Y Z a
 have d:=fun Y Z=>ke kM f Y Z u
 simp only[R7]at b;simp only[q]at c;simp only[p]at d;simp[wv.V,b,c,d,x,g,o,r,f68]
theorem gd:zf prog 68 (zg false [] FEv):=
 kL ND func68 false [] fun e ⟨k,a,b⟩=>⟨by simp[f68],_,mA e k a b,qa _⟩
def Lc(a b:Int):Int:=if a=0 then b else a
noncomputable def R8:zb->Option O:=zS (α:=Int×Int) (fun a=>[.sl 1 [[int a.1],[int a.2]]]) (fun _=>True) fun a=>int (Lc a.1 a.2)
theorem HU(a b:Int)(Y:Hp)(Z:Nat):zg false [] R8 [.own Z 0 2] (ql Y Z (some ⟨3,1,true,[[int a],[int b]]⟩)) (Z+1)=some (int (Lc a b),ql Y Z (some ⟨3,1,true,[[int a],[int b]]⟩),Z+1):=
 wR (Y1:=ql (ql Y Z (some ⟨3,1,true,[[int a],[int b]]⟩)) Z none) (show zy (ql Y Z (some ⟨3,1,true,[[int a],[int b]]⟩)) [.own Z 0 2]=some ([.sl 1 [[int a],[int b]]],_) by simp) (qx (V:=fun a:Int×Int=>[.sl 1 [[int a.1],[int a.2]]]) (a:=(a,b)) (fun x y e=>by obtain⟨c,d⟩:=x;obtain⟨f,g⟩:=y;simp only[zc,zs,O.sl.injEq,true_and]at e;rw[zT e.1,zT e.2]) trivial) (.inl rfl)
theorem HV(a b:Int):zt C0 f110 [.sl 1 [[int a],[int b]]]=some (int (Lc a b)):=by
 refine zl rfl ?_;have m:i6.wrap 1=1:=by decide
 have n:i6.wrap 2=2:=by decide
 simp;refine zP (fun k U Y Z=>U 3=int 0/\U 6=.sl 1 [[int a],[int b]]/\U 7=int 2/\U 8=int k/\(k=0\/a=0)/\(k=2->b=0)) 2 ⟨by simp,by simp,by simp,by simp,by simp,by simp⟩ ?_;rintro k U Y Z o ⟨e,f,g,h,l,p⟩
 match k,o with
 | 0,_=>
  by_cases c:a=0
  ·simp[e,f,g,h,c,Lc,m]
  ·have i:=xE c;simp[e,f,g,h,c,i,Lc,f110]
 | 1,_=>
  have d:a=0:=by simpa using l
  by_cases c:b=0
  ·simp[e,f,g,h,c,d,Lc,n]
  ·have i:=xE c;simp[e,f,g,h,c,i,d,Lc,f110]
 | 2,_=>
  have d:a=0:=by simpa using l
  have j:=p rfl;simp[e,f,g,h,d,j,Lc,f110]
theorem D7:zf prog 110 (zg false [] R8):=
 kL y7 func110 false [] fun a _=>⟨by simp[f110],_,HV a.1 a.2,qa _⟩
noncomputable def rE (a b:wv):Int:=Lc (wX a.sh b.sh) (yj a.n b.n)
noncomputable def FEo:zb->Option O:=zS (α:=wv×wv) (fun a=>[.agg a.1.V,.agg a.2.V]) (fun _=>True) fun a=>int (rE a.1 a.2)
theorem HW(a b:wv)(Y:Hp)(Z:Nat):zg false [] FEo [.agg a.V,.agg b.V] Y Z=some (int (rE a b),Y,Z):=
 Zc (a,b) _ _ (by simp[wv.V]) (fun x y e=>by obtain⟨c,d⟩:=x;obtain⟨f,g⟩:=y;simp only[zc,zs,O.agg.injEq]at e;rw[VZ e.1,VZ e.2]) trivial (.inl rfl)
noncomputable abbrev Ceo:Ctx:=zG prog [(41,zg false [] (Cy wX)),(111,zg false [] (OD yj)),(110,zg false [] R8)]
theorem R9:AM.Good Ceo (fun g=>[41,111,110].contains g):=qc (q:=[41,111,110]) mixed ⟨yd,fun _=>zr _ _,W7,fun _=>zr _ _,D7,fun _=>zr _ _,trivial⟩
theorem uQ(a b:wv):zt Ceo f69 [.agg a.V,.agg b.V]=some (int (rE a b)):=by
 refine zl rfl ?_;have h:=fun Y Z=>HU (wX a.sh b.sh) (yj a.n b.n) Y Z
 simp[wv.V,zu,zX,zv,h,f69];rfl
theorem rF:zf prog 69 (zg false [] FEo):=
 kL R9 func69 false [] fun a _=>⟨by simp[f69],_,uQ a.1 a.2,qa _⟩
noncomputable def Uh (out:List wv->O):zb->Option O:=zS (α:=List wv) (fun l=>[.sl 8 (l.map wv.V)]) iH out
theorem Sa(out:List wv->O)(l:List wv)(h:iH l):Uh out [.sl 8 (l.map wv.V)]=some (out l):=qx (V:=fun l:List wv=>[.sl 8 (l.map wv.V)]) (fun x y e=>by simp only[zc,zs,O.sl.injEq,true_and]at e;exact V0 e) h
theorem rG(out:List wv->O)(l:List wv)(h:iH l)(a:(out l).flat=true)(Y:Hp)(Z:Nat):zg false [] (Uh out) [.sl 8 (l.map wv.V)] Y Z=some (out l,Y,Z):=
 wR (Y1:=Y) (show zy Y [.sl 8 (l.map wv.V)]=some ([.sl 8 (l.map wv.V)],Y) by simp) (Sa out l h) (.inl a)
def ON(l:List wv):Int:=if l=[]then 0 else 1
theorem rH(l:List wv)(h:iH l):zt C0 f70 [.sl 8 (l.map wv.V)]=some (int (ON l)):=by
 refine zl rfl ?_;have C:=h.len;have s:i6.wrap 1=1:=by decide
 simp;refine zP (fun k U Y Z=>U 0=.sl 8 (l.map wv.V)/\U 3=int (if k=0 then 0 else 1)/\U 6=.sl 8 (l.map wv.V)/\U 7=int l.length/\U 8=int k) l.length ⟨by simp,by simp,by simp,by simp,by simp⟩ ?_;rintro k U Y Z D ⟨p,d,f,i,m⟩;by_cases a:k<l.length
 ·obtain⟨e,n⟩:=kC (l[k]);have g:=h.ok k a;rw[n]at g;have t:=qz k;by_cases c:k=0
  ·subst c;simp[p,d,f,i,m,a,n,wv.V,t,s];omega
  ·obtain⟨j,rfl⟩:∃j,k=j+1:=⟨k-1,by omega⟩;have q:j<l.length:=by omega
   obtain⟨E,b⟩:∃e,l[j]=e:=⟨_,rfl⟩;have r:=h.ok j q;rw[b]at r;have u:i6.wrap ((j:Int)+1-1)=(j:Int):=by rw[qE (by omega) (by omega)];omega
   have o:=wo (j:Int);have v:=wo ((j:Int)+1+1);have w:((j:Int)+1).toNat=j+1:=by omega
   have x:((j:Int)+1==0)=false:=by simp;omega
   have y:0<=(j:Int)+1:=by omega
   have z:(j:Int)+1<l.length:=by omega
   have A:¬(j:Int)+1=0:=by omega
   simp[p,d,f,i,m,a,q,n,b,wv.V,u,o,v,w,x,y,z,A,g.sh,r.sh];omega
 ·obtain rfl:k=l.length:=by omega
  have B:ON l=if l.length=0 then 0 else 1:=by cases l<;>simp[ON]
  simp[d,f,i,m,B,f70]
theorem mB:zf prog 70 (zg false [] (Uh fun l=>int (ON l))):=
 kL y7 func70 false [] fun l a=>⟨by simp[f70],_,rH l a,qa _⟩
noncomputable abbrev Ccl:Ctx:=zG prog [(68,zg false [] FEv),(69,zg false [] FEo),(70,zg false [] (Uh fun l=>int (ON l)))]
theorem Sb:AM.Good Ccl (fun g=>[69].contains g):=qc (q:=[69]) mixed ⟨gd,by simp,rF,fun _=>zr _ _,mB,by simp,trivial⟩
theorem HX{a b:wv}{j:Nat}(c:a.Good j)(d:b.Good (j+1)):rE a b=-1:=by
 have e:wX a.sh b.sh=0:=by rw[c.sh,d.sh];exact QS.refl _
 unfold rE Lc;rw[e,ze rfl,c.n,d.n];unfold yj;rw[ze (by push_cast;omega)]
theorem gf(l:List wv)(h:iH l):zt Ccl f38 [.sl 8 (l.map wv.V)]=some (int 0):=by
 refine zl rfl ?_;have E:=h.len;have n:¬(20000:Int)<l.length:=by omega
 have o:=fun Y Z=>rG (fun l=>int (ON l)) l h rfl Y Z
 have w:i6.wrap 1=1:=by decide
 have p:¬(50:Int)<ON l:=by unfold ON;split<;>omega
 simp[n];refine zP (fun k U Y Z=>U 0=.sl 8 (l.map wv.V)/\U 9=.sl 8 (l.map wv.V)/\U 10=int l.length/\U 11=int k) l.length ⟨by simp,by simp,by simp,by simp⟩ ?_;rintro k U Y Z F ⟨q,r,b,d⟩;by_cases f:k<l.length
 ·obtain⟨e,s⟩:=kC (l[k]);have g:=h.ok k f;rw[s]at g;have a:=fun Y Z=>HT e k (by omega) g Y Z
  have G:=qz k;by_cases c:k=0
  ·subst c;simp only[wv.V]at a;simp[q,r,b,d,f,s,wv.V,a,w];omega
  ·obtain⟨j,rfl⟩:∃j,k=j+1:=⟨k-1,by omega⟩;have u:j<l.length:=by omega
   obtain⟨x,m⟩:∃e,l[j]=e:=⟨_,rfl⟩;have v:=h.ok j u;rw[m]at v;have i:=fun Y Z=>HW x e Y Z
   rw[HX v g]at i;have y:i6.wrap ((j:Int)+1-1)=(j:Int):=by rw[qE (by omega) (by omega)];omega
   have t:=wo (j:Int);have z:=wo ((j:Int)+1+1);have A:((j:Int)+1).toNat=j+1:=by omega
   have B:0<(j:Int)+1:=by omega
   have C:0<=(j:Int)+1:=by omega
   have D:(j:Int)+1<l.length:=by omega
   simp only[wv.V]at a i;simp[q,r,b,d,f,u,s,m,wv.V,a,i,y,t,z,A,B,C,D];omega
 ·obtain rfl:k=l.length:=by omega
  simp[q,r,b,d,o,p,f38]
theorem eX:zf prog 38 (zg false [] (Uh fun _=>int 0)):=
 kL Sb func38 false [] fun l a=>⟨by simp[f38],_,gf l a,qa _⟩
end Go.Q
namespace Go.Proofs
open Go.Shelf
def Tryz.Er:Go.Shelf.Ren:=⟨fun|6=>39|15=>72|14=>71|28=>120|29=>121|20=>112|21=>113|22=>114|23=>115|24=>116|25=>117|26=>118|27=>119|46=>156|47=>157|48=>158|49=>159|50=>160|57=>193|n=>n,fun|22=>48|24=>53|25=>113|3=>3|39=>152|0=>0|53=>193|55=>134|4=>4|46=>187|45=>186|50=>54|5=>5|9=>9|66=>219|70=>223|76=>264|77=>126|n=>n,fun|n=>n⟩
theorem Tryz.Pd:Go.Proofs.SlLaysF0.n6 prog Tryz.Er:={
 mixed:=by kernel_rfl
 f6:=⟨f39.name,by decide,func39.trans (zo some (by kernel_rfl))⟩
 f14:=⟨f71.name,by decide,func71.trans (zo some (by kernel_rfl))⟩
 f15:=func72.trans (zo some (by kernel_rfl))
 f20:=⟨f112.name,by decide,func112.trans (zo some (by kernel_rfl))⟩
 f21:=⟨f113.name,by decide,func113.trans (zo some (by kernel_rfl))⟩
 f22:=⟨f114.name,by decide,func114.trans (zo some (by kernel_rfl))⟩
 f23:=⟨f115.name,by decide,func115.trans (zo some (by kernel_rfl))⟩
 f24:=⟨f116.name,by decide,func116.trans (zo some (by kernel_rfl))⟩
 f25:=⟨f117.name,by decide,func117.trans (zo some (by kernel_rfl))⟩
 f26:=⟨f118.name,by decide,func118.trans (zo some (by kernel_rfl))⟩
 f27:=⟨f119.name,by decide,func119.trans (zo some (by kernel_rfl))⟩
 f28:=func120.trans (zo some (by kernel_rfl))
 f29:=func121.trans (zo some (by kernel_rfl))
 f46:=⟨f156.name,by decide,func156.trans (zo some (by kernel_rfl))⟩
 f47:=func157.trans (zo some (by kernel_rfl))
 f48:=func158.trans (zo some (by kernel_rfl))
 f49:=⟨f159.name,by decide,func159.trans (zo some (by kernel_rfl))⟩
 f50:=⟨f160.name,by decide,func160.trans (zo some (by kernel_rfl))⟩
 f57:=⟨f193.name,by decide,func193.trans (zo some (by kernel_rfl))⟩
 t0:=underlying0
 a0:=isAgg0
 z0:=sizeOf0
 v0:=zeroValue0
 t3:=underlying3
 a3:=isAgg3
 z3:=sizeOf3
 v3:=zeroValue3
 t4:=underlying4
 a4:=isAgg4
 z4:=sizeOf4
 v4:=zeroValue4
 t5:=underlying5
 a5:=isAgg5
 z5:=sizeOf5
 v5:=zeroValue5
 t9:=underlying9
 a9:=isAgg9
 z9:=sizeOf9
 v9:=zeroValue9
 t22:=underlying48
 a22:=isAgg48
 z22:=sizeOf48
 v22:=zeroValue48
 t25:=underlying113
 a25:=isAgg113
 z25:=sizeOf113
 v25:=zeroValue113
 t39:=underlying152
 a39:=isAgg152
 z39:=sizeOf152
 v39:=zeroValue152
 t45:=underlying186
 a45:=isAgg186
 z45:=sizeOf186
 v45:=zeroValue186
 t46:=underlying187
 a46:=isAgg187
 z46:=sizeOf187
 v46:=zeroValue187
 t50:=underlying54
 a50:=isAgg54
 z50:=sizeOf54
 v50:=zeroValue54
 t53:=underlying193
 a53:=isAgg193
 z53:=sizeOf193
 v53:=zeroValue193
 t55:=underlying134
 a55:=isAgg134
 z55:=sizeOf134
 v55:=zeroValue134
 t66:=underlying219
 a66:=isAgg219
 z66:=sizeOf219
 v66:=zeroValue219
 t70:=underlying223
 a70:=isAgg223
 z70:=sizeOf223
 v70:=zeroValue223
 t76:=underlying264
 a76:=isAgg264
 z76:=sizeOf264
 v76:=zeroValue264
 t77:=underlying126
 a77:=isAgg126
 z77:=sizeOf126
 v77:=zeroValue126}
theorem Tryz.IW:tB prog 39 8:=⟨fun _ _ V e f h i g blk off cap d w j a k b c=>AnyQ.slices_SortFunc_eq Tryz.Pd 8 isAgg53 sizeOf53 V e f h i g #[] blk off cap d w j a k b c,
 fun p cap l w=>AnyF.slices_SortFunc_none Tryz.Pd p cap l w⟩
end Go.Proofs
namespace Go.Q
structure vN where
 key:List UInt8
 t:Int
 arm:Int
def vN.V(x:vN):zb:=[str x.key,int x.t,int x.arm,int 0,int 0,int 0,int 0,qO false]
theorem Bq(x:vN):x.V=[str x.key,int x.t,int x.arm,int 0,int 0,int 0,int 0,qO false]:=rfl
theorem Br{a b:vN}(h:a.V=b.V):a=b:=by cases a;cases b;simp only[vN.V,zc,zs]at h;rw[qv h.1,zT h.2.1,zT h.2.2]
@[simp]theorem uR(x:vN)(Y:Hp):qe Y (.agg x.V)=some (.agg x.V,Y):=by simp[vN.V]
@[simp]theorem D8(x:vN):(O.agg x.V).noOwn=true:=rfl
noncomputable def FJJ (out:vN->vN->O) (pre:vN->vN->Prop):zb->Option O:=zS (α:=vN×vN) (fun a=>[.agg a.1.V,.agg a.2.V]) (fun a=>pre a.1 a.2) (fun a=>out a.1 a.2)
theorem HY(out:vN->vN->O)(pre:vN->vN->Prop)(a b:vN)(Y:Hp)(Z:Nat)(h:pre a b):zg false [] (FJJ out pre) [.agg a.V,.agg b.V] Y Z=some (out a b,Y,Z):=
 Zc (a,b) _ _ (by simp only[zy,uR]) (fun x y e=>by obtain⟨c,d⟩:=x;obtain⟨f,g⟩:=y;simp only[zc,zs,O.agg.injEq]at e;rw[Br e.1,Br e.2]) h (.inr (by simp only[wJ,D8,mQ,Bool.and_self]))
noncomputable def NF (x y:zb):Int:=match(x[0]?:Option O),(y[0]?:Option O)with
 |some (O.v (.string a)),some (O.v (.string b))=>wX a.data.toList b.data.toList
 |_,_=>0
theorem V1(a b:vN):NF a.V b.V=wX a.key b.key:=by simp[NF,Bq]
noncomputable abbrev Ccj1:Ctx:=zG prog [(41,zg false [] (Cy wX))]
theorem NG:AM.Good Ccj1 (fun g=>[41].contains g):=qc mixed ⟨yd,fun _=>zr _ _,trivial⟩
theorem uS:zf prog 40 (zg false [] (FJJ (fun a b=>int (wX a.key b.key)) fun _ _=>True)):=
 kL NG func40 false [] fun⟨a,b⟩ _=>⟨zA (zi 2) (by decide),_,zl rfl (by simp[Bq,f40]),qa _⟩
def NH(x:zb):Prop:=∃a:vN,x=a.V
theorem NI:F8 prog 40 8 NF NH:=
 ⟨fun args w=>enters_of func40 (by kernel_rfl) rfl args w,_,uS,fun x y _ _ c d=>by obtain⟨a,rfl⟩:=c;obtain⟨b,rfl⟩:=d;rw[V1];exact HY _ _ a b _ _ trivial⟩
theorem rI:zf prog 39 (Km 8 40 NF NH):=
 ar (by omega) ⟨_,func39,by decide,by kernel_rfl⟩ Tryz.IW NI
theorem Bs(l:List vN):Q9 NF (l.map vN.V) where
 irrefl x d:=by obtain⟨s,hs,rfl⟩:=zN.1 d;rw[V1,QS.refl];omega
 trans x d y g z h e f:=by obtain⟨a,i,rfl⟩:=zN.1 d;obtain⟨b,j,rfl⟩:=zN.1 g;obtain⟨c,k,rfl⟩:=zN.1 h;rw[V1]at e f⊢;exact QS.trans e f
 ntrans x d y g z h e f:=by obtain⟨a,i,rfl⟩:=zN.1 d;obtain⟨b,j,rfl⟩:=zN.1 g;obtain⟨c,k,rfl⟩:=zN.1 h;rw[V1]at e f⊢;exact QS.ntrans e f
theorem iB(l:List vN):∃m:List vN,xv NF (l.map vN.V)=m.map vN.V/\m.Perm l/\m.Pairwise (fun a b=>0<=wX b.key a.key):=by
 obtain⟨m,f,d⟩:=VO (Yg (Bs l));refine⟨m,d,f,?_⟩;have e:=Vu (Bs l);rw[d,List.pairwise_map]at e;refine e.imp_of_mem fun{a b} g h c=>?_
 rw[V1]at c;omega
noncomputable def vu (l:List vN):List vN:=(iB l).choose
theorem xA(l:List vN):xv NF (l.map vN.V)=(vu l).map vN.V/\(vu l).Perm l/\(vu l).Pairwise (fun a b=>0<=wX b.key a.key):=(iB l).choose_spec
theorem uT{l:List vN}(p:l.length<=2097152){Y:Hp}{Z:Nat}{v:O}(g:wD Y Z 53 8 v (l.map vN.V)) :
  ∃b,Km 8 40 NF NH [v,.fn (.func 40) [] []] Y Z=some (.q8 [],b,Z)/\wD b Z 53 8 v ((vu l).map vN.V)/\∀id,(∀n,v≠.own id 0 n)->b id=Y id:=by
 have a:=(xA l).1;rcases g with⟨rfl,h⟩|⟨id,hid,rfl,e⟩
 ·refine⟨Y,rfl,.inl ⟨rfl,?_⟩,fun _ _=>rfl⟩;rw[<-a,h];rfl
 ·by_cases f:l=[]
  ·subst f;have:vu []=[]:=by
    have:((vu []).map vN.V)=[]:=by rw[<-a];rfl
    simpa using this
   rw[this];exact⟨Y,rfl,.inr ⟨id,hid,rfl,e⟩,fun _ _=>rfl⟩
  ·have c:¬(l.map vN.V).length=0:=by simpa using f
   have d:((vu l).map vN.V).length=(l.map vN.V).length:=by rw[<-a,Vv (Bs l)]
   refine⟨ql Y id (some ⟨53,8,true,(vu l).map vN.V⟩),?_,.inr ⟨id,hid,by rw[d],by simp⟩,fun j i=>qu _ _ _ _ (by rintro rfl;exact i _ rfl)⟩;show(if(l.map vN.V).length=0 then _ else _)=_;rw[zj c,e];simp only;have k:((l.map vN.V).drop 0).take (l.map vN.V).length=l.map vN.V:=by rw[wZ,ja]
   have m:(l.map vN.V).drop (0+(l.map vN.V).length)=[]:=by rw[mO,zp]
   rw[k,m,ze ⟨rfl,rfl,rfl,by simp,by simp;omega,Bs l,fun x o=>by obtain⟨s,hs,rfl⟩:=zN.1 o;exact⟨s,rfl⟩⟩,a]
   simp
end Go.Q
namespace Go.AM
open Go.RowKit Go.Sort Go.Proofs
variable{dr:Prop}
abbrev mC(a:List za):List zb:=a.map fun n=>[str n]
@[simp]theorem aN(a:List za):(mC a).length=a.length:=by simp[mC]
theorem HZ{a:List za}{i:Nat}{c:zb}(h:(mC a)[i]?=some c):∃d:i<a.length,c=[str a[i]]:=by
 unfold mC at h;rw[qn]at h;cases b:a[i]? with
 |none=>rw[b]at h;cases h
 |some x=>rw[b]at h;obtain⟨d,rfl⟩:=zh.1 b;exact⟨d,by simpa using h.symm⟩
def H0(P:Program)(f:Nat)(F:List za->List za)(b:Bool):Prop:=
 ∀(blk cap:Nat) (a:List za) (w:World),Holds encStr w blk 0 a.toArray->blk<w.heap.size->a.length<4611686018427387904->a.length<=cap ->
  Calls P f #[.slice (some ⟨blk,0,none⟩) a.length cap] w fun e c=>e=.returned (if b then .slice (some ⟨blk,0,none⟩) (F a).length cap else .tuple #[]) /\
   ∃(q:Nat) (g:Array Obj) (d:List za),d.length=a.length/\(∃r,d=F a++r)/\c=grow (putRow encStr (Sort.ahead w q) blk 0 d.toArray) g
open Classical in
noncomputable def uU (es:List zb):Option (List za):=if h:∃a:List za,es=mC a then some h.choose else none
theorem uV{es:List zb}{a:List za}(h:uU es=some a):es=mC a:=by
 unfold uU at h;split at h
 ·rename_i b;injection h with h
  rw[<-h];exact b.choose_spec
 ·cases h
noncomputable def rJ (F:List za->List za) (a:Bool):AM.Spec:=fun args Y Z=>
 match args with
 |[.nil]=>some (if a then .nil else .q8 [],Y,Z)
 |[.own id off n]=>match Y id with
  |some b=>match uU b.es with
   |some c=>if off=0/\b.arr=true/\b.s=1/\n=c.length/\c.length<4611686018427387904 then
     some (if a then .own id 0 (F c).length else .q8 [],ql Y id (some ⟨b.e,b.s,b.arr,mC (F c)⟩),Z)else none
   |none=>none
  |none=>none
 |_=>none
theorem eY(w:World)(blk:Nat)(d:Array za){a:Array Value}{e:TypeId}(h:w.heap[blk]?=some (.cells a e (0,0))) :
  putRow encStr w blk 0 d=w.setRow blk (putCells encStr 0 d a):=by
 unfold putRow mapBlock World.setRow;congr 1;apply Array.ext_getElem?;intro i;simp only[vR];by_cases b:blk=i
 ·subst b;simp only[qI,h,zL,onCells]
 ·simp[b]
theorem mD(w:World)(blk q:Nat)(d:Array za)(a:Array Obj):Fr dr (putRow encStr w blk 0 d) (fun _=>False) (grow (putRow encStr (Sort.ahead w q) blk 0 d) a):=by
 refine⟨rfl,rfl,rfl,?_,fun _=>?_,fun b c _=>?_⟩
 ·show _<=(_++a).size;rw[Array.size_append];exact Nat.le_add_right _ _
 ·exact Nat.le_add_right _ _
 ·exact WG c
theorem rK{P:Program}{f:Nat}{F:List za->List za}{l:Bool}(K:∃fn,P.funcs[f]?=some fn/\(fn.name== "runtime.NumGoroutine")=false/\fn.body.isNone=false)(L:H0 P f F l)(C:∀w,Calls P f #[.slice none 0 0] w fun e M=>e=.returned (if l then .slice none 0 0 else .tuple #[])/\M=w):kF dr P f (rJ F l):=by
 refine⟨K,?_⟩;intro args Y Z r Y' Z' h w S G vs N hz;unfold rJ at h;split at h
 case h_3=>cases h
 case h_1=>
  obtain⟨u,us,rfl,J,z⟩:=hz.jy;obtain rfl:=z.Qs;obtain rfl:=J.vS;injection h with h;injection h with Q h;injection h with R T;subst Q;subst R;subst T;refine(C w).mono fun e M W=>?_
  obtain⟨rfl,rfl⟩:=W;refine⟨_,S,G,rfl,.refl N,?_⟩;cases l with
  |false=>exact yY
  |true=>exact .c .nil
 rename_i id off n;obtain⟨u,us,rfl,J,z⟩:=hz.jy;obtain rfl:=z.Qs;have m:=J.xB;obtain⟨cap,g1,g2,g3,g4,rfl⟩:=J.vT;split at h
 case h_2=>cases h
 rename_i b hb;split at h
 case h_2=>cases h
 rename_i k o;have o:=uV o;split at h
 case isFalse=>cases h
 rename_i hx;obtain⟨rfl,harr,X,hn,D⟩:=hx;injection h with h
 injection h with Q h;injection h with R T;subst Q;subst R;subst T;subst hn;have p:=N.live id b hb;have a:(G id).s=1:=by rw[<-p.bs];exact X
 obtain⟨t,c1,c2,c3⟩:=p.row m;rw[a]at c3 g4;have y:=p.fit m;rw[o,a]at y;simp only[aN,zbv,mO]at y g4;have A:∀j (E:j<k.length),t[j]?=some (encStr k[j]):=fun j E=>by obtain⟨u,q1,q2⟩:=c3 j 0 [str k[j]] (str k[j]) (by rw[o];simp[mC,E]) rfl;rw[zbv,Yu]at q1;obtain⟨rfl,_⟩:=q2.2.1.wF;exact q1
 have hH:Holds encStr w (G id).g 0 k.toArray:=by
  intro j E;have hj':j<k.length:=by simpa using E
  constructor
  ·rw[mO,cell_of_row w _ _ t _ _ c1,A j hj',mP _ j E];simp
  ·simp[World.frozen?,c1]
 have key:=L (G id).g cap k w hH p.lt D g2;rw[a];simp only[Nat.zero_mul];refine key.mono fun e M W=>?_
 obtain⟨rfl,q,os,d,hd1,⟨rr,H⟩,rfl⟩:=W;have hFl:(F k).length<=k.length:=by rw[<-hd1,H,yy];omega
 have B:=j6.set (dr:=dr) N hb m (putCells encStr 0 d.toArray t) (mC (F k)) (by simp[putCells,c2])
  (fun c hc=>by obtain⟨x,_,rfl⟩:=zN.1 hc;rw[a];rfl)
  (by rw[a,aN];omega)
  (fun i j c pv hci I=>by
   obtain⟨Em,rfl⟩:=HZ hci;have hj0:j=0:=by have:=(zh.1 I).1;simpa using this
   subst hj0;obtain rfl:str (F k)[i]=pv:=by simpa using I
   refine⟨encStr (F k)[i],?_,fun _=>.v rfl,.c (.v rfl),rfl⟩;rw[a,zbv,Yu];have hic:i<t.size:=by rw[c2];omega
   unfold putCells;rw[Array.getElem?_mapIdx,xm hic];simp only[zL];have hid:i<d.length:=by omega
   rw[ze ⟨ka _,by simpa using hid⟩];have:d.toArray[i-0]! = (F k)[i]:=by rw[Nat.sub_zero,mP _ i (by simpa using hid)];simp[H,Ek Em]
   rw[this])
 rw[<-eY w _ _ c1]at B;refine⟨_,S,G,rfl,B.trans (j6.grown B.inv (mD w (G id).g q d.toArray os)),?_⟩;cases l with
 |false=>exact yY
 |true=>simp only[qI];have:=zW.own (w:=grow (putRow encStr (Sort.ahead w q) (G id).g 0 d.toArray) os) (S:=S) (G:=G) (Z:=Z) (id:=id) (off:=0) (n:=(F k).length) (cap:=cap) g1 (by omega) g3 (by rw[a];omega) m;simpa using this
end Go.AM
namespace Go.Q
def cutC(s:Int×Bool):Bool:=s.2||decide (200<s.1)
def zbc(s r:Int×Bool):Int×Bool:=if cutC s then s else(s.1+r.1,s.2||r.2)
mutual
def qT.rp:qT->Int->Int×Bool
 | .mk _ _ _ _ _ _ xs,l=>rpC xs l (1,decide (20<l))
def rpC:List qT->Int->Int×Bool->Int×Bool
 |[],_,s=>s
 |c::cs,l,s=>rpC cs l (zbc s (c.rp (l+1)))
end
structure RPC (xs:List qT) (l:Int) (s r:Int×Bool):Prop where
 lo:s.1<=r.1
 hi:r.1<=s.1+jo xs
 deep:r.2=true->s.2=true\/20<l+(yT xs:Int)
 all:cutC r=false->r.1=s.1+jo xs/\(xs≠[]->l+(yT xs:Int)<=20)
end Go.Q
namespace Go.AM
end Go.AM
namespace Go.Q
def hd(s:za):za:=s.takeWhile (· != 32)
mutual
def rnC(a:Cut->Bool):List Cut->List wG
 |[]=>[]
 |c::l=>if a c=true then rnO a c l else rnC a l
def rnO(a:Cut->Bool)(s:Cut):List Cut->List wG
 |[]=>[jN s]
 |c::l=>if a c=true then rnO a s l else P8 s c::rnC a l
end
end Go.Q
namespace Go.Proofs
open Go.Shelf
end Go.Proofs
namespace Go.Q
end Go.Q
namespace Go.AM
variable{dr:Prop}
section
variable{P:Program}{Y:Hp}{Z:Nat}
end
end Go.AM
namespace Go.AM
open Go.RowKit Go.Proofs Go.Lib
variable{dr:Prop}
variable{P:Program}
theorem setRow_size{w:World}{g:Nat}(cs:Array Value):(w.setRow g cs).heap.size=w.heap.size:=by simp[World.setRow]
end Go.AM
namespace Go.Q
open Go.RowKit Go.Lib Go.AM
attribute [local go_sem] Oper.semAt_some
end Go.Q
namespace Go.Q
end Go.Q
namespace Go.Proofs
open Go.Shelf
def Tryz.sj:Go.Shelf.Ren:=⟨fun|125=>72|128=>120|129=>121|190=>42|258=>74|302=>123|303=>124|304=>125|305=>126|306=>127|307=>128|308=>129|309=>130|310=>131|329=>157|330=>158|333=>161|334=>162|335=>163|336=>164|344=>194|n=>n,fun|0=>0|3=>3|4=>4|5=>5|9=>9|31=>49|46=>152|51=>193|53=>134|131=>54|182=>186|183=>187|218=>219|222=>223|228=>264|229=>126|n=>n,fun|n=>n⟩
theorem Tryz.BH:Go.Proofs.Lays.n190 prog Tryz.sj:={
 mixed:=by kernel_rfl
 f125:=func72.trans (zo some (by kernel_rfl))
 f128:=func120.trans (zo some (by kernel_rfl))
 f129:=func121.trans (zo some (by kernel_rfl))
 f190:=func42.trans (zo some (by kernel_rfl))
 f258:=func74.trans (zo some (by kernel_rfl))
 f302:=func123.trans (zo some (by kernel_rfl))
 f303:=func124.trans (zo some (by kernel_rfl))
 f304:=func125.trans (zo some (by kernel_rfl))
 f305:=func126.trans (zo some (by kernel_rfl))
 f306:=func127.trans (zo some (by kernel_rfl))
 f307:=func128.trans (zo some (by kernel_rfl))
 f308:=func129.trans (zo some (by kernel_rfl))
 f309:=func130.trans (zo some (by kernel_rfl))
 f310:=func131.trans (zo some (by kernel_rfl))
 f329:=func157.trans (zo some (by kernel_rfl))
 f330:=func158.trans (zo some (by kernel_rfl))
 f333:=func161.trans (zo some (by kernel_rfl))
 f334:=func162.trans (zo some (by kernel_rfl))
 f335:=func163.trans (zo some (by kernel_rfl))
 f336:=func164.trans (zo some (by kernel_rfl))
 f344:=func194.trans (zo some (by kernel_rfl))
 t0:=underlying0
 a0:=isAgg0
 z0:=sizeOf0
 v0:=zeroValue0
 t3:=underlying3
 a3:=isAgg3
 z3:=sizeOf3
 v3:=zeroValue3
 t4:=underlying4
 a4:=isAgg4
 z4:=sizeOf4
 v4:=zeroValue4
 t5:=underlying5
 a5:=isAgg5
 z5:=sizeOf5
 v5:=zeroValue5
 t9:=underlying9
 a9:=isAgg9
 z9:=sizeOf9
 v9:=zeroValue9
 t31:=underlying49
 a31:=isAgg49
 z31:=sizeOf49
 v31:=zeroValue49
 t46:=underlying152
 a46:=isAgg152
 z46:=sizeOf152
 v46:=zeroValue152
 t51:=underlying193
 a51:=isAgg193
 z51:=sizeOf193
 v51:=zeroValue193
 t53:=underlying134
 a53:=isAgg134
 z53:=sizeOf134
 v53:=zeroValue134
 t131:=underlying54
 a131:=isAgg54
 z131:=sizeOf54
 v131:=zeroValue54
 t182:=underlying186
 a182:=isAgg186
 z182:=sizeOf186
 v182:=zeroValue186
 t183:=underlying187
 a183:=isAgg187
 z183:=sizeOf187
 v183:=zeroValue187
 t218:=underlying219
 a218:=isAgg219
 z218:=sizeOf219
 v218:=zeroValue219
 t222:=underlying223
 a222:=isAgg223
 z222:=sizeOf223
 v222:=zeroValue223
 t228:=underlying264
 a228:=isAgg264
 z228:=sizeOf264
 v228:=zeroValue264
 t229:=underlying126
 a229:=isAgg126
 z229:=sizeOf126
 v229:=zeroValue126}
end Go.Proofs
namespace Go.Q
open Go.RowKit Go.AM Go.Sort
abbrev Bt(a:List za):List za:=a.mergeSort fun x y=>decide (x<=y)
theorem H2:H0 prog 42 Bt false:=by
 intro blk cap a w b c d h;refine(Any.slices_Sort_string Tryz.BH blk 0 cap a w b c d).mono fun e i f=>?_
 obtain⟨rfl,n,g,rfl⟩:=f;exact⟨rfl,n,g,_,by rw[List.length_mergeSort],⟨[],by simp⟩,rfl⟩
theorem rL:zf prog 42 (rJ Bt false):=
 rK ⟨_,func42,by decide,by kernel_rfl⟩ H2 fun w=>Any.slices_Sort_string_none Tryz.BH none 0 w
end Go.Q
namespace Go.Q
def Qm(F:List wv)(e:wv):List wv:=if F.any (fun f=>f.key==e.key)=true then F else F++[e]
def kB(l:List wv):List wv:=l.foldl Qm []
theorem D9(l:List wv)(k:Nat)(h:k<l.length):kB (l.take (k+1))=Qm (kB (l.take k)) l[k]:=by unfold kB;rw[qo h,Bx];rfl
theorem Jy{F:List wv}{e:wv}:F.any (fun f=>f.key==e.key)=true↔∃f∈F,f.key=e.key:=by simp
theorem eZ:∀(l F:List wv) (f:wv),f∈l.foldl Qm F->f∈F\/f∈l
 |[],_,_,h=>.inl h
 |e::l,F,f,h=>by
  rcases eZ l (Qm F e) f h with h|h
  ·unfold Qm at h;split at h
   ·exact .inl h
   ·rcases qh.1 h with h|h
    ·exact .inl h
    ·rw[we.1 h];exact .inr (zdj ..)
  ·exact .inr (WH _ h)
theorem NJ{F:List wv}(e:wv)(h:(F.map wv.key).Nodup):((Qm F e).map wv.key).Nodup:=by
 unfold Qm;split
 ·exact h
 ·rename_i c;rw[JU,List.nodup_append];refine⟨h,by simp,fun a d b g=>?_⟩;obtain⟨f,i,rfl⟩:=zN.1 d;obtain rfl:b=e.key:=by simpa using g
  intro j;exact c (Jy.2 ⟨f,i,j⟩)
theorem mE:∀(l F:List wv),(F.map wv.key).Nodup->((l.foldl Qm F).map wv.key).Nodup
 |[],_,h=>h
 |e::l,F,h=>mE l _ (NJ e h)
theorem H3(F:List wv)(e:wv):(Qm F e).length<=F.length+1:=by unfold Qm;split<;>simp
theorem e8:∀(l F:List wv),(l.foldl Qm F).length<=F.length+l.length
 |[],_=>zi _
 |e::l,F=>by have a:=e8 l (Qm F e);have b:=H3 F e;simp only[List.foldl_cons,zU];omega
structure Es (l:List wv) (nm:List UInt8):Prop where
 log:iH l
 nm:∀e∈l,e.nm=nm
 one:l.Pairwise fun a b=>a.key=b.key->a.arm=b.arm/\a.t<=b.t
def WD(F:List wv):List zb:=F.map fun e=>[str e.key,.agg e.V]
def e9(F:List wv):jV:=⟨109,0,false,WD F⟩
theorem mG(s:za):∀(F:List wv) (i:Nat),((∀e∈F,e.key≠s)->jt (.string ⟨s.toArray⟩) (WD F) i=some none)/\((∃e∈F,e.key=s)->∃j,∃e∈F,e.key=s/\jt (.string ⟨s.toArray⟩) (WD F) i=some (some (j,.agg e.V)))
 |[],i=>⟨fun _=>rfl,fun⟨e,h,_⟩=>by cases h⟩
 |x::F,i=>by
  obtain⟨d,f⟩:=mG s F (i+1);by_cases a:s=x.key
  ·refine⟨fun h=>absurd a.symm (h x (zdj ..)),fun _=>⟨i,x,zdj ..,a.symm,?_⟩⟩;subst a;simp[WD,jt,jz]
  ·have g:jz (.string ⟨s.toArray⟩) (.string ⟨x.key.toArray⟩)=some false:=by simp only[jz];congr 1;rw[yC];intro e;exact a (by simpa[Z4]using e)
   have b:jt (.string ⟨s.toArray⟩) (WD (x::F)) i=jt (.string ⟨s.toArray⟩) (WD F) (i+1):=by simp only[WD,z6,jt,g]
   refine⟨fun h=>by rw[b];exact d fun e k=>h e (WH _ k),fun⟨e,h,c⟩=>?_⟩;rcases zC.1 h with rfl|h
   ·exact absurd c.symm a
   ·obtain⟨j,l,m,n,o⟩:=f ⟨e,h,c⟩;exact⟨j,l,WH _ m,n,by rw[b];exact o⟩
@[simp]theorem Ui:YP prog 47=some (.agg [.v (.string ⟨#[]⟩),int 0,int 0,int 0,.v (.string ⟨#[]⟩),.v (.string ⟨#[]⟩),int 0,int 0]):=by kernel_rfl
theorem Sc{Y:Hp}{id:Nat}{F:List wv}(s:za)(h:Y id=some (e9 F)):((∀e∈F,e.key≠s)/\jA prog Y 109 (.mp id) (str s) true=some (.q8 [.agg [.v (.string ⟨#[]⟩),int 0,int 0,int 0,.v (.string ⟨#[]⟩),.v (.string ⟨#[]⟩),int 0,int 0],qO false]))\/∃e∈F,e.key=s/\jA prog Y 109 (.mp id) (str s) true=some (.q8 [.agg e.V,qO true]):=by
 obtain⟨c,d⟩:=mG s F 0;by_cases a:∃e∈F,e.key=s
 ·obtain⟨j,e,f,g,i⟩:=d a;exact .inr ⟨e,f,g,by simp[jA,J3,h,e9,xG,i]⟩
 ·have b:∀e∈F,e.key≠s:=fun e k l=>a ⟨e,k,l⟩
  exact .inl ⟨b,by simp[jA,J3,h,e9,xG,c b]⟩
theorem zbd{Y:Hp}{id:Nat}{F:List wv}(e:wv)(h:Y id=some (e9 F))(hs:∀f∈F,f.key≠e.key):kd prog Y 109 (.mp id) (str e.key) (.agg e.V)=some (ql Y id (some (e9 (F++[e])))):=by
 obtain⟨a,c⟩:=mG e.key F 0;have b:qJ Y e.V=some (e.V,Y):=by simp[wv.V]
 simp[kd,h,e9,xG,a hs,b];simp[WD]
theorem H4{F:List wv}{c:zb}(h:c∈WD F):∃e∈F,c=[str e.key,.agg e.V]:=by obtain⟨i,a,rfl⟩:=zN.1 h;exact⟨i,a,rfl⟩
theorem rM:∀{F V:List wv},WD F=WD V->F=V
 |[],[],_=>rfl
 |[],_::_,h=>by cases h
 |_::_,[],h=>by cases h
 |x::a,y::b,h=>by simp only[WD,z6,zc,O.agg.injEq,zs]at h;rw[VZ h.1.2,rM h.2]
theorem Ea{F V:List wv}(h:(WD F).Perm (WD V)):V.Perm F:=by obtain⟨m,a,b⟩:=VO h.symm;rw[show V=m from rM b];exact a
theorem unME:prog.underlying 109=some (.map 9 47):=by kernel_rfl
def wv.sk(e:wv):vN:=⟨e.key,e.t,e.arm⟩
theorem uW:∀{F:List wv} {x y:wv},(F.map wv.key).Nodup->x∈F->y∈F->x.key=y.key->x=y
 |a::F,x,y,c,e,f,d=>by
  rw[z6,gj]at c;rcases zC.1 e with h1|h1<;>rcases zC.1 f with b|b
  ·rw[h1,b]
  ·subst h1;exact absurd (by rw[d];exact YM b) c.1
  ·subst b;exact absurd (by rw[<-d];exact YM h1) c.1
  ·exact uW c.2 h1 b d
noncomputable def V2 (l:List wv):List vN:=vu ((kB l).map wv.sk)
theorem H5{F V:List wv}(i:(F.map wv.key).Nodup)(h:V.Perm F):vu (V.map wv.sk)=vu (F.map wv.sk):=by
 obtain⟨-,f,j⟩:=xA (V.map wv.sk);obtain⟨-,g,k⟩:=xA (F.map wv.sk);have Y:(vu (V.map wv.sk)).Perm (vu (F.map wv.sk)):=f.trans ((h.map _).trans g.symm);refine List.Perm.eq_of_pairwise (le:=fun a b=>0<=wX b.key a.key) (fun a b l m n r=>?_) j k Y;have o:a.key=b.key:=by have s:=(QS.le a.key b.key).2 n;exact(xX _ _).1 (by omega)
 have c:=(f.trans (h.map _)).mem_iff.1 l;have d:=g.mem_iff.1 m;obtain⟨x,p,rfl⟩:=zN.1 c;obtain⟨y,q,rfl⟩:=zN.1 d;have e:x=y:=uW i p q o;rw[e]
theorem uX{Y:Hp}{Z:Nat}{v:O}{K:List vN}(i:wD Y Z 53 8 v (K.map vN.V))(s:vN)(m:K.length<1000000000):∃Y2,kA prog (ql Y Z (some ⟨53,8,true,[s.V]⟩)) (Z+1) 48 48 v (.own Z 0 1)=some (.own (Z+1) 0 (K.length+1),Y2,Z+2)/\wD Y2 (Z+2) 53 8 (.own (Z+1) 0 (K.length+1)) ((K++[s]).map vN.V)/\∀j b,j<Z->Y j=some b->b.arr=false->Y2 j=some b:=by
 have d:=i.jb (P:=prog) (t:=48) (c:=s.V) el48 sz53 by53 ze53 rfl (by omega) (by simp[maxLen];omega) (by simp;omega);have f:=wD.after (Y:=Y) (Z:=Z) (e:=53) (s:=8) (v:=v) (xs:=K.map vN.V) (c:=s.V) (tmp:=some ⟨53,8,true,[s.V]⟩);have g:K.map vN.V++[s.V]=(K++[s]).map vN.V:=by simp
 rw[qQ]at d;refine⟨_,d,?_,fun j b n a k=>?_⟩
 ·rw[<-g];simpa using f
 ·rw[zk _ _ _ _ (by omega)];rcases i with⟨rfl,_⟩|⟨id,hid,rfl,l⟩
  ·simp only[Z9];rw[zk _ _ _ _ (by omega)];exact a
  ·have h:j≠id:=by rintro rfl;rw[l]at a;injection a with a;subst a;cases k
   simp only[Z9];rw[zk _ _ _ _ h,zk _ _ _ _ (by omega)];exact a
noncomputable abbrev Cxp:Ctx:=zG prog [(39,Km 8 40 NF NH),(42,rJ Bt false)]
theorem Sd:Gd Cxp:=zM mixed ⟨rI,rL,trivial⟩
theorem Se{l:List wv}{c:za}(h:Es l c){k:Nat}(d:k<l.length){f:wv}(a:f∈kB (l.take k))(b:f.key=l[k].key):f.arm=l[k].arm/\f.t<=l[k].t:=by
 rcases eZ _ _ _ a with a|a
 ·cases a
 ·obtain⟨i,e,rfl⟩:=List.mem_iff_getElem.1 a;simp only[bD]at e;rw[List.getElem_take]at b⊢;exact Aa.1 h.one i k (by omega) d (by omega) b
structure IX (m b:Nat) (F:List wv) (Y:Hp) (Z:Nat):Prop where
 fst:Y m=some (e9 F)
 mix:Y b=some (jE [])
 ne:m≠b
 ml:m<Z
 bl:b<Z
theorem IX.more{m b:Nat}{F:List wv}{Y:Hp}{Z:Nat}(h:IX m b F Y Z)(x:Option jV):IX m b F (ql Y Z x) (Z+1):=
 ⟨by rw[zk _ _ _ _ (by have:=h.ml;omega)];exact h.fst,by rw[zk _ _ _ _ (by have:=h.bl;omega)];exact h.mix,h.ne,by have:=h.ml;omega,by have:=h.bl;omega⟩
theorem IX.put{m b:Nat}{F:List wv}{Y:Hp}{Z:Nat}(h:IX m b F Y Z)(a:List wv):IX m b a (ql Y m (some (e9 a))) Z:=
 ⟨by simp,by rw[zk _ _ _ _ h.ne.symm];exact h.mix,h.ne,h.ml,h.bl⟩
theorem uY(l:List wv)(F:za)(h:Es l F){code:Code}(y:f20.body=some code) :
  Wp True Cxp f20.ntmps code ⟨jX [.sl 8 (l.map wv.V),str F],fun _=>none,0⟩ (YX Cxp.P f20 (J9 (.q8 [.sl 8 ((V2 l).map vN.V),.sl 1 (zZ [])]))):=by
 have r:=Sd;have hll:=h.log.len;injection y with y
 subst y;refine Wp.cut r (fun U Y Z=>U 0=.sl 8 (l.map wv.V)/\U 1=str F) (by kernel_rfl) (by simp) ?_;rintro U Y Z ⟨s,p⟩;refine Wp.cut r (fun U Y Z=>U 0=.sl 8 (l.map wv.V)/\U 1=str F/\∃m,U 6=.mp m/\Y m=some (e9 [])/\m<Z) (by kernel_rfl) (by simp[s,p,e9,WD]) ?_;clear s p U Y Z;rintro U Y Z ⟨s,p,m,a,hm,W⟩;refine Wp.cut r (fun U Y Z=>U 0=.sl 8 (l.map wv.V)/\U 1=str F/\∃m b,U 6=.mp m/\U 7=.mp b/\IX m b [] Y Z) (by kernel_rfl) (by simp[s,p,a];exact⟨by rw[zk _ _ _ _ (by omega)];exact hm,by simp[jE,bt],by omega,by omega,by omega⟩) ?_;clear s p a hm W m U Y Z;rintro U Y Z ⟨s,p,m,b,a,c,d⟩;refine Wp.cut r (fun U Y Z=>∃m b,U 6=.mp m/\U 7=.mp b/\IX m b (kB l) Y Z) (by kernel_rfl) ?_ ?_
 ·simp[s];refine zP (fun k U Y Z=>U 1=str F/\U 6=.mp m/\U 7=.mp b/\U 18=.sl 8 (l.map wv.V)/\U 19=int l.length/\U 20=int k/\IX m b (kB (l.take k)) Y Z) l.length ⟨by simp[p],by simp[a],by simp[c],by simp,by simp,by simp,d⟩ ?_;clear s p a c d U Y Z;rintro k U Y Z R ⟨p,a,c,I,z,A,d⟩;by_cases n:k<l.length
  ·obtain⟨e,G⟩:=kC (l[k]);have g:=h.log.ok k n;have j:=h.nm l[k] (zm n);have J:=fun f H R=>Se h n (f:=f) H R
   have B:=D9 l k n;rw[G]at g j J B;have hw:=qz k;have C:=d.more (some ⟨47,8,false,[e.V]⟩);rcases Sc e.key C.fst with⟨hn,i⟩|⟨f,H,K,i⟩
   ·have o:=C.more (some ⟨47,8,false,[[.v (.string ⟨#[]⟩),int 0,int 0,int 0,.v (.string ⟨#[]⟩),.v (.string ⟨#[]⟩),int 0,int 0]]⟩);have L:=zbd e o.fst hn;simp only[wv.V,g.kind,j]at i L;simp only[wv.V,g.kind,j]at o;simp[p,a,c,I,z,A,n,G,wv.V,g.kind,j,i,L,hw];refine⟨by omega,?_⟩;have D:Qm (kB (l.take k)) e=kB (l.take k)++[e]:=by unfold Qm;rw[zj fun hh=>?_];obtain⟨f,H,R⟩:=Jy.1 hh;exact hn f H R
    rw[B,D];exact o.put _
   ·obtain⟨u1,u2⟩:=J f H K;simp only[wv.V,g.kind,j]at i;have u3:¬e.t<f.t:=by omega
    have o:=C.more (some ⟨47,8,false,[f.V]⟩);simp only[wv.V,g.kind,j,u1]at o;simp[p,a,c,I,z,A,n,G,wv.V,g.kind,j,i,u1,u3,hw];refine⟨by omega,?_⟩;have D:Qm (kB (l.take k)) e=kB (l.take k):=by unfold Qm;exact ze (Jy.2 ⟨f,H,K⟩)
    rw[B,D];exact o
  ·obtain rfl:k=l.length:=by omega
   rw[ja]at d;simp[a,c,z,A];exact d
 clear s p a c d m b U Y Z;rintro U Y Z ⟨m,b,a,c,d⟩;refine Wp.cut r (fun U Y Z=>U 6=.mp m/\U 7=.mp b/\U 12=.nil/\IX m b (kB l) Y Z) (by kernel_rfl) (by simp[a,c];exact d) ?_;clear a c d U Y Z;rintro U Y Z ⟨a,c,u,d⟩;refine Wp.cut r (fun U Y Z=>U 6=.mp m/\U 7=.mp b/\U 12=.nil/\U 13=.nil/\IX m b (kB l) Y Z) (by kernel_rfl) (by simp[a,c,u];exact d) ?_;clear a c u d U Y Z;rintro U Y Z ⟨a,c,u,q,d⟩;refine Wp.seq ?_;have hFl:(kB l).length<=200:=by have:=e8 l [];simp only[O1]at this;exact zA this (by omega)
 refine Wp.SY r 1 5 (fun X U Y Z=>U 7=.mp b/\U 13=.nil/\b<Z/\Y b=some (jE [])/\∃V:List wv,X=WD V/\wD Y Z 53 8 (U 12) ((V.map wv.sk).map vN.V)) rfl (by decide) unME rfl (by decide) rfl (by decide) ?_;simp[a,c,q];refine⟨_,d.fst,rfl,⟨by have:=d.bl;omega,by rw[zk _ _ _ _ d.ne.symm];exact d.mix,[],by simp[WD],by rw[u];exact .inl ⟨rfl,by simp⟩⟩,?_,?_⟩
 ·rintro X lft k pv U Y Z w c q hb E V rfl M hs;have N:[O.v k,pv]∈WD (kB l):=w.mem_iff.2 (by simp);obtain⟨e,hi,G⟩:=H4 N;simp only[zc,O.v.injEq,zs]at G;obtain⟨rfl,rfl⟩:=G;have hVl:V.length<=(kB l).length:=by have:=w.length_eq;simp[e9,WD]at this;omega
  rw[<-List.map_map]at M;have i:=eD (Y:=ql Y Z (some ⟨47,8,false,[e.V]⟩)) (id:=b) (l:=[]) e.key (by rw[zk _ _ _ _ (by omega)];exact E);simp[wv.V]at i;obtain⟨x,S,T,e3⟩:=uX (M.more (some ⟨47,8,false,[e.V]⟩)) e.sk (by simp;omega);simp[wv.V,vN.V,wv.sk]at S;simp[wv.V,O.cells];refine Wp.of r (by kernel_rfl) ?_;simp[c,q,hs,i,qg,qF,yi,zu,zX,zv,S];exact⟨by omega,e3 b _ (by omega) (by rw[zk _ _ _ _ (by omega)];exact E) rfl,V++[e],by simp[WD,wv.V],by simpa using T⟩
 rintro X U Y Z w c q hb E V rfl M;rw[<-List.map_map]at M;have Q:=Ea w;have hVl:V.length=(kB l).length:=Q.length_eq;obtain⟨x,S,T,e3⟩:=uT (l:=V.map wv.sk) (Z:=Z) (by simp;omega) M;rw[H5 (mE l [] (by simp)) Q]at T;have hrs:rJ Bt false [.nil] x Z=some (.q8 [],x,Z):=rfl;refine Wp.of r (by kernel_rfl) ?_;simp[q,S,hrs,f20];exact D6 T (wD.nil x Z 9 1) (by decide)
noncomputable def mH {b:Type} (out:List wv->b):zb->Option b:=zS (α:=List wv×za) (fun a=>[.sl 8 (a.1.map wv.V),str a.2]) (fun a=>Es a.1 a.2/\qK a.2=true/\a.2.length<=zw) fun a=>out a.1
theorem iC(out:List wv->O)(l:List wv)(a:za)(h:Es l a)(b:qK a=true)(c:a.length<=zw)(Y:Hp)(Z:Nat):zg false [] (mH out) [.sl 8 (l.map wv.V),str a] Y Z=some (out l,Y,Z):=
 Zc (l,a) _ _ (by simp) (fun x y e=>by obtain⟨d,f⟩:=x;obtain⟨g,i⟩:=y;simp only[zc,zs,O.sl.injEq,true_and]at e;rw[V0 e.1,qv e.2]) ⟨h,b,c⟩ (.inr rfl)
noncomputable def NK (l:List wv):O:=.q8 [.sl 8 ((V2 l).map vN.V),.sl 1 (zZ [])]
theorem gg:zf prog 20 (zg false [] (mH NK)):=
 mx (C:=Cxp) (pf:=fun _=>true) (fn:=f20) (code:=_) ⟨func20,by kernel_rfl,rfl,by kernel_rfl⟩ false [] _ fun args r h=>by obtain⟨⟨l,a⟩,rfl,⟨b,_⟩,rfl⟩:=qd h;exact⟨by simp[f20],uY l a b rfl⟩
noncomputable abbrev Ccxe:Ctx:=zG prog [(38,zg false [] (Uh fun _=>int 0)),(30,zg false [] (FS qK))]
theorem NL:Gd Ccxe:=zM mixed ⟨eX,jK,trivial⟩
theorem KW:zf prog 19 (zg false [] (mH fun _=>int 0)):=
 kL NL func19 false [] fun⟨l,c⟩ ⟨d,a,e⟩=>by
  have f:=fun Y Z=>rG (fun _=>int 0) l d.log rfl Y Z
  have b:=fun Y Z=>ke qK c Y Z e
  simp only at a;simp only[a]at b;exact⟨by simp[f19],_,zl rfl (by simp[f,b,f19]),qa _⟩
noncomputable abbrev Cexd:Ctx:=zG prog [(19,zg false [] (mH fun _=>int 0)),(20,zg false [] (mH NK))]
theorem NM:Gd Cexd:=zM mixed ⟨KW,gg,trivial⟩
noncomputable def mI (l:List wv):O:=.q8 [.sl 8 ((V2 l).map vN.V),.sl 1 (zZ []),int 0]
theorem gh:zf prog 9 (zg true [8] (mH mI)):=
 kL NM func9 true [8] fun⟨l,a⟩ ⟨b,c,d⟩=>by
  have f:=fun Y Z=>iC (fun _=>int 0) l a b c d Y Z
  have e:=fun Y Z=>iC NK l a b c d Y Z
  simp only[NK]at e;exact⟨by simp[Tryz.f9],_,zl rfl (by simp[f,e,mI,qU,Tryz.f9]),qa _⟩
theorem aO{l:List qN}{b:Bk}{x:qf}{n:Int}(h:(Qx l b x n).2=0):(Qx l b x n).1=Xa l b x n b.zq/\wK b=0/\xH n=true/\kM x.key=true:=by
 unfold Qx at h⊢;split at h
 case isFalse c=>exact absurd h c
 rename_i d;split at h
 case isFalse c=>simp at h
 rename_i e;split at h
 case isFalse c=>exact absurd h c
 rename_i a;rw[ze d,ze e,ze a];refine⟨rfl,(bZ d).2.1,e,?_⟩;unfold qf.fault at a;split at a
 ·assumption
 ·cases a
theorem H6{l:List za}(h:oQ l):l.Nodup:=List.nodup_iff_pairwise_ne.2 (h.imp fun{a b} c e=>by subst e;rw[oR]at c;cases c)
theorem iD:∀{l:List Rg} {n lo b:Int} {p:Option Int},ig n lo b p l->∀r∈l,0<=r.2.2/\r.2.2<n
 |r::l,n,lo,b,p,h,q,a=>by
  obtain⟨_,_,_,c,d,_,e⟩:=h;rcases zC.1 a with rfl|a
  ·exact⟨c,d⟩
  ·exact iD e q a
theorem H7{l:List Rg}{n:Int}(h:yw l 20=0):vG (rf l n) 0 19=true:=by
 unfold rf;split
 ·rename_i r a;obtain⟨b,c⟩:=iD (Q7 h).1 r (zD a);exact(mn _ _ _).2 ⟨b,by omega⟩
 ·decide
theorem Sf{α:Type}{l:List α}{a b:α}(h:l.length<=1)(d:a∈l)(e:b∈l):a=b:=by
 match l,h,d,e with
 |[c],_,d,e=>rw[we.1 d,we.1 e]
def KX(s:za)(l:List Pl):List Pl:=l.filter fun p=>p.ex==s
theorem H8(l:List qN)(x:qf)(n:Int)(y:yq)(s:za):∀es:List Xp,(KX s (Bc l x n y es)).length<=(es.filter fun e=>e.name==s&&e.yp==y.name).length
 |[]=>zi _
 |e::t=>by
  have c:=H8 l x n y s t;unfold KX at c⊢;simp only[Bc,J0,yy];by_cases a:uK l x n y e=true
  ·have d:=(rv a).1;rw[ze a];by_cases hs:e.name=s
   ·simp[Ns,hs,d];omega
   ·have b:=jr hs;simp[Ns,b];simpa using c
  ·rw[zj a,Yv];split<;>simp<;>omega
theorem fa{α b:Type}[BEq b][LawfulBEq b](f:α->b)(s:b):∀{l:List α},(l.map f).Nodup->(l.filter fun a=>f a==s).length<=1
 |[],_=>by simp
 |a::l,h=>by
  rw[z6,gj]at h;have e:=fa f s h.2;rw[Yv];split
  ·rename_i d;have d:f a=s:=by simpa using d
   have:l.filter (fun a=>f a==s)=[]:=by rw[List.filter_eq_nil_iff];intro c g i;exact h.1 (by rw[d,<-show f c=s by simpa using i];exact YM g)
   rw[this];simp
  ·exact e
theorem H9{l:List qN}{b:Bk}{x:qf}{n:Int}{s:za}(o:(b.qA.map Xp.name).Nodup):∀{ys:List yq},(ys.map yq.name).Nodup->(KX s (Xa l b x n ys)).length<=1/\((∀e∈b.qA,e.name=s->e.yp ∉ ys.map yq.name)->(KX s (Xa l b x n ys)).length=0)
 |[],_=>⟨by simp[Xa,KX],fun _=>by simp[Xa,KX]⟩
 |y::t,c=>by
  rw[z6,gj]at c;obtain⟨J,p⟩:=H9 (l:=l) (x:=x) (n:=n) (s:=s) o c.2;have z:=H8 l x n y s b.qA;have A:b.qA.filter (fun e=>e.name==s&&e.yp==y.name)=(b.qA.filter fun e=>e.name==s).filter fun e=>e.yp==y.name:=by rw[List.filter_filter];congr 1;funext e;exact Bool.and_comm ..
  have q:=fa Xp.name s o;have r:(KX s (if(Zr y.name x.key b.holds).2=true then[]else Bc l x n y b.qA)).length<=(b.qA.filter fun e=>e.name==s&&e.yp==y.name).length:=by
   split
   ·simp[KX]
   ·exact z
  have B:(KX s (Xa l b x n (y::t))).length=(KX s (if(Zr y.name x.key b.holds).2=true then[]else Bc l x n y b.qA)).length+(KX s (Xa l b x n t)).length:=by simp only[Xa,KX,J0,yy]
  constructor
  ·by_cases d:(b.qA.filter fun e=>e.name==s&&e.yp==y.name).length=0
   ·omega
   ·have f:b.qA.filter (fun e=>e.name==s&&e.yp==y.name)≠[]:=fun h=>d (by rw[h];rfl)
    obtain⟨e,a⟩:=List.exists_mem_of_ne_nil _ f;have u:=kX.1 a;simp only[zx,jh]at u;obtain⟨C,D,E⟩:=u;have F:(b.qA.filter fun e=>e.name==s&&e.yp==y.name).length<=1:=by rw[A];exact zA (Sy _ _) q
    have g:=p fun v i j=>by
     have k:v=e:=by
      have G:v∈b.qA.filter fun e=>e.name==s:=kX.2 ⟨i,by simpa using j⟩
      have H:e∈b.qA.filter fun e=>e.name==s:=kX.2 ⟨C,by simpa using D⟩
      exact Sf q G H
     rw[k,E];exact c.1
    omega
  ·intro w;have d:b.qA.filter (fun e=>e.name==s&&e.yp==y.name)=[]:=by rw[List.filter_eq_nil_iff];intro e a m;simp only[zx,jh]at m;exact w e a m.1 (by rw[m.2];simp)
   rw[d]at r;have:=p fun e a hs I=>w e a hs (by rw[z6];exact WH _ I)
   simp only[O1]at r;omega
theorem fb{l:List qN}{b:Bk}{x:qf}{n:Int}(s:za)(h:(Qx l b x n).2=0):(KX s (Qx l b x n).1).length<=1/\∀p∈KX s (Qx l b x n).1,vG p.arm 0 19=true:=by obtain⟨d,a,_,_⟩:=aO h;rw[d];have c:=HO a;refine⟨(H9 (H6 c.2) (H6 c.1)).1,fun p Y=>?_⟩;obtain⟨y,_,_,e,f,_,rfl⟩:=b8.1 (kX.1 Y).1;exact H7 ((Bf a) e f).1
theorem Eb{l:List qN}{b:Bk}{x:qf}{s:za}{f t:Int}(i:(bB b s f t).1=true)(j:(Qx l b x f).2=0)(e:(Qx l b x t).2=0){p:Pl}(Y:p∈KX s (Qx l b x f).1):KX s (Qx l b x t).1=[p]:=by
 obtain⟨k,g⟩:=kX.1 Y;have m:=D5 i j e p k (by simpa using g);have c:p∈KX s (Qx l b x t).1:=kX.2 ⟨m,g⟩;have h:=(fb s e).1
 match d:KX s (Qx l b x t).1 with
 |[]=>rw[d]at c;cases c
 |[a]=>rw[d]at c;rw[we.1 c]
 |_::_::_=>rw[d]at h;simp at h
theorem rN{b:Bk}{s:za}{f t:Int}(a:(bB b s f t).1=true):f<=t/\wK b=0/\∃e∈b.qA,e.name=s:=by
 unfold bB at a;split at a
 case isFalse=>simp at a
 rename_i c;unfold WC at c;split at c
 case isFalse k=>exact absurd c k
 rename_i d;split at c
 case isFalse=>simp at c
 rename_i g;split at a
 case isFalse=>simp at a
 split at a
 ·simp at a
 rename_i h;refine⟨by omega,d,?_⟩;have:=zD (tO g);obtain⟨e,i,hs⟩:=zN.1 this;exact⟨e,i,hs⟩
@[simp]theorem zbe(s:qf):s.V.length=2:=rfl
@[simp]theorem Uj(s:qf):s.V.take 2=s.V:=rfl
noncomputable def rO (Ta:kW):AM.Spec:=qq (zG prog Ta) f15
noncomputable def rP (Ta:kW):AM.Spec:=qq (zG prog [(15,rO Ta)]) Tryz.f6
theorem uZ{Ta:kW}(h:YK True prog [] Ta):zf prog 15 (rO Ta):=w8 (qc (q:=[]) mixed h) func15
theorem u0{Ta:kW}(h:YK True prog [] Ta):zf prog 6 (rP Ta):=w8 (qc (q:=[]) (l:=[(15,rO Ta)]) mixed ⟨uZ h,by simp,trivial⟩) func6
theorem Ia{U:Type}{T:Nat->Prop}{Rep:U->Hp->Prop}{step:U->qf->Bool×U}{Ta:kW}{g:Nat}{sp:AM.Spec}{fi cap:zb}{Z0:Nat}(y:lookup Ta g=some sp)(xs:List qf)(C:xs.length<=zw)
  (D:∀s x Y Z,x∈xs->Z0<=Z->Rep s Y->∃r b Z',sp (fi++.agg x.V::cap) Y Z=some (r,b,Z')/\wO T Rep (qO (step s x).1) (step s x).2 Y Z r b Z')
  (f:U) (h:Hp) (a:Nat) (N:Z0<=a) (E:Rep f h) :
  ∃r b Z',rP Ta [.sl 2 (xs.map qf.V),.fn (.func g) fi cap] h a=some (r,b,Z')/\wO T Rep (qO (qw step f xs).1) (qw step f xs).2 h a r b Z':=by
 have p:∃r b Z',rO Ta [.sl 2 (xs.map qf.V),.fn (.func g) fi cap] h a=some (r,b,Z')/\∃z:Int,r=int z/\decide (0<=z)=(qw step f xs).1/\wO T Rep (int z) (qw step f xs).2 h a r b Z':=by
  unfold rO qq;rw[ze (by simp[f15])];refine zY rfl ?_;unfold zw at C;simp;refine zP (fun k U Y Z=>U 0=.sl 2 (xs.map qf.V)/\U 1=.fn (.func g) fi cap/\U 7=int xs.length/\U 8=int k/\a<=Z/\(∀j,j<a->¬T j->Y j=h j)/\∃s,Rep s Y/\qw step f xs=qw step s (xs.drop k)) xs.length ⟨by simp,by simp,by simp,by simp,zi _,fun _ _ _=>rfl,f,E,by simp⟩ ?_;rintro k U Y Z P ⟨q,t,u,v,w,l,s,m,e⟩;by_cases c:k<xs.length
  ·have F:=qz k;obtain⟨x,o⟩:=kC (xs[k]);obtain⟨r,Y2,G,i,rfl,A,Q,H⟩:=D s x Y Z (by rw[<-o];exact zm c) (by omega) m;rw[zd c,o]at e;have n:∀j,j<a->¬T j->Y2 j=h j:=fun j I B=>by rw[H j (by omega) B];exact l j I B
   cases d:(step s x).1
   ·rw[vg d]at e;rw[d]at i;simp[q,t,u,v,c,o,y,i,F];exact⟨by omega,by omega,n,_,A,e⟩
   ·rw[v8 d]at e;rw[d]at i;simp[q,t,u,v,c,o,y,i,e,wO,f15];exact⟨A,by omega,n⟩
  ·obtain rfl:k=xs.length:=by omega
   rw[zp]at e;simp only[qw]at e;simp[q,t,u,v,e,wO,f15];exact⟨m,w,l⟩
 obtain⟨r,b,Z',i,z,rfl,J,_,K,L,M⟩:=p;unfold rP qq;rw[ze (by simp[Tryz.f6])];refine zY rfl ?_;simp[i,J,wO,Tryz.f6];exact⟨K,L,M⟩
theorem rQ:zt Caw Tryz.f4 []=some (qO true):=by
 have a:∀Y Z,zu prog Y Z 60 1 [(0,.agg [int 3,int 5])]=some (.own Z 0 1,ql Y Z (some ⟨59,2,true,[[int 3,int 5]]⟩),Z+1):=fun Y Z=>by simp[zu,zX,zv]
 have b:=fun Y Z=>HQ (e:=59) (id:=Z) (Y:=ql Y Z (some ⟨59,2,true,[[int 3,int 5]]⟩)) (Z+1) (by simp)
 refine zl rfl ?_;simp[qg,qF,a,b,Tryz.f4]
theorem mJ:zf prog 4 (zg false [] R5):=
 yt (fn:=Tryz.f4) (zM mixed ⟨uk,trivial⟩:AM.Good Caw _) (qW func4) false [] _ fun args r h=>by
  cases args with
  |nil=>injection h with h;subst h;exact⟨zA (zi 0) (ka _),_,rQ,qa _⟩
  |cons x l=>cases h
noncomputable abbrev Ib:AM.Spec:=qq C0 Tryz.f7
theorem Ec:zf prog 7 Ib:=w8 y7 func7
def vj(x:qf):jV:=⟨37,2,false,[x.V]⟩
theorem NN(x y:qf)(Y:Hp)(Z id:Nat)(hid:id<Z)(a:Y id=some (vj x)):Ib [.agg y.V,.ref id 0 0] Y Z=some (qO (y.key==x.key),ql Y Z (some (vj y)),Z+1):=by
 unfold Ib qq;rw[ze (by simp[Tryz.f7])];refine wx rfl ?_;have b:¬id=Z:=by omega
 simp only[vj,qf.V]at a;simp[qf.V,a,b,vj,Tryz.f7]
noncomputable abbrev Sg:kW:=[(7,Ib)]
theorem Si(xs:List qf)(x:qf)(i:xs.length<=zw)(Y:Hp)(Z id:Nat)(hid:id<Z)(k:Y id=some (vj x)) :
  ∃c Z',rP Sg [.sl 2 (xs.map qf.V),.fn (.func 7) [] [.ref id 0 0]] Y Z=some (qO (xs.any fun y=>y.key==x.key),c,Z')/\Z<=Z'/\∀j,j<Z->c j=Y j:=by
 obtain⟨r,c,Z',d,rfl,_,m,n⟩:=Ia (U:=Unit) (T:=fun _=>False) (Rep:=fun _ Y=>Y id=some (vj x)) (step:=fun _ y=>(y.key==x.key,())) (Ta:=Sg) (g:=7) (sp:=Ib) (fi:=[]) (cap:=[.ref id 0 0]) (Z0:=Z) (by simp[lookup]) xs i (fun s y Y b _ q e=>by refine⟨_,_,_,NN x y Y b id (by omega) e,rfl,?_,by omega,fun j f _=>zk _ _ _ _ (by omega)⟩;show ql Y b (some (vj y)) id=some (vj x);rw[zk _ _ _ _ (by omega)];exact e) () Y Z (zi _) k
 have o:∀xs:List qf,(qw (fun(_:Unit) (y:qf)=>(y.key==x.key,())) () xs).1=xs.any fun y=>y.key==x.key:=fun xs=>by
  induction xs with
  |nil=>rfl
  |cons a l p=>
   simp only[qw,xF];split
   ·rename_i h;rw[h];rfl
   ·rename_i h;rw[p];simp[h]
 rw[o]at d;exact⟨c,Z',d,m,fun j f=>n j f (fun h=>h)⟩
def QP(F:List wv):List zb:=F.map fun e=>[str e.key,int e.arm]
def xJ(F:List wv):jV:=⟨34,0,false,QP F⟩
theorem mK(s:za):∀(F:List wv) (i:Nat),((∀e∈F,e.key≠s)->jt (.string ⟨s.toArray⟩) (QP F) i=some none)/\((∃e∈F,e.key=s)->∃j,∃e,F[j]?=some e/\e.key=s/\jt (.string ⟨s.toArray⟩) (QP F) i=some (some (i+j,int e.arm)))
 |[],i=>⟨fun _=>rfl,fun⟨e,h,_⟩=>by cases h⟩
 |x::F,i=>by
  obtain⟨d,f⟩:=mK s F (i+1);by_cases a:s=x.key
  ·refine⟨fun h=>absurd a.symm (h x (zdj ..)),fun _=>⟨0,x,rfl,a.symm,?_⟩⟩;subst a;simp[QP,jt,jz]
  ·have g:jz (.string ⟨s.toArray⟩) (.string ⟨x.key.toArray⟩)=some false:=by simp only[jz];congr 1;rw[yC];intro e;exact a (by simpa[Z4]using e)
   have b:jt (.string ⟨s.toArray⟩) (QP (x::F)) i=jt (.string ⟨s.toArray⟩) (QP F) (i+1):=by simp only[QP,z6,jt,g]
   refine⟨fun h=>by rw[b];exact d fun e k=>h e (WH _ k),fun⟨e,h,c⟩=>?_⟩;rcases zC.1 h with rfl|h
   ·exact absurd c.symm a
   ·obtain⟨j,l,m,n,o⟩:=f ⟨e,h,c⟩;exact⟨j+1,l,by simpa using m,n,by rw[b,o];congr 3;omega⟩
theorem Sj{Y:Hp}{id:Nat}{F:List wv}(e:wv)(h:Y id=some (xJ F))(b:e∈F)(c:∀f∈F,f.key=e.key->f.arm=e.arm):jA prog Y 34 (.mp id) (str e.key) true=some (.q8 [int e.arm,qO true]):=by obtain⟨j,d,g,i,a⟩:=(mK e.key F 0).2 ⟨e,b,rfl⟩;rw[c d (zD g) i]at a;simp[jA,J3,h,xJ,xG,a]
theorem zbf{Y:Hp}{id:Nat}{F:List wv}(e:wv)(h:Y id=some (xJ F))(n:∀f∈F,f.key=e.key->f.arm=e.arm):kd prog Y 34 (.mp id) (str e.key) (int e.arm)=some (ql Y id (some (xJ (Qm F e)))):=by
 obtain⟨o,p⟩:=mK e.key F 0;by_cases c:∃f∈F,f.key=e.key
 ·obtain⟨j,k,d,l,m⟩:=p c;have a:Qm F e=F:=by unfold Qm;exact ze (Jy.2 c)
  have q:=n k (zD d) l;have b:(QP F).set j [str e.key,int e.arm]=QP F:=by
   refine Bw fun i=>?_
   rw[List.getElem?_set];split
   ·rename_i g;subst g;have r:j<F.length:=(zh.1 d).1;have s:F[j]=k:=(zh.1 d).2;simp[QP,r,s,l,q]
   ·rfl
  rw[a];simp only[mO]at m;simp[kd,h,xJ,xG,m];rw[b]
 ·have t:∀f∈F,f.key≠e.key:=fun f a u=>c ⟨f,a,u⟩
  have a:Qm F e=F++[e]:=by unfold Qm;exact zj fun v=>c (Jy.1 v)
  rw[a];simp[kd,h,xJ,xG,o t];simp[QP]
theorem zbg:prog.underlying 34=some (.map 9 3):=by kernel_rfl
theorem u4{Y:Hp}{Z:Nat}{v:O}{K:List wv}(i:wD Y Z 47 8 v (K.map wv.V))(s:wv)(m:K.length<1000000000):∃Y2,kA prog (ql Y Z (some ⟨47,8,true,[s.V]⟩)) (Z+1) 33 33 v (.own Z 0 1)=some (.own (Z+1) 0 (K.length+1),Y2,Z+2)/\wD Y2 (Z+2) 47 8 (.own (Z+1) 0 (K.length+1)) ((K++[s]).map wv.V)/\∀j b,j<Z->Y j=some b->b.e≠47->Y2 j=some b:=by
 have d:=i.jb (P:=prog) (t:=33) (c:=s.V) el33 sz47 by47 ze47 rfl (by omega) (by simp[maxLen];omega) (by simp;omega);have f:=wD.after (Y:=Y) (Z:=Z) (e:=47) (s:=8) (v:=v) (xs:=K.map wv.V) (c:=s.V) (tmp:=some ⟨47,8,true,[s.V]⟩);have g:K.map wv.V++[s.V]=(K++[s]).map wv.V:=by simp
 rw[qQ]at d;refine⟨_,d,?_,fun j b n a k=>?_⟩
 ·rw[<-g];simpa using f
 ·rw[zk _ _ _ _ (by omega)];rcases i with⟨rfl,_⟩|⟨id,hid,rfl,l⟩
  ·simp only[Z9];rw[zk _ _ _ _ (by omega)];exact a
  ·have h:j≠id:=by rintro rfl;rw[l]at a;injection a with a;exact k (by rw[<-a])
   simp only[Z9];rw[zk _ _ _ _ h,zk _ _ _ _ (by omega)];exact a
theorem Ic{Y:Hp}{Z:Nat}{v:O}{L:List wv}{s:za}(b:wD Y Z 47 8 v (L.map wv.V))(h:Es L s)(c:qK s=true)(d:s.length<=zw):zg true [8] (mH mI) [v,str s] Y Z=some (mI L,Z9 v Y,Z):=by
 have hs:mH mI [.sl 8 (L.map wv.V),str s]=some (mI L):=qx (V:=fun a:List wv×za=>[.sl 8 (a.1.map wv.V),str a.2]) (a:=(L,s)) (fun x y e=>by obtain⟨k,l⟩:=x;obtain⟨m,n⟩:=y;simp only[zc,zs,O.sl.injEq,true_and]at e;rw[V0 e.1,qv e.2]) ⟨h,c,d⟩
 rcases b with⟨rfl,f⟩|⟨id,hid,rfl,g⟩
 ·have hd:L=[]:=by simpa using f
  subst hd;exact wR (Y1:=Y) rfl hs (.inr rfl)
 ·have i:zy Y [.own id 0 (L.map wv.V).length,str s]=some ([.sl 8 (L.map wv.V),str s],ql Y id none):=by
   simp[g]
   try rw[q6 (by simp)]
  unfold zg;rw[i];have j:yr [8] [O.sl 8 (L.map wv.V),str s]=[O.sl 8 (L.map wv.V),str s]:=rfl;simp only[j,hs];simp[mI,O.flat,O.noOwn,Z9]
def rR(k:Nat)(n:Int)(x:za)(s:za)(p:Pl):wv:=⟨[115],k+1,1,n,x,s,p.arm,0⟩
theorem NO(s:za):Es [] s:=⟨⟨by simp,fun k h=>by simp at h⟩,by simp,.nil⟩
theorem NP{L:List wv}{s:za}{n:Int}{x:za}{p:Pl}(h:Es L s)(r:L.length<200)(i:xH n=true)(j:kM x=true)(hs:qK s=true)(d:vG p.arm 0 19=true)(l:x.length<=zw)(m:s.length<=zw)
  (o:∀e∈L,e.key=x->e.arm=p.arm/\e.t<=n):Es (L++[rR L.length n x s p]) s:=by
 refine⟨⟨by simp;omega,fun k f=>?_⟩,fun e he=>?_,?_⟩
 ·by_cases c:k<L.length
  ·rw[Ek c];exact h.log.ok k c
  ·obtain rfl:k=L.length:=by simp at f;omega
   rw[List.getElem_append_right (zi _)];simp only[Nat.sub_self,List.getElem_cons_zero];exact⟨rfl,rfl,rfl,i,j,hs,d,rfl,l,m⟩
 ·rcases qh.1 he with he|he
  ·exact h.nm e he
  ·rw[we.1 he];rfl
 ·rw[List.pairwise_append];refine⟨h.one,List.pairwise_singleton _ _,fun a d b q g=>?_⟩;obtain rfl:=we.1 q;exact o a d g
theorem Ie(L:List wv)(e:wv):kB (L++[e])=Qm (kB L) e:=by simp[kB,Bx]
structure sn (b:Bk) (m:Nat) (F:List wv) (Y:Hp) (Z:Nat):Prop where
 bk:Y 0=some ⟨27,3,false,[b.V]⟩
 vy:Y m=some (xJ F)
 m0:m≠0
 ml:m<Z
theorem sn.more{b:Bk}{m:Nat}{F:List wv}{Y:Hp}{Z:Nat}(h:sn b m F Y Z)(x:Option jV):sn b m F (ql Y Z x) (Z+1):=
 ⟨by rw[zk _ _ _ _ (by have:=h.ml;omega)];exact h.bk,by rw[zk _ _ _ _ (by have:=h.ml;omega)];exact h.vy,h.m0,by have:=h.ml;omega⟩
theorem sn.keep{b:Bk}{m:Nat}{F:List wv}{Y a:Hp}{Z Z':Nat}(h:sn b m F Y Z)(d:Z<=Z')(c:∀j,j<Z->a j=Y j):sn b m F a Z':=
 ⟨by rw[c 0 (by have:=h.ml;omega)];exact h.bk,by rw[c m h.ml];exact h.vy,h.m0,by have:=h.ml;omega⟩
theorem sn.push{b:Bk}{m:Nat}{F:List wv}{Y a:Hp}{Z Z':Nat}(h:sn b m F Y Z)(d:Z<=Z')(c:∀j b,j<Z->Y j=some b->b.e≠47->a j=some b):sn b m F a Z':=
 ⟨c 0 _ (by have:=h.ml;omega) h.bk (by simp),c m _ h.ml h.vy (by simp[xJ]),h.m0,by have:=h.ml;omega⟩
theorem sn.put{b:Bk}{m:Nat}{F:List wv}{Y:Hp}{Z:Nat}(h:sn b m F Y Z)(a:List wv):sn b m a (ql Y m (some (xJ a))) Z:=
 ⟨by rw[zk _ _ _ _ (Ne.symm h.m0)];exact h.bk,by simp,h.m0,h.ml⟩
structure Ut (L:List wv) (s:List UInt8) (xs:List qf) (k:Nat):Prop where
 Uu:Es L s
 len:L.length<=2*min k 100
 key:∀e∈L,∃y∈xs.take k,y.key=e.key
theorem Ut.next{L:List wv}{s:za}{xs:List qf}{k:Nat}(h:Ut L s xs k):Ut L s xs (k+1):=
 ⟨h.Uu,by have:=h.len;omega,fun e a=>by obtain⟨y,b,c⟩:=h.key e a;exact⟨y,List.take_subset_take_left _ (by omega) b,c⟩⟩
theorem Ed{Y a:Hp}{Z Z' e s:Nat}{v:O}{xs:List zb}(h:wD Y Z e s v xs)(f:Z<=Z')(b:∀j,j<Z->a j=Y j):wD a Z' e s v xs:=by
 rcases h with⟨rfl,c⟩|⟨id,hid,rfl,d⟩
 ·exact .inl ⟨rfl,c⟩
 ·exact .inr ⟨id,by omega,rfl,by rw[b id hid];exact d⟩
structure IY (l:List qN) (b:Bk) (x:qf) (s:List UInt8) (f:Int) (xs:List qf) (k:Nat) (L:List wv) (j:Nat):Prop where
 Uu:Es L s
 len:L.length<=2*k+j
 key:∀e∈L,(∃y∈xs.take k,y.key=e.key)\/(0<j/\e.key=x.key/\(j=1->(Qx l b x f).2=0/\e.t=f/\∃p∈KX s (Qx l b x f).1,e.arm=p.arm))
theorem IY.zero{l:List qN}{b:Bk}{x:qf}{s:za}{f:Int}{xs:List qf}{k:Nat}{L:List wv}(h:Ut L s xs k):IY l b x s f xs k L 0:=
 ⟨h.Uu,by have:=h.len;omega,fun e a=>.inl (h.key e a)⟩
theorem IY.two{l:List qN}{b:Bk}{x:qf}{s:za}{f:Int}{xs:List qf}{k:Nat}{L:List wv}(h:IY l b x s f xs k L 2)(c:k<xs.length)(d:xs[k]=x)(j:k<100):Ut L s xs (k+1):=
 ⟨h.Uu,by have:=h.len;omega,fun e g=>by
  rcases h.key e g with⟨y,i,a⟩|⟨_,a,_⟩
  ·exact⟨y,List.take_subset_take_left _ (by omega) i,a⟩
  ·refine⟨x,?_,a.symm⟩;rw[qo c,d];simp⟩
def LE(s:za)(L:List wv)(n:Int)(x:za)(W:List Pl):List wv:=L++(KX s W).map (rR L.length n x s)
theorem IY.more{l:List qN}{b:Bk}{x:qf}{s:za}{f n:Int}{xs:List qf}{k j:Nat}{L:List wv}(h:IY l b x s f xs k L j)(a:(Qx l b x n).2=0)(c:j=0->n=f)(d:Es (LE s L n x.key (Qx l b x n).1) s):IY l b x s f xs k (LE s L n x.key (Qx l b x n).1) (j+1):=by
 have o:=(fb s a).1;refine⟨d,by have:=h.len;simp[LE];omega,fun e he=>?_⟩;rcases qh.1 he with he|he
 ·rcases h.key e he with g|⟨q,i,r⟩
  ·exact .inl g
  ·exact .inr ⟨by omega,i,fun m=>by omega⟩
 ·obtain⟨p,Y,rfl⟩:=zN.1 he;refine .inr ⟨by omega,rfl,fun m=>?_⟩;obtain rfl:=c (by omega);exact⟨a,rfl,p,Y,rfl⟩
theorem IY.same{l:List qN}{b:Bk}{x:qf}{s:za}{f t n:Int}{xs:List qf}{k j:Nat}{L:List wv}(h:IY l b x s f xs k L j)(hs:(bB b s f t).1=true)(c:f<=t)(a:∀y∈xs.take k,y.key≠x.key)(d:(Qx l b x n).2=0)(A:j<2)(g:j=1->n=t):∀p∈KX s (Qx l b x n).1,∀e∈L,e.key=x.key->e.arm=p.arm/\e.t<=n:=by
 intro p Y e i m;rcases h.key e i with⟨y,o,r⟩|⟨B,C,u⟩
 ·exact absurd (r.trans m) (a y o)
 ·obtain⟨v,D,q,w,z⟩:=u (by omega);obtain rfl:=g (by omega);rw[Eb hs v d w]at Y;rw[we.1 Y];exact⟨z,by omega⟩
theorem Ig(s:za)(W:List Pl)(i:Nat)(h:i<W.length):KX s (W.take (i+1))=KX s (W.take i)++(if W[i].ex=s then[W[i]]else[]):=by unfold KX;rw[qo h,J0];by_cases c:W[i].ex=s<;>simp[c]
theorem Sk(s:za)(W:List Pl)(i:Nat):(KX s (W.take i)).length<=(KX s W).length:=((List.take_sublist i W).filter _).length_le
noncomputable abbrev FWhT:zb->Option O:=FWh (fun l b x n=>aL (Qx l b x n)) fun a=>bm a.1<=zw/\a.2.1.cb<=zw/\a.2.2.1.cb+2<=zw
noncomputable abbrev Et:Ctx:=zG prog [(4,zg false [] R5),(5,zg false [] (R3 Lb)),(8,zg false [] FWhT),(6,rP Sg),(9,zg true [8] (mH mI))]
theorem NQ:Gd Et:=zM mixed ⟨mJ,ry,rq,u0 ⟨Ec,by simp,trivial⟩,gh,trivial⟩
set_option maxHeartbeats 8000000 in
theorem zbh(l:List qN)(b:Bk)(xs:List qf)(s:za)(f t:Int)(hl:bm l<=zw)(hb:b.cb<=zw)(hx:∀x∈xs,x.cb+2<=zw)(EA:xs.length<=zw)(O4:s.length<=zw){code:Code}(hcd:Tryz.f3.body=some code) :
  Wp True Et Tryz.f3.ntmps code ⟨jX [.sl 10 (l.map qN.V),.agg b.V,.sl 2 (xs.map qf.V),str s,int f,int t],fun _=>none,0⟩ (YX Et.P Tryz.f3 (J9 (qO true))):=by
 have hg:=NQ;have IV:zw=2097152:=rfl;injection hcd with hcd
 subst hcd;have haw:∀Y Z,zg false [] R5 [] Y Z=some (qO true,Y,Z):=fun Y Z=>wR (Y1:=Y) rfl rfl (.inr rfl)
 have rZ:=fun Y Z=>D1 Lb b s f t Y Z hb
 refine Wp.cut hg (fun U Y Z=>U 0=.sl 10 (l.map qN.V)/\U 2=.sl 2 (xs.map qf.V)/\U 3=str s/\U 4=int f/\U 5=int t/\U 7=.ref 0 0 0/\Y 0=some ⟨27,3,false,[b.V]⟩/\Z=1) (by kernel_rfl) (by simp[Bk.V]) ?_;rintro U Y Z ⟨r,q,o,v,w,z,g,rfl⟩;refine Wp.cut hg (fun U Y Z=>U 0=.sl 10 (l.map qN.V)/\U 2=.sl 2 (xs.map qf.V)/\U 3=str s/\U 4=int f/\U 5=int t/\U 7=.ref 0 0 0/\Y 0=some ⟨27,3,false,[b.V]⟩/\Z=1) (by kernel_rfl) (by simp[haw,r,q,o,v,w,z,g]) ?_;clear r q o v w z g U Y;rintro U Y Z ⟨r,q,o,v,w,z,g,rfl⟩;refine Wp.cut hg (fun U Y Z=>U 0=.sl 10 (l.map qN.V)/\U 2=.sl 2 (xs.map qf.V)/\U 3=str s/\U 4=int f/\U 5=int t/\U 7=.ref 0 0 0/\U 13=qO (bB b s f t).1/\U 14=int (bB b s f t).2/\Y 0=some ⟨27,3,false,[b.V]⟩/\Z=1) (by kernel_rfl) (by simp only[Bk.V]at rZ g;simp[r,q,o,v,w,z,g,rZ,Lb,Bk.V]) ?_;clear r q o v w z g U Y;rintro U Y Z ⟨r,q,o,v,w,z,Pb,S,g,rfl⟩;by_cases c0:(bB b s f t).1=true
 case neg=>
  have c0':(bB b s f t).1=false:=by simpa using c0
  refine Wp.cut hg (fun _ _ _=>False) (by kernel_rfl) ?_ fun _ _ _ h=>h.elim
  by_cases c1:(bB b s f t).2=0
  ·simp[Pb,S,c0',c1,Tryz.f3]
  ·have SX:=xE c1;simp[Pb,S,c0',SX,Tryz.f3]
 have c1:(bB b s f t).2=0:=by
  by_cases c:(bB b s f t).2=0
  ·exact c
  ·have:=HR c;rw[c0]at this;cases this
 refine Wp.cut hg (fun U Y Z=>U 0=.sl 10 (l.map qN.V)/\U 2=.sl 2 (xs.map qf.V)/\U 3=str s/\U 4=int f/\U 5=int t/\U 7=.ref 0 0 0/\Y 0=some ⟨27,3,false,[b.V]⟩/\Z=1) (by kernel_rfl) (by simp[r,q,o,v,w,z,Pb,S,g,c0,c1]) ?_;clear r q o v w z Pb S g U Y;rintro U Y Z ⟨r,q,o,v,w,z,g,rfl⟩;refine Wp.cut hg (fun U Y Z=>U 0=.sl 10 (l.map qN.V)/\U 2=.sl 2 (xs.map qf.V)/\U 3=str s/\U 4=int f/\U 5=int t/\U 7=.ref 0 0 0/\U 15=.nil/\Y 0=some ⟨27,3,false,[b.V]⟩/\Z=1) (by kernel_rfl) (by simp[r,q,o,v,w,z,g]) ?_;clear r q o v w z g U Y;rintro U Y Z ⟨r,q,o,v,w,z,Uv,g,rfl⟩;refine Wp.cut hg (fun U Y Z=>U 0=.sl 10 (l.map qN.V)/\U 2=.sl 2 (xs.map qf.V)/\U 3=str s/\U 4=int f/\U 5=int t/\U 7=.ref 0 0 0/\U 15=.nil/\∃m,U 16=.mp m/\sn b m [] Y Z) (by kernel_rfl) (by simp[r,q,o,v,w,z,Uv];exact⟨by rw[zk _ _ _ _ (by omega)];exact g,by simp[xJ,QP],by omega,by omega⟩) ?_;clear r q o v w z Uv g U Y;rintro U Y Z ⟨r,q,o,v,w,z,Uv,m,d,E⟩;obtain⟨hft,hk,e0,he0,hes⟩:=rN c0;have hsn:qK s=true:=by rw[<-hes];exact DZ hk e0 he0
 refine Wp.cut hg (fun U Y Z=>U 3=str s/\U 16=.mp m/\∃L,wD Y Z 47 8 (U 15) (L.map wv.V)/\sn b m (kB L) Y Z/\Es L s) (by kernel_rfl) ?_ ?_
 ·simp[q];refine zP (fun k U Y Z=>U 0=.sl 10 (l.map qN.V)/\U 2=.sl 2 (xs.map qf.V)/\U 3=str s/\U 4=int f/\U 5=int t/\U 7=.ref 0 0 0/\U 16=.mp m/\U 50=.sl 2 (xs.map qf.V)/\U 51=int xs.length/\U 52=int k/\∃L,wD Y Z 47 8 (U 15) (L.map wv.V)/\sn b m (kB L) Y Z/\Ut L s xs k) xs.length
   ⟨by simp[r],by simp[q],by simp[o],by simp[v],by simp[w],by simp[z],by simp[d],by simp,by simp,by simp,[],by simp[Uv];exact .inl ⟨rfl,rfl⟩,E,NO s,by simp,by simp⟩ ?_
  clear r q o v w z Uv d E U Y Z;rintro k U Y Z hk ⟨r,q,o,v,w,z,d,A,B,C,L,R,E,hI⟩;by_cases M:k<xs.length
  ·obtain⟨x,SJ⟩:=kC (xs[k]);have Pc:=hx xs[k] (zm M);rw[SJ]at Pc;have hw:=qz k;have hH1:=E.more (some (vj x));have Ur:=R.more (some (vj x));have hbx:ql Y Z (some (vj x)) Z=some (vj x):=by simp
   by_cases c100:k<100
   case neg=>
    have G:(100:Int)<=k:=by omega
    simp[r,q,o,v,w,z,d,A,B,C,M,SJ,qf.V,G,hw];exact⟨by omega,L,Ur,hH1,hI.next⟩
   have G:¬(100:Int)<=k:=by omega
   obtain⟨Y2,D,e1,n2,f2⟩:=Si (xs.take k) x (by rw[bD];omega) (ql Y Z (some (vj x))) (Z+1) Z (by omega) hbx;have hH2:=hH1.keep n2 f2;have hO2:=Ed Ur n2 f2;rw[List.map_take]at e1;simp only[vj,qf.V]at e1;have hs2:∀Y,yX prog Y 28 (.sl 2 (xs.map qf.V)) none (some (some (int k)))=some (.sl 2 ((xs.map qf.V).take k)):=fun Y=>by simp[yX,js];omega
   cases SZ:(xs.take k).any (fun y=>y.key==x.key)
   case true=>rw[SZ]at e1;simp[r,q,o,v,w,z,d,A,B,C,M,SJ,qf.V,G,hs2,e1,hw];exact⟨by omega,L,hO2,hH2,hI.next⟩
   have BE:∀y∈xs.take k,y.key≠x.key:=fun y hy he=>by have:=List.any_eq_false.1 SZ y hy;exact this (by simpa using he)
   rw[SZ]at e1;simp[r,q,o,v,w,z,d,A,B,C,M,SJ,qf.V,G,hs2,e1,zu,zX,zv];obtain⟨TS,hTS⟩:∃TS:List zb,TS=[[int f],[int t]]:=⟨_,rfl⟩;have F:Y2 Z=some (vj x):=by rw[f2 Z (by omega)];exact hbx
   refine zP (fun j U Y Z'=>U 0=.sl 10 (l.map qN.V)/\U 2=.sl 2 (xs.map qf.V)/\U 3=str s/\U 4=int f/\U 5=int t/\U 7=.ref 0 0 0/\U 16=.mp m/\U 50=.sl 2 (xs.map qf.V)/\U 51=int xs.length/\U 52=int k/\U 18=.ref Z 0 0/\U 68=.own D 0 2/\U 69=int 2/\U 70=int j/\Y Z=some (vj x)/\Y D=some ⟨3,1,true,TS⟩/\D<Z'/\∃L,wD Y Z' 47 8 (U 15) (L.map wv.V)/\sn b m (kB L) Y Z'/\IY l b x s f xs k L j) 2
    ⟨by simp[r],by simp[q],by simp[o],by simp[v],by simp[w],by simp[z],by simp[d],by simp[A],by simp[B],by simp[C],by simp,by simp,by simp,by simp,(zk Y2 D Z _ (by omega)).trans F,by simp[hTS],Nat.lt_succ_self _,L,by simpa using hO2.more _,hH2.more _,IY.zero hI⟩ ?_
   clear r q o v w z d A B C R E Ur hH1 hO2 hH2 e1 f2 F hbx hI L U Y2;rintro j U Y1 Um hj ⟨r,q,o,v,w,z,d,A,B,C,N,H,I,J,F,T,Le,L,R,E,hI⟩;by_cases hj2:j<2
   case neg=>
    obtain rfl:j=2:=by omega
    simp[r,q,o,v,w,z,d,A,B,C,H,I,J,hw];exact⟨by omega,L,R,E,hI.two M SJ c100⟩
   have hwj:=qz j;have SD:(j:Int)<2:=by omega
   obtain⟨n,hnj,hn0,hn1'⟩:∃n,TS[j]?=some [int n]/\(j=0->n=f)/\(j=1->n=t):=by
    subst hTS
    match j,hj2 with
    | 0,_=>exact⟨f,rfl,fun _=>rfl,fun h=>absurd h (by omega)⟩
    | 1,_=>exact⟨t,rfl,fun h=>absurd h (by omega),fun _=>rfl⟩
   have Q:=fun Y Z=>rm (fun l b x n=>aL (Qx l b x n)) (fun a=>bm a.1<=zw/\a.2.1.cb<=zw/\a.2.2.1.cb+2<=zw) l b x n Y Z ⟨hl,hb,Pc⟩
   simp only[aL]at Q;change ∀Y Z,zg false [] FWhT _ Y Z=_ at Q;have g:=E.bk;have N9:=F;simp only[Bk.V,qf.V,vj]at Q g N9;by_cases cf:(Qx l b x n).2=0
   case neg=>
    have hz:=rz cf;rw[hz]at Q;have cf':=xE cf;simp[r,q,o,v,w,z,N,H,I,J,hj2,SD,T,hnj,g,N9,Q,cf',Tryz.f3]
    done
   obtain⟨hr1,hr2,hr3,hr4⟩:=aO cf;obtain⟨hone,harm⟩:=fb s cf;have X:=hI.same c0 hft BE cf hj2 hn1';have Pe:=fun hu=>hI.more cf hn0 hu
   have O5:=rB (l:=l) (b:=b) (x:=x) (n:=n);obtain⟨W,hW⟩:=kC ((Qx l b x n).1);rw[hW]at hone harm X Pe O5 Q;simp[r,q,o,v,w,z,N,H,I,J,hj2,SD,T,hnj,g,N9,Q,cf];have hLl:=hI.len;have hkl:x.key.length<=zw:=by have:x.cb=x.key.length+V8 x.attrs:=rfl;omega
   refine zP (fun i U Y Z'=>U 0=.sl 10 (l.map qN.V)/\U 2=.sl 2 (xs.map qf.V)/\U 3=str s/\U 4=int f/\U 5=int t/\U 7=.ref 0 0 0/\U 16=.mp m/\U 50=.sl 2 (xs.map qf.V)/\U 51=int xs.length/\U 52=int k/\U 18=.ref Z 0 0/\U 68=.own D 0 2/\U 69=int 2/\U 70=int j/\U 20=int n/\U 87=.sl 4 (W.map vL)/\U 88=int W.length/\U 89=int i/\Y Z=some (vj x)/\Y D=some ⟨3,1,true,TS⟩/\D<Z'/\wD Y Z' 47 8 (U 15) ((LE s L n x.key (W.take i)).map wv.V)/\sn b m (kB (LE s L n x.key (W.take i))) Y Z'/\Es (LE s L n x.key (W.take i)) s) W.length
    ⟨by simp[r],by simp[q],by simp[o],by simp[v],by simp[w],by simp[z],by simp[d],by simp[A],by simp[B],by simp[C],by simp[N],by simp[H],by simp[I],by simp[J],by simp,by simp,by simp,by simp,F,T,Le,by simpa[LE,KX]using R,by simpa[LE,KX]using E,by simpa[LE,KX]using hI.Uu⟩ ?_
   clear r q o v w z d A B C N H I J F N9 T Le R E g Q U Y1;rintro i U Y1 K hi ⟨r,q,o,v,w,z,d,A,B,C,N,H,I,J,h20,h87,h88,h89,F,T,Le,R,E,hU⟩;by_cases Em:i<W.length
   case neg=>
    obtain rfl:i=W.length:=by omega
    rw[ja]at R E hU;simp[r,q,o,v,w,z,d,A,B,C,N,H,I,J,h20,h87,h88,h89,hwj];exact⟨by omega,F,T,Le,_,R,E,Pe hU⟩
   obtain⟨p,Y⟩:=kC (W[i]);have hwi:=qz i;have htk:=Ig s W i Em;have hle:=Sk s W (i+1);rw[Y]at htk;have hHb:=E.more (some (rA p));have hOb:=R.more (some (rA p));have hxb2:ql Y1 K (some (rA p)) Z=some (vj x):=(zk Y1 K Z _ (by omega)).trans F;have htb2:ql Y1 K (some (rA p)) D=some ⟨3,1,true,TS⟩:=(zk Y1 K D _ (by omega)).trans T;by_cases c:p.ex=s
   case neg=>
    rw[zj c,yh]at htk;have c':=jr c;have hLE:LE s L n x.key (W.take (i+1))=LE s L n x.key (W.take i):=by unfold LE;rw[htk]
    simp[r,q,o,v,w,z,d,A,B,C,N,H,I,J,h20,h87,h88,h89,Em,Y,vL,c',hwi];rw[hLE];exact⟨by omega,hxb2,htb2,by omega,hOb,hHb,hU⟩
   rw[ze c]at htk;have hz:KX s (W.take i)=[]:=by rw[htk,yy,List.length_singleton]at hle;exact qC.1 (by omega)
   have hpm:p∈KX s W:=kX.2 ⟨by rw[<-Y];exact zm Em,by simpa using c⟩;have hL0:LE s L n x.key (W.take i)=L:=by unfold LE;rw[hz];simp
   have hL1:LE s L n x.key (W.take (i+1))=L++[rR L.length n x.key s p]:=by unfold LE;rw[htk,hz];simp
   rw[hL0]at hOb hHb hU;have hu1:=NP hU (by omega) hr3 hr4 hsn (harm p hpm) hkl O4 (X p hpm);have hlen:YJ prog 33 (U 15)=some (int L.length):=by have:=hOb.len (P:=prog) el33;simpa using this
   have hwl':=wo ((L.length:Int)+1);obtain⟨hp4,e1,e2,e3⟩:=u4 hOb (rR L.length n x.key s p) (by omega);have hH4:=hHb.push (Z':=K+1+2) (by omega) e3;have hpt:=zbf (rR L.length n x.key s p) hH4.vy (fun e he hk=>(X p hpm e ((eZ _ _ _ he).resolve_left (by simp)) hk).1);have hH5:=hH4.put (Qm (kB L) (rR L.length n x.key s p));rw[<-Ie]at hpt hH5;have S3:=e3 Z _ (by omega) hxb2 (by simp[vj]);have S5:=e3 D _ (by omega) htb2 (by simp);have hpb:hp4 K=some (rA p):=e3 K _ (by omega) (by simp) (by simp[rA]);simp only[rA,vL,c]at hpb;have S6:=S3;simp only[vj,qf.V]at S3;simp only[rA,vL,rR,wv.V,c]at e1;have hne:¬Z=K:=by omega
   have hxbu:=F;simp only[vj,qf.V]at hxbu;have hpt':=hpt;simp only[rR]at hpt';simp[r,q,o,v,w,z,d,A,B,C,N,H,I,J,h20,h87,h88,h89,Em,Y,vL,c,hwi,hlen,hwl',hne,hxbu,qg,qF,yi,zu,zX,zv,e1,hpb,S3,hpt'];rw[hL1];have hml:=hHb.ml;have m1:¬Z=m:=fun e=>by rw[e,hH4.vy]at S6;simp[xJ,vj]at S6
   have m2:¬D=m:=fun e=>by rw[e,hH4.vy]at S5;simp[xJ]at S5
   refine⟨by omega,(zk hp4 m Z _ m1).trans S6,(zk hp4 m D _ m2).trans S5,by omega,?_,hH5,hu1⟩;rcases e2 with⟨h,_⟩|⟨id,hid,hv,hh⟩
   ·cases h
   ·have hid2:id=K+1+1:=by injection hv with hv;exact hv.symm
    exact .inr ⟨id,hid,hv,(zk hp4 m id _ (by omega)).trans hh⟩
  ·obtain rfl:k=xs.length:=by omega
   simp[o,d,A,B,C];exact⟨L,R,E,hI.Uu⟩
 clear r q o v w z Uv d E U Y Z;rintro U Y Z ⟨o,d,L,R,E,hU⟩;have hex:=Ic R hU hsn O4;refine Wp.cut hg (fun U Y Z=>U 16=.mp m/\U 14=int 0/\U 25=.sl 8 ((V2 L).map vN.V)/\U 26=.sl 1 (zZ [])/\Y m=some (xJ (kB L))/\m<Z) (by kernel_rfl) ?_ ?_
 ·have hkv:Z9 (U 15) Y m=Y m:=yo R Y m fun n hv=>by
   rcases R with⟨h,_⟩|⟨id,_,O2,hh⟩
   ·rw[h]at hv;cases hv
   ·rw[hv]at O2;have hid:m=id:=by injection O2
    rw[<-hid,E.vy]at hh;simp[xJ]at hh
  simp[o,d,hex,mI];rw[hkv];exact⟨E.vy,E.ml⟩
 clear o d R E hex U Y Z;rintro U Y Z ⟨d,S,Li,Uo,hm,SE⟩;have S7:(V2 L).length=(kB L).length:=by have:=(xA ((kB L).map wv.sk)).2.1.length_eq;simpa[V2]using this
 have Em:(QP (kB L)).length=(kB L).length:=by simp[QP]
 refine Wp.seq (Wp.seq (Wp.region ?_));show K1 True Et _ _ (List.range' 0 11++(11::List.range' 12 2)) _ _;refine K1.Kr hg 0 11 (by decide) (by decide) ?_;simp[S,d,Li,Uo,zZ];refine K1.lenM (m:=m) (b:=xJ (kB L)) rfl ?_ (by decide) zbg (by simp) hm rfl ?_
 ·rw[nF];simp[vW]
 have hle2:(xJ (kB L)).es.length=(kB L).length:=Em;rw[hle2];show K1 True Et _ _ (List.range' 12 2++[]) _ _;refine K1.Kr hg 12 2 (by decide) (by decide) ?_;simp[S7];refine K1.nil ?_;simp only[E9,NA];refine Wp.any (fun σ' Y' Z'=>σ' 16=.mp m/\σ' 25=.sl 8 ((V2 L).map vN.V)/\σ' 138=qO false/\Y' m=some (xJ (kB L))/\m<Z') (by simp[d,Li,hm,SE]) ?_;clear d S Li Uo hm SE U Y Z;rintro U Y Z ⟨d,Li,h138,hm,SE⟩;refine Wp.of hg (by kernel_rfl) ?_;simp[h138];refine Wp.of hg (by kernel_rfl) ?_;have IC:∀u∈V2 L,∃e∈kB L,u=e.sk:=fun u hu=>by have:=((xA ((kB L).map wv.sk)).2.1.mem_iff (a:=u)).1 hu;obtain⟨e,he,rfl⟩:=zN.1 this;exact⟨e,he,rfl⟩
 have hLl:=hU.log.len;have hFl:=e8 L [];simp[Li];refine zP (fun k U Y Z=>U 16=.mp m/\U 139=.sl 8 ((V2 L).map vN.V)/\U 140=int (V2 L).length/\U 141=int k/\Y m=some (xJ (kB L))/\m<Z) (V2 L).length ⟨by simp[d],by simp,by simp,by simp,hm,SE⟩ ?_;clear d Li h138 hm SE U Y Z;rintro k U Y Z hk ⟨d,h139,h140,h141,hm,SE⟩;by_cases M:k<(V2 L).length
 ·obtain⟨u,hu⟩:=kC ((V2 L)[k]);obtain⟨e,he,rfl⟩:=IC u (by rw[<-hu];exact zm M);have hw:i6.wrap ((k:Int)+1)=(k:Int)+1:=qE (by simp at hFl;unfold kB at S7;omega) (by simp at hFl;unfold kB at S7;omega);have hne:¬m=Z:=by omega
  have hlk:=Sj (Y:=ql Y Z (some ⟨53,8,false,[e.sk.V]⟩)) (id:=m) e (by rw[zk _ _ _ _ hne];exact hm) he fun f hf hk=>by rw[uW (mE L [] (by simp)) hf he hk]
  simp only[vN.V,wv.sk]at hlk;simp[d,h139,h140,h141,M,hu,vN.V,wv.sk,hlk,hw];exact⟨by omega,by rw[zk _ _ _ _ hne];exact hm,by omega⟩
 ·obtain rfl:k=(V2 L).length:=by omega
  simp[d,h139,h140,h141,Tryz.f3]
theorem Ih:Zy Et (fun _=>true) 3 Tryz.f3:=qW func3
end Go.Q
