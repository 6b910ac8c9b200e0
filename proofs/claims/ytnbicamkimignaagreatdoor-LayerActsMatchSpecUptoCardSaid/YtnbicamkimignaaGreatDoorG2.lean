/- Lemmas. -/
import Derived.Test.YtnbicamkimignaaGreatDoorG1
set_option maxRecDepth 8000
open Go Proofs Proofs.YtnbicamkimignaaGreatDoor Proofs.Tryz RowKit AM SpanLaw Q Zz
namespace Go.AM
variable{dr:Prop}
def kN(Y:Hp)(G:Nat→GI)(b:Nat):Prop:=∃id blk,Y id=some blk∧(G id).g=b
structure kJ (dr:Prop) (P:Program) (Y:Hp) (Z:Nat) (S:Nat→Prop) (G:Nat→GI) (w:World) (Y':Hp) (Z':Nat) (S':Nat→Prop) (G':Nat→GI) (w':World):Prop where
 inv:Inv P w' S' G' Y' Z'
 up:Z≤Z'
 loc:∀id,id<Z→G' id=G id
 ZC:∀b,S b→S' b
 from_:∀b,S' b→S b∨kN Y G b∨w.heap.size≤b
 own:∀id blk,Y' id=some blk→kN Y G (G' id).g∨w.heap.size≤(G' id).g
 fr:Fr dr w (kN Y G) w'
theorem kJ.same{P:Program}{Y Y':Hp}{Z g:Nat}{S c:Nat→Prop}{G i:Nat→GI}{w d:World}(h:kJ dr P Y Z S G w Y' g c i d)(f:Inv P w S G Y Z) :
  ∀b,S b→c b∧d.heap[b]?=w.heap[b]?:=fun b a=>
 ⟨h.ZC b a,h.fr.block b (f.st b a) fun⟨id,blk,hid,e⟩=>f.apart id blk hid (e ▸ a)⟩
theorem kJ.refl{P:Program}{Y:Hp}{Z:Nat}{S:Nat→Prop}{G:Nat→GI}{w:World}(h:Inv P w S G Y Z):kJ dr P Y Z S G w Y Z S G w:=
 ⟨h,ze _,fun _ _=>rfl,fun _ h=>h,fun _ h=>.inl h,fun id blk a=>.inl ⟨id,blk,a,rfl⟩,Fr.refl _ _⟩
theorem kJ.trans{P:Program}{Y Y' a:Hp}{Z m c:Nat}{S n f:Nat→Prop}{G j g:Nat→GI}{w o i:World}
  (h:kJ dr P Y Z S G w Y' m n j o) (k:kJ dr P Y' m n j o a c f g i):kJ dr P Y Z S G w a c f g i:=by
 have l:∀b,kN Y' j b→kN Y G b∨w.heap.size≤b:=by rintro b ⟨id,blk,h1,rfl⟩;exact h.own id blk h1
 refine⟨k.inv,zC h.up k.up,fun id hid=>(k.loc id (zlO hid h.up)).trans (h.loc id hid),fun b d=>k.ZC b (h.ZC b d),fun b d=>?_,fun id blk d=>?_,?_⟩
 ·rcases k.from_ b d with h1|h1|h1
  ·exact h.from_ b h1
  ·rcases l b h1 with e|e
   ·exact .inr (.inl e)
   ·exact .inr (.inr e)
  ·exact .inr (.inr (zC h.fr.size h1))
 ·rcases k.own id blk d with h1|h1
  ·exact l _ h1
  ·exact .inr (zC h.fr.size h1)
 ·refine h.fr.trans k.fr fun b d h1=>?_
  rcases l b h1 with e|e
  ·exact e
  ·omega
theorem Inv.same{P:Program}{w c:World}{S:Nat→Prop}{G:Nat→GI}{Y:Hp}{Z:Nat}(h:Inv P w S G Y Z)(d:c.heap=w.heap):Inv P c S G Y Z:=by
 have e:∀b,S b→S b∧c.heap[b]?=w.heap[b]?:=fun b a=>⟨a,by rw[d]⟩
 exact⟨fun b a=>by rw[d];exact h.st b a,h.top,fun id b a=>(h.live id b a).mono e (ze _) (fun _ _=>rfl) (by rw[d]),h.apart,h.inj,h.eR.mono e⟩
theorem kJ.drew{P:Program}{Y:Hp}{Z:Nat}{S:Nat→Prop}{G:Nat→GI}{w:World}(h:Inv P w S G Y Z):kJ dr P Y Z S G w Y Z S G w.drew:=
 ⟨h.same rfl,ze _,fun _ _=>rfl,fun _ h=>h,fun _ h=>.inl h,fun id blk a=>.inl ⟨id,blk,a,rfl⟩,Fr.drew _ _⟩
theorem kJ.alloc{P:Program}{Y:Hp}{Z:Nat}{S:Nat→Prop}{G:Nat→GI}{w:World}(h:Inv P w S G Y Z)(d:Array Value)(e:TypeId)(q:Bool)(es:List zc)(s:Nat)(B:0<s)
  (C:(P.info? e).map (·.size)=some s) (v:∀c∈es,c.length=s) (x:es.length*s≤d.size)
  (y:∀(i j:Nat) (c:zc) (z:O),es[i]?=some c→c[j]?=some z→∃u,d[i*s+j]?=some u∧kq w S G Z q z u) :
  kJ dr P Y Z S G w (qZ Y Z (some ⟨e,s,q,es⟩)) (Z+1) S (qZ G Z ⟨w.heap.size,d.size,s⟩) (w.alloc (.cells d e)):=by
 have m:∀b,b<w.heap.size→(w.alloc (.cells d e)).heap[b]?=w.heap[b]?:=fun b a=>Below.heap_alloc w _ b a
 have D:∀b,S b→S b∧(w.alloc (.cells d e)).heap[b]?=w.heap[b]?:=fun b a=>⟨a,m b (h.st b a)⟩
 have p:∀id,id<Z→qZ G Z ⟨w.heap.size,d.size,s⟩ id=G id:=fun id hid=>qY _ _ _ _ (by omega)
 have f:∀id,id≠Z→qZ Y Z (some ⟨e,s,q,es⟩) id=Y id:=fun id hid=>qY _ _ _ _ hid
 have n:(w.alloc (.cells d e)).heap.size=w.heap.size+1:=by show(w.heap.push _).size=_;simp
 have r:∀id b,Y id=some b→(G id).g<w.heap.size:=fun id b a=>(h.live id b a).lt
 refine⟨⟨fun b a=>by rw[n];have:=h.st b a;omega,fun id b a=>?_,fun id b a=>?_,fun id b a=>?_,fun id id' b A a l t=>?_,h.eR.mono D⟩,by omega,p,fun _ a=>a,fun _ a=>.inl a,fun id b a=>?_,⟨rfl,rfl,rfl,by rw[n];omega,fun _=>ze _,fun k E _=>m k E⟩⟩
 ·by_cases hid:id=Z
  ·omega
  ·rw[f id hid]at a;have:=h.top id b a;omega
 ·by_cases hid:id=Z
  ·subst hid;simp only[w9]at a⊢;injection a with a
   subst a;refine .xb B rfl ⟨C,v,x,d,heap_alloc_new w _,rfl,fun i j c z F H=>?_⟩;obtain⟨u,I,J⟩:=y i j c z F H;exact⟨u,I,J.mono D (by omega) p⟩
  ·rw[f id hid]at a;have K:=h.top id b a;rw[p id K];exact(h.live id b a).mono D (by omega) p (m _ (r id b a))
 ·by_cases hid:id=Z
  ·subst hid;simp only[w9];intro hs;have:=h.st _ hs;omega
  ·rw[f id hid]at a;rw[p id (h.top id b a)];exact h.apart id b a
 ·by_cases hid:id=Z<;>by_cases o:id'=Z
  ·omega
  ·subst hid;rw[f id' o]at l;rw[p id' (h.top id' A l)]at t;have:=r id' A l;simp at t;omega
  ·subst o;rw[f id hid]at a;rw[p id (h.top id b a)]at t;have:=r id b a;simp at t;omega
  ·rw[f id hid]at a;rw[f id' o]at l;rw[p id (h.top id b a),p id' (h.top id' A l)]at t;exact h.inj id id' b A a l t
 ·by_cases hid:id=Z
  ·subst hid;simp
  ·rw[f id hid]at a;rw[p id (h.top id b a)];exact .inl ⟨id,b,a,rfl⟩
theorem kJ.set{P:Program}{Y:Hp}{Z:Nat}{S:Nat→Prop}{G:Nat→GI}{w:World}(h:Inv P w S G Y Z){id:Nat}{b:jz}(hid:Y id=some b)(n:0<(G id).s)(f:Array Value)(es:List zc)
  (H:f.size=(G id).z) (o:∀c∈es,c.length=(G id).s) (p:es.length*(G id).s≤(G id).z)
  (q:∀(i j:Nat) (c:zc) (t:O),es[i]?=some c→c[j]?=some t→∃u,f[i*(G id).s+j]?=some u∧kq w S G Z b.arr t u) :
  kJ dr P Y Z S G w (qZ Y id (some ⟨b.e,b.s,b.arr,es⟩)) Z S G (w.setRow (G id).g f):=by
 have l:∀k,k≠(G id).g→(w.setRow (G id).g f).heap[k]?=w.heap[k]?:=fun k d=>setRow_other w _ k _ d
 have v:∀b,S b→S b∧(w.setRow (G id).g f).heap[b]?=w.heap[b]?:=fun k d=>⟨d,l k fun e=>h.apart id b hid (e ▸ d)⟩
 have m:∀k,k≠id→qZ Y id (some ⟨b.e,b.s,b.arr,es⟩) k=Y k:=fun k d=>qY _ _ _ _ d
 obtain⟨x,r,I,_⟩:=(h.live id b hid).row n;refine⟨⟨fun k d=>by rw[setRow_size];exact h.st k d,fun k c d=>?_,fun k c d=>?_,fun k c d=>?_,fun k E c y d A J=>?_,h.eR.mono v⟩,ze _,fun _ _=>rfl,fun _ B=>B,fun _ B=>.inl B,fun k c d=>?_,⟨rfl,rfl,rfl,by simp,fun _=>ze _,fun k _ K=>l k fun e=>K ⟨id,b,hid,e.symm⟩⟩⟩
 ·by_cases a:k=id
  ·subst a;exact h.top _ b hid
  ·rw[m k a]at d;exact h.top k c d
 ·by_cases a:k=id
  ·subst a;simp only[w9]at d;injection d with d
   subst d;refine .xb n (h.live _ b hid).bs ⟨(h.live _ b hid).size n,o,p,f,iD w _ x _ _ _ r,H,fun i j c t L M=>?_⟩;obtain⟨u,C,D⟩:=q i j c t L M;exact⟨u,C,D.mono v (ze _) (fun _ _=>rfl)⟩
  ·rw[m k a]at d;exact(h.live k c d).mono v (ze _) (fun _ _=>rfl) (l _ fun e=>a (h.inj k id c b d hid e))
 ·by_cases a:k=id
  ·subst a;exact h.apart _ b hid
  ·rw[m k a]at d;exact h.apart k c d
 ·have F:∀k c,qZ Y id (some ⟨b.e,b.s,b.arr,es⟩) k=some c→∃y,Y k=some y:=by
   intro k c d;by_cases a:k=id
   ·subst a;exact⟨b,hid⟩
   ·rw[m k a]at d;exact⟨c,d⟩
  obtain⟨N,C⟩:=F k c d;obtain⟨Q,D⟩:=F E y A;exact h.inj k E N Q C D J
 ·by_cases a:k=id
  ·subst a;exact .inl ⟨_,b,hid,rfl⟩
  ·rw[m k a]at d;exact .inl ⟨k,c,d,rfl⟩
theorem kJ.kill{P:Program}{Y:Hp}{Z:Nat}{S:Nat→Prop}{G:Nat→GI}{w:World}(h:Inv P w S G Y Z){id:Nat}{b:jz}(hid:Y id=some b) :
  kJ dr P Y Z S G w (qZ Y id none) Z (fun k=>S k∨k=(G id).g) G w:=by
 have i:∀k,S k→(S k∨k=(G id).g)∧w.heap[k]?=w.heap[k]?:=fun k a=>⟨.inl a,rfl⟩
 have d:∀k c,qZ Y id none k=some c→k≠id∧Y k=some c:=by
  intro k c a;by_cases e:k=id
  ·subst e;simp at a
  ·rw[qY _ _ _ _ e]at a;exact⟨e,a⟩
 refine⟨⟨fun k a=>?_,fun k c a=>h.top k c (d k c a).2,fun k c a=>(h.live k c (d k c a).2).mono i (ze _) (fun _ _=>rfl) rfl,fun k c a=>?_,fun k j c l a f he=>h.inj k j c l (d k c a).2 (d j l f).2 he,h.eR.mono i⟩,
  ze _,fun _ _=>rfl,fun _ m=>.inl m,fun k a=>?_,fun k c a=>.inl ⟨k,c,(d k c a).2,rfl⟩,Fr.refl _ _⟩
 ·rcases a with a|rfl
  ·exact h.st k a
  ·exact(h.live id b hid).lt
 ·rintro (hs|he)
  ·exact h.apart k c (d k c a).2 hs
  ·exact(d k c a).1 (h.inj k id c b (d k c a).2 hid he)
 ·rcases a with a|rfl
  ·exact .inl a
  ·exact .inr (.inl ⟨id,b,hid,rfl⟩)
theorem kJ.drop{P:Program}{Y:Hp}{Z:Nat}{S:Nat→Prop}{G:Nat→GI}{w:World}(h:Inv P w S G Y Z)(id:Nat) :
  kJ dr P Y Z S G w (qZ Y id none) Z S G w:=by
 have f:∀k,S k→S k∧w.heap[k]?=w.heap[k]?:=fun k a=>⟨a,rfl⟩
 have b:∀k c,qZ Y id none k=some c→Y k=some c:=by
  intro k c a;by_cases d:k=id
  ·subst d;simp at a
  ·rw[qY _ _ _ _ d]at a;exact a
 exact⟨⟨h.st,fun k c a=>h.top k c (b k c a),fun k c a=>(h.live k c (b k c a)).mono f (ze _) (fun _ _=>rfl) rfl,fun k c a=>h.apart k c (b k c a),fun k g c i a e j=>h.inj k g c i (b k c a) (b g i e) j,h.eR.mono f⟩,
  ze _,fun _ _=>rfl,fun _ l=>l,fun k a=>.inl a,fun k c a=>.inl ⟨k,c,b k c a,rfl⟩,Fr.refl _ _⟩
theorem FH{P:Program}{Y:Hp}{Z:Nat}{S:Nat→Prop}{G:Nat→GI}{w:World}(h:Inv P w S G Y Z){id off n cap:Nat}{b:jz}(hid:Y id=some b)(o:0<(G id).s)(p:b.arr=true)(Q:off+n≤b.es.length)
  (F:n≤cap) (q:cap≤maxLen) (y:Nat→Prop) (H:∀k,S k→y k) (I:y (G id).g) :
  wT w y (.sl b.s ((b.es.drop off).take n)) (.slice (some ⟨(G id).g,off*(G id).s,none⟩) n cap):=by
 have B:=h.live id b hid;obtain⟨r,J,R,K⟩:=B.row o;have L:((b.es.drop off).take n).length=n:=by simp;omega
 have t:∀(i:Nat) (c:zc),((b.es.drop off).take n)[i]?=some c→b.es[off+i]?=some c:=by
  intro i c a;rw[qG]at a;split at a
  ·rwa [wF]at a
  ·cases a
 have m:∀(i j:Nat),∃u,∀(c:zc) (d:O),((b.es.drop off).take n)[i]?=some c→c[j]?=some d→r[(off+i)*(G id).s+j]?=some u∧kq w S G Z b.arr d u:=by
  intro i j;by_cases z:∃c d,((b.es.drop off).take n)[i]?=some c∧c[j]?=some d
  ·obtain⟨c,d,a,l⟩:=z;obtain⟨u,A,v⟩:=K (off+i) j c d (t i c a) l;refine⟨u,fun T M e f=>?_⟩;rw[a]at e;injection e with e;subst e;rw[l]at f;injection f with f;subst f;exact⟨A,v⟩
  ·exact⟨undef,fun c d a l=>(z ⟨c,d,a,l⟩).elim⟩
 rw[B.bs];have C:wT w y (.sl (G id).s ((b.es.drop off).take n)) (.slice (some ⟨(G id).g,off*(G id).s,none⟩) ((b.es.drop off).take n).length cap):=by
  refine .sl (s:=(G id).s) (fun i j=>Classical.choose (m i j)) (by simp) (by omega) q (fun c z=>B.len o c (Tf _ _ (lv _ _ z))) (fun i j c d a l=>?_) (fun i j c d a l=>?_)
  ·obtain⟨A,v⟩:=jN (m i j) c d a l;refine⟨_,rfl,I,?_,v.2.2⟩;have x:(⟨(G id).g,off*(G id).s,none⟩:Addr).add (i*(G id).s+j)=⟨(G id).g,(off+i)*(G id).s+j,none⟩:=by
    unfold Addr.add;split
    ·rename_i U;have D:i*(G id).s=0:=by omega
     have E:j=0:=by omega
     simp[yL,D,E]
    ·simp[yL];omega
   rw[x,cell_of_row w _ _ r _ _ J];exact A
  ·obtain⟨A,v⟩:=jN (m i j) c d a l;exact(v.1 p).mono fun k N=>⟨H k N,rfl⟩
 rwa [L]at C
theorem Marks.step{P:Program}{i:Nat}{Y Y':Hp}{Z o:Nat}{S j:Nat→Prop}{G l:Nat→GI}{w m:World}{ds:List Deferred}(h:Marks i w S Y G ds)(k:kJ dr P Y Z S G w Y' o j l m):Marks i m j Y' l ds:=by
 obtain⟨d,p,e,q,r⟩:=h;refine⟨zC d k.fr.size,p,e,q,fun D hd=>?_⟩;obtain⟨s,n,c,f⟩:=r D hd;have g:D<w.heap.size:=(qu.1 n).1;refine⟨s,(k.fr.block D g fun⟨id,b,a,e⟩=>f id b a e).trans n,fun hs=>?_,fun id b a e=>?_⟩
 ·rcases k.from_ D hs with h|⟨id,b,a,e⟩|h
  ·exact c h
  ·exact f id b a e
  ·omega
 rcases k.own id b a with⟨id',t,c,u⟩|c
 ·exact f id' t c (u.trans e)
 ·omega
theorem WT.step{P:Program}{n:World}{p L:Nat→Prop}{N Z0:Nat}{q:Nat→GI}{r:Nat}{f:St}{S i:Nat→Prop}{G j:Nat→GI}{a:Act}{w l:World}{Y':Hp}{m:Nat}{x:O}{u:Value}{dst:Option Tmp}
  (h:WT dr P n p L N Z0 q r f S G a w) (k:kJ dr P f.Y f.Z S G w Y' m i j l) (s:qK l i j m x u) (hd:∀d,dst=some d→d<N) :
  WT dr P n p L N Z0 q r ⟨put f.σ dst x,Y',m⟩ i j (a.put dst u) l:=by
 have v:=k.same h.inv;have o:∀b,kN f.Y G b→L b∨n.heap.size≤b:=by rintro b ⟨id,blk,h1,rfl⟩;exact h.own id blk h1
 refine⟨k.inv,fun t=>?_,?_,?_,fun b g=>k.ZC b (h.s0 b g),fun b g=>?_,fun id blk g=>?_,?_,zC h.up k.up,fun id hid=>(k.loc id (zlO hid h.up)).trans (h.loc id hid)⟩
 ·have c:qK l i j m (f.σ t) (a.tmps.getD t undef):=(h.JM t).mono v k.up k.loc;cases dst with
  |none=>exact c
  |some d=>
   show qK l i j m (qZ f.σ d x t) ((a.tmps.setIfInBounds d u).getD t undef);by_cases e:t=d
   ·subst e;have:t<a.tmps.size:=by rw[h.size];exact hd t rfl
    simpa[qZ,this]using s
   ·have y:¬d=t:=fun h=>e h.symm
    simp only[qZ,e,wK];have:(a.tmps.setIfInBounds d u).getD t undef=a.tmps.getD t undef:=by simp[gw y]
    rw[this];exact c
 ·cases dst with
  |none=>exact h.size
  |some d=>show(a.tmps.setIfInBounds d u).size=N;simp[h.size]
 ·cases dst<;>exact h.defers.step k
 ·rcases k.from_ b g with h1|h1|h1
  ·exact h.s1 b h1
  ·rcases o b h1 with h2|h2
   ·exact .inr (.inl h2)
   ·exact .inr (.inr h2)
  ·exact .inr (.inr (zC h.fr.size h1))
 ·rcases k.own id blk g with h1|h1
  ·exact o _ h1
  ·exact .inr (zC h.fr.size h1)
 ·refine h.fr.trans k.fr fun b g h1=>?_
  rcases o b h1 with h2|h2
  ·exact h2
  ·omega
variable{dr:Prop}
section
variable{P:Program}{w:World}{S:Nat→Prop}{G:Nat→GI}{Y:Hp}{Z:Nat}
theorem wT.yH{x u:Value}(h:wT w S (.v x) u):u=x∧lit x=true:=by cases h;exact⟨rfl,‹_›⟩
theorem qK.yH{x u:Value}(h:qK w S G Z (.v x) u):u=x∧lit x=true:=by
 cases h with
 |c h=>exact h.yH
theorem qK.xc{u:Value}(h:qK w S G Z .nil u):u=.slice none 0 0:=by
 cases h with
 |c h=>cases h;rfl
theorem qK.pw{u:Value}(h:qK w S G Z .em u):∃a cap,u=.slice (some a) 0 cap∧cap≤maxLen:=by
 cases h with
 |c h=>cases h;exact⟨_,_,rfl,‹_›⟩
theorem qK.af{s:Nat}{es:List zc}{u:Value}(h:qK w S G Z (.sl s es) u):wT w S (.sl s es) u:=by
 cases h with
 |c h=>exact h
theorem qK.VO{cs:zc}{u:Value}(h:qK w S G Z (.ptr cs) u):wT w S (.ptr cs) u:=by
 cases h with
 |c h=>exact h
theorem qK.xd{id off n:Nat}{u:Value}(h:qK w S G Z (.own id off n) u):∃cap,id<Z∧n≤cap∧cap≤maxLen∧(off+cap)*(G id).s=(G id).z∧u=.slice (some ⟨(G id).g,off*(G id).s,none⟩) n cap:=by
 cases h with
 |c h=>cases h
 |own a b d e _=>exact⟨_,a,b,d,e,rfl⟩
theorem qK.Zb{id off n:Nat}{u:Value}(h:qK w S G Z (.own id off n) u):0<(G id).s:=by
 cases h with
 |c h=>cases h
 |own _ _ _ _ a=>exact a
theorem qK.YE{id i j:Nat}{u:Value}(h:qK w S G Z (.ref id i j) u):id<Z∧u=.pointer (some ⟨(G id).g,i*(G id).s+j,none⟩):=by
 cases h with
 |c h=>cases h
 |ref a _=>exact⟨a,rfl⟩
theorem qK.eS{id i j:Nat}{u:Value}(h:qK w S G Z (.ref id i j) u):0<(G id).s:=by
 cases h with
 |c h=>cases h
 |ref _ a=>exact a
theorem qK.Tl{id:Nat}{u:Value}(h:qK w S G Z (.mp id) u):id<Z∧(G id).s=0∧u=.map (some (G id).g):=by
 cases h with
 |c h=>cases h
 |mp a b=>exact⟨a,b,rfl⟩
theorem qK.QS{cs:zc}{u:Value}(h:qK w S G Z (.agg cs) u):∃us:Array Value,u=.agg us∧cs.length=us.size∧∀(j:Nat) (d:O) (x:Value),cs[j]?=some d→us[j]?=some x→qK w S G Z d x:=by
 cases h with
 |c h=>cases h with
  |agg e f=>exact⟨_,rfl,e,fun j d x a b=>.c (f j d x a b)⟩
 |agg e f=>exact⟨_,rfl,e,f⟩
theorem qK.Lo{cs:zc}{u:Value}(h:qK w S G Z (.yb cs) u):∃us:Array Value,u=.tuple us∧cs.length=us.size∧∀(j:Nat) (d:O) (x:Value),cs[j]?=some d→us[j]?=some x→qK w S G Z d x:=by
 cases h with
 |c h=>cases h with
  |yb e f=>exact⟨_,rfl,e,fun j d x a b=>.c (f j d x a b)⟩
 |yb e f=>exact⟨_,rfl,e,f⟩
theorem qK.BR{f:Fn}{xs ys:zc}{u:Value}(h:qK w S G Z (.fn f xs ys) u):∃us ts:Array Value,u=.func f us ts∧xs.length=us.size∧ys.length=ts.size ∧
  (∀(j:Nat) (d:O) (x:Value),xs[j]?=some d→us[j]?=some x→qK w S G Z d x)∧∀(j:Nat) (d:O) (x:Value),ys[j]?=some d→ts[j]?=some x→qK w S G Z d x:=by
 cases h with
 |c h=>cases h with
  |fn e g i k=>exact⟨_,_,rfl,e,g,fun j d x a b=>.c (i j d x a b),fun j d x a b=>.c (k j d x a b)⟩
 |fn e g i k=>exact⟨_,_,rfl,e,g,i,k⟩
theorem xp:qK w S G Z (.yb []) undef:=.c (.yb rfl (by simp))
theorem lZ{x:Value}{a:O}(h:eX x=some a):wT w S a x∧x.oneCell'=true∧a.wY=true:=by
 unfold eX at h;split at h<;>first
  |(injection h with h;subst h;exact⟨.nil,rfl,rfl⟩)
  |(injection h with h;subst h;exact⟨.v rfl,rfl,rfl⟩)
  |cases h
theorem ku:∀{l:List Value} {r:zc},xb l=some r→r.length=l.length∧(∀(j:Nat) (a:O) (u:Value),r[j]?=some a→l[j]?=some u→wT w S a u∧u.oneCell'=true∧a.wY=true)
 |[],r,h=>by simp[xb]at h;subst h;simp
 |x::l,r,h=>by
  simp only[xb]at h;split at h
  ·rename_i p q Y d;injection h with h
   subst h;obtain⟨e,f⟩:=ku d;refine⟨by simp[e],fun j a u b c=>?_⟩;cases j with
   |zero=>simp at b c;subst b;subst c;exact lZ Y
   |succ j=>exact f j a u (by simpa using b) (by simpa using c)
  ·cases h
theorem gy{x:Value}{a:O}(h:lA x=some a):wT w S a x:=by
 unfold lA at h;split at h
 ·rename_i cs;cases b:xb cs.toList with
  |none=>simp[b]at h
  |some r=>simp[b]at h;subst h;obtain⟨c,d⟩:=ku (w:=w) (S:=S) b;exact .agg (by simpa using c) (fun j a u e f=>(d j a u e (by simpa using f)).1)
 ·exact(lZ h).1
theorem lB{b:Nat→O}{a:Act}(hs:∀t,qK w S G Z (b t) (a.tmps.getD t undef)){y:Operand}{d:O}(h:get b y=some d):qK w S G Z d (a.eval y):=by
 cases y with
 |tmp t=>simp[get]at h;subst h;exact hs t
 |const x=>exact .c (gy h)
 |global g=>simp[get]at h
 |func f=>simp[get]at h;subst h;exact .c (.fn rfl rfl (by simp) (by simp))
theorem eZ{y:O}{u:Value}(h:qK w S G Z y u)(a:y.cells.all O.wY=true):y.cells.length=u.cells.size∧∀(j:Nat) (d:O) (c:Value),y.cells[j]?=some d→u.cells[j]?=some c→qK w S G Z d c∧c.oneCell'=true:=by
 by_cases e:∃cs,y=.agg cs
 ·obtain⟨cs,rfl⟩:=e;obtain⟨us,rfl,k,l⟩:=h.QS;refine⟨k,fun j d c b f=>?_⟩;have g:=l j d c b f;refine⟨g,g.VN ?_⟩;simp only[O.cells]at a b;exact qW.1 a d (zO b)
 ·have m:y.cells=[y]:=by cases y<;>first|rfl|exact(e ⟨_,rfl⟩).elim
  rw[m]at a⊢;have n:y.wY=true:=by simpa using a
  have i:=h.VN n;have f:u.cells=#[u]:=by cases u<;>first|rfl|simp[Value.oneCell']at i
  rw[f];refine⟨rfl,fun j d c b a=>?_⟩;cases j with
  |zero=>simp at b a;subst b;subst a;exact⟨h,i⟩
  |succ j=>simp at b
def QT(dr:Prop)(P:Program)(w:World)(Y:Hp)(Z:Nat)(S:Nat→Prop)(G:Nat→GI)(x:O)(Y':Hp)(b:Nat)(r:Result Value):Prop:=
 ∃v a c d,r=.ok v a∧kJ dr P Y Z S G w Y' b c d a∧qK a c d b x v
theorem qR(a:Inv P w S G Y Z){x:O}{v:Value}{r:Result Value}(b:r=.ok v w)(c:qK w S G Z x v):QT dr P w Y Z S G x Y Z r:=⟨v,w,S,G,b,.refl a,c⟩
theorem Yl{t:TypeId}{n:Nat}(h:q8 P t=some n):∃i,P.info? t=some i∧i.size=n:=by
 unfold q8 at h;cases a:P.info? t with
 |none=>simp[a]at h
 |some i=>exact⟨i,rfl,by simpa[a]using h⟩
theorem yT{t:TypeId}{n:Nat}(h:q8 P t=some n)(w:World):(sizeOf t).run P w=.ok n w:=by obtain⟨i,a,rfl⟩:=Yl h;simp[sizeOf,typeInfo,a]
theorem xI{t:TypeId}{b:Bool}(h:yo P t=some b)(w:World):(isAgg t).run P w=.ok b w:=by
 unfold yo at h;cases a:P.underlying t with
 |none=>simp[a]at h
 |some d=>simp[a]at h;subst h;unfold isAgg;rw[Zd,zP a w];cases d<;>rfl
theorem Ym{t:TypeId}{z:zc}(h:jr P t=some z):∃i v,P.info? t=some i∧i.zero=some v∧xb v.cells.toList=some z:=by
 unfold jr at h;cases a:P.info? t with
 |none=>simp[a]at h
 |some i=>
  cases b:i.zero with
  |none=>simp[a,b]at h
  |some v=>exact⟨i,v,rfl,b,by simpa[a,b]using h⟩
theorem Ws{t:TypeId}{i:TypeInfo}{v:Value}(a:P.info? t=some i)(b:i.zero=some v)(w:World):(zeroValue t).run P w=.ok v w:=by simp[zeroValue,typeInfo,a,b]
theorem FJ(a:Inv P w S G Y Z){t:TypeId}{n:Nat}{z:zc}(hs:q8 P t=some n)(o:jr P t=some z)(g:0<n)(e:z.length=n) :
  QT dr P w Y Z S G (.ref Z 0 0) (qZ Y Z (some ⟨t,n,false,[z]⟩)) (Z+1) ((Instr.alloc t true (.tuple #[])).run P w):=by
 obtain⟨i,v,p,q,r⟩:=Ym o;obtain⟨s,u⟩:=ku (w:=w) (S:=S) r;have f:(P.info? t).map (·.size)=some n:=hs;have b:v.cells.size=n:=by rw[←e,s];simp
 have k:=kJ.alloc (dr:=dr) a v.cells t false [z] n g f (by simp[e]) (by simp[b]) (fun i j c x a l=>by
  cases i with
  |succ i=>simp at a
  |zero=>
   simp at a;subst a;have d:j<v.cells.size:=by rw[b,←e];exact(zq.1 l).1
   refine⟨v.cells[j],by simp[d],?_⟩;have m:=u j x v.cells[j] l (by simp[d]);exact⟨fun h=>(by cases h),.c m.1,m.2.1⟩)
 refine⟨.pointer (some ⟨w.heap.size,0,none⟩),_,_,_,?_,k,?_⟩
 ·simp[Instr.alloc,Ws p q,newVar,newRow]
 ·have:=qK.ref (w:=w.alloc (.cells v.cells t)) (S:=S) (G:=qZ G Z ⟨w.heap.size,v.cells.size,n⟩) (Z:=Z+1) (id:=Z) (i:=0) (j:=0) (by omega) (by simpa using g);simpa using this
theorem Ov(a:Inv P w S G Y Z){t:TypeId}{n:Nat}{y:O}{u:Value}(hs:q8 P t=some n)(o:qK w S G Z y u)(e:0<n)(f:y.cells.length=n)(p:y.cells.all O.wY=true) :
  QT dr P w Y Z S G (.ref Z 0 0) (qZ Y Z (some ⟨t,n,false,[y.cells]⟩)) (Z+1) ((Instr.box t u).run P w):=by
 obtain⟨g,q⟩:=eZ o p;have d:u.cells.size=n:=by rw[←g,f]
 have k:=kJ.alloc (dr:=dr) a u.cells t false [y.cells] n e hs (by simp[f]) (by simp[d]) (fun i j c r a l=>by
  cases i with
  |succ i=>simp at a
  |zero=>
   simp at a;subst a;have b:j<u.cells.size:=by rw[←g];exact(zq.1 l).1
   refine⟨u.cells[j],by simp[b],?_⟩;have m:=q j r u.cells[j] l (by simp[b]);exact⟨fun h=>(by cases h),m.1,m.2⟩)
 refine⟨.pointer (some ⟨w.heap.size,0,none⟩),_,_,_,?_,k,?_⟩
 ·simp[Instr.box,newVar,newRow]
 ·have:=qK.ref (w:=w.alloc (.cells u.cells t)) (S:=S) (G:=qZ G Z ⟨w.heap.size,u.cells.size,n⟩) (Z:=Z+1) (id:=Z) (i:=0) (j:=0) (by omega) (by simpa using e);simpa using this
theorem ai{t:TypeId}{cs:zc}{x:O}(h:zV P t cs=some x)(c:Addr)(us:Nat→Value)(e:∀(j:Nat) (d:O),cs[j]?=some d→w.cell? (c.add j)=some (us j)∧qK w S G Z d (us j)) :
  ∃v,(loadVar t c).run P w=.ok v w∧qK w S G Z x v:=by
 unfold zV at h;split at h
 ·rename_i n f hs;split at h
  ·rename_i i;injection h with h
   subst h;have k:(loadCells c n).run P w=.ok ((List.range n).map us).toArray w:=by
    have:=run_loadCells_list (P:=P) w c ((List.range n).map us) (fun j v a=>by
     have b:j<n:=by simpa using(zq.1 a).1
     have Y:=e j (cs[j]'(by omega)) (zu (by omega));rw[Y.1];rw[wy,V9 b]at a;simpa using a)
    simpa using this
   refine⟨.agg ((List.range n).map us).toArray,?_,.agg ?_ ?_⟩
   ·simp[loadVar,xI f,yT hs,k]
   ·simp;omega
   ·intro j d u a g;rw[qG]at a;split at a
    ·rename_i b;have:=(e j d a).2;simp[b]at g;rwa [←g]
    ·cases a
  ·cases h
 ·rename_i n f hs;have:=e 0 x h;refine⟨us 0,?_,this.2⟩;have l:c.add 0=c:=rfl;rw[l]at this;simp[loadVar,xI f,this.1]
 ·cases h
theorem r8(l:Inv P w S G Y Z){t:TypeId}{p x:O}{u:Value}(h:xU P Y t p=some x)(Y':qK w S G Z p u):QT dr P w Y Z S G x Y Z ((Instr.loadAt t u).run P w):=by
 unfold xU at h;split at h
 ·rename_i cs;cases Y'.VO with
  |ptr us m r=>obtain⟨v,n,o⟩:=ai (G:=G) (Z:=Z) (w:=w) (S:=S) h _ us (fun j f y=>⟨(m j f y).2,.c (r j f y)⟩);exact qR l (v:=v) (by simp[Instr.loadAt,Instr.sureAddr,n]) o
 ·rename_i id i j;have q:=Y'.eS;obtain⟨hid,rfl⟩:=Y'.YE;split at h
  ·rename_i b A;split at h
   ·rename_i c B;obtain⟨a,m,r,C⟩:=(l.live id b A).row q;have d:∀k:Nat,w.cell? ((⟨(G id).g,i*(G id).s+j,none⟩:Addr).add k)=a[i*(G id).s+j+k]?:=by intro k;rw[jH,cell_of_row w _ _ a _ _ m]
    obtain⟨v,n,o⟩:=ai (G:=G) (Z:=Z) (w:=w) (S:=S) h ⟨(G id).g,i*(G id).s+j,none⟩ (fun k=>(a[i*(G id).s+j+k]?).getD undef) (fun k f z=>by
     rw[wF]at z;obtain⟨u,D,E⟩:=C i (j+k) c f B z;rw[d];have e:i*(G id).s+j+k=i*(G id).s+(j+k):=by omega
     rw[e,D];exact⟨rfl,E.2.1⟩)
    exact qR l (v:=v) (by simp[Instr.loadAt,Instr.sureAddr,n]) o
   ·cases h
  ·cases h
 ·cases h
end
variable{dr:Prop}
section
variable{P:Program}{w:World}{S:Nat→Prop}{G:Nat→GI}{Y:Hp}{Z:Nat}
def Zip{α a:Type}(R:α→a→Prop)(xs:List α)(us:List a):Prop:=xs.length=us.length∧∀(j:Nat) (x:α) (u:a),xs[j]?=some x→us[j]?=some u→R x u
theorem Zip.nil{α a:Type}{R:α→a→Prop}:Zip R [] ([]:List a):=⟨rfl,by simp⟩
theorem Zip.cons{α a:Type}{R:α→a→Prop}{x:α}{u:a}{xs:List α}{us:List a}(h:R x u)(t:Zip R xs us):Zip R (x::xs) (u::us):=by
 refine⟨by simp[t.1],fun j y v b c=>?_⟩;cases j with
 |zero=>simp at b c;subst b;subst c;exact h
 |succ j=>exact t.2 j y v (by simpa using b) (by simpa using c)
theorem Zip.jl{α b:Type}{R:α→b→Prop}{x:α}{xs:List α}{us:List b}(h:Zip R (x::xs) us):∃u a,us=u::a∧R x u∧Zip R xs a:=by
 cases us with
 |nil=>have:=h.1;simp at this
 |cons u a=>refine⟨u,a,rfl,h.2 0 x u rfl rfl,by have:=h.1;simpa using this,fun j y v c d=>h.2 (j+1) y v (by simpa using c) (by simpa using d)⟩
theorem Zip.Yi{α a:Type}{R:α→a→Prop}{us:List a}(h:Zip R ([]:List α) us):us=[]:=Yg h.1.symm
theorem Zip.imp{α c:Type}{R d:α→c→Prop}{xs:List α}{us:List c}(h:Zip R xs us)(e:∀x u,R x u→d x u):Zip d xs us:=⟨h.1,fun j x u a b=>e x u (h.2 j x u a b)⟩
theorem YO{h:Hp}{i k:Nat}{b:jz}(a:qZ h i none k=some b):h k=some b:=by
 unfold qZ at a;split at a
 ·cases a
 ·exact a
theorem r9{x:O}{u:Value}(h:qK w S G Z x u)(hs:x.Yh=true):wT w S x u:=by
 cases x with
 |v y=>obtain⟨rfl,a⟩:=h.yH;exact .v a
 |nil=>rw[h.xc];exact .nil
 |em=>obtain⟨c,cap,rfl,b⟩:=h.pw;exact .em b
 |sl s es=>exact h.af
 |ptr cs=>exact h.VO
 |_=>simp[O.Yh]at hs
theorem zl9{x:O}{u:Value}(h:qK w S G Z x u)(hs:x.shut=true):wT w S x u:=by
 cases x with
 |agg cs=>obtain⟨us,rfl,d,e⟩:=h.QS;exact .agg d fun j c y a b=>r9 (e j c y a b) (qW.1 hs c (zO a))
 |_=>exact r9 h hs
theorem Zv(m:Inv P w S G Y Z){x y:O}{Y1:Hp}{u:Value}(h:we Y x=some (y,Y1))(d:qK w S G Z x u) :
  ∃g,kJ dr P Y Z S G w Y1 Z g G w∧wT w g y u∧(x.vK=false→g=S):=by
 have c:∀{o:O} {Y':Hp},some (x,Y)=some (o,Y')→wT w S x u→∃g,kJ dr P Y Z S G w Y' Z g G w∧wT w g o u∧(x.vK=false→g=S):=by
  intro o Y' e z;injection e with e
  injection e with A B;subst A;subst B;exact⟨S,.refl m,z,fun _=>rfl⟩
 unfold we at h;split at h
 ·rename_i id off n;split at h
  ·rename_i b s;split at h
   ·rename_i i;injection h with h
    injection h with p q;subst p;subst q;obtain⟨cap,t,r,C,H,rfl⟩:=d.xd;exact⟨_,kJ.kill m s,FH m s d.Zb i.1 i.2 r C _ (fun k D=>.inl D) (.inr rfl),fun h=>by simp[O.vK]at h⟩
   ·cases h
  ·cases h
 ·obtain⟨rfl,E⟩:=d.yH;exact c h (.v E)
 ·have:=d.xc;subst this;exact c h .nil
 ·exact c h d.af
 ·obtain⟨I,cap,rfl,F⟩:=d.pw;exact c h (.em F)
 ·exact c h d.VO
 ·rename_i f xs ys;split at h
  ·rename_i i;obtain⟨us,ts,rfl,p,q,t,r⟩:=d.BR;exact c h (.fn p q (fun j l y a b=>zl9 (t j l y a b) (qW.1 i.1 l (zO a))) (fun j l y a b=>zl9 (r j l y a b) (qW.1 i.2 l (zO a))))
  ·cases h
 ·cases h
theorem Jo{Y Y1:Hp}{x y:O}(h:we Y x=some (y,Y1)):y.wY=true:=by
 unfold we at h;split at h<;>(try (split at h))<;>(try (split at h))<;>first
  |(injection h with h;injection h with a b;subst a;rfl)
  |cases h
theorem Qt:∀{xs ys:zc} {Y Y1:Hp} {S:Nat→Prop} {us:List Value} (_:Inv P w S G Y Z),qU Y xs=some (ys,Y1)→Zip (qK w S G Z) xs us →
  ∃c,kJ dr P Y Z S G w Y1 Z c G w∧Zip (wT w c) ys us∧ys.all O.wY=true∧(xs.any O.vK=false→c=S)
 |[],ys,Y,Y1,S,us,a,h,d=>by
  simp only[qU]at h;injection h with h
  injection h with g i;subst g;subst i;rw[d.Yi];exact⟨S,.refl a,.nil,rfl,fun _=>rfl⟩
 |x::l,ys,Y,Y1,S,us,a,h,d=>by
  simp only[qU]at h;split at h
  ·rename_i y g j;split at h
   ·rename_i r i m;injection h with h
    injection h with n o;subst n;subst o;obtain⟨u,p,rfl,q,e⟩:=d.jl;obtain⟨s,b,t,n1⟩:=Zv (dr:=dr) a j q;have v:=b.same a;obtain⟨z,k,A,B,C⟩:=Qt (S:=s) b.inv m (e.imp fun x u D=>D.mono v (ze _) (fun _ _=>rfl));refine⟨z,b.trans k,.cons (t.mono (k.same b.inv)) A,by simp[B,Jo j],fun f=>?_⟩;simp only[yy,w5]at f;rw[C f.2,n1 f.1]
   ·cases h
  ·cases h
theorem vx(g:Inv P w S G Y Z){x y:O}{Y1:Hp}{u:Value}(h:qf Y x=some (y,Y1))(i:qK w S G Z x u) :
  ∃d,kJ dr P Y Z S G w Y1 Z d G w∧wT w d y u∧y.cells.all O.wY=true∧(x.noOwn=true→d=S):=by
 unfold qf at h;split at h
 ·rename_i cs;split at h
  ·rename_i l Y2 m;injection h with h
   injection h with n o;subst n;subst o;obtain⟨us,rfl,p,q⟩:=i.QS;obtain⟨d,k,z,r,e⟩:=Qt (us:=us.toList) g m ⟨by simpa using p,fun j f x a b=>q j f x a (by simpa using b)⟩;exact⟨d,k,.agg (by have:=z.1;simpa using this) (fun j f x a b=>z.2 j f x a (by simpa using b)),r,fun h=>e (by simpa[O.noOwn]using h)⟩
  ·cases h
 ·obtain⟨d,k,c,e⟩:=Zv g h i;refine⟨d,k,c,?_,fun s=>e ?_⟩
  ·have:=Jo h;cases y<;>simp_all[O.cells,O.wY]
  ·cases x<;>simp_all[O.noOwn,O.vK]
theorem jC:∀{xs ys:zc} {Y Y1:Hp} {S:Nat→Prop} {us:List Value} (_:Inv P w S G Y Z),zA Y xs=some (ys,Y1)→Zip (qK w S G Z) xs us →
  ∃c,kJ dr P Y Z S G w Y1 Z c G w∧Zip (wT w c) ys us∧(xs.all O.noOwn=true→c=S)
 |[],ys,Y,Y1,S,us,a,h,d=>by
  simp only[zA]at h;injection h with h
  injection h with g i;subst g;subst i;rw[d.Yi];exact⟨S,.refl a,.nil,fun _=>rfl⟩
 |x::l,ys,Y,Y1,S,us,a,h,d=>by
  simp only[zA]at h;split at h
  ·rename_i y g k;split at h
   ·rename_i r i m;injection h with h
    injection h with n o;subst n;subst o;obtain⟨u,p,rfl,q,e⟩:=d.jl;obtain⟨s,b,t,_,n1⟩:=vx (dr:=dr) a k q;have v:=b.same a;obtain⟨z,j,A,B⟩:=jC (S:=s) b.inv m (e.imp fun x u C=>C.mono v (ze _) (fun _ _=>rfl));refine⟨z,b.trans j,.cons (t.mono (j.same b.inv)) A,fun f=>?_⟩;simp only[qN,zF]at f;rw[B f.2,n1 f.1]
   ·cases h
  ·cases h
theorem KZ(f:Inv P w S G Y Z){x y:O}{Y1:Hp}{u:Value}(h:freeze Y x=some (y,Y1))(g:qK w S G Z x u) :
  ∃d,kJ dr P Y Z S G w Y1 Z d G w∧wT w d y u:=by
 unfold freeze at h;split at h
 ·rename_i cs;split at h
  ·rename_i l Y2 i;injection h with h
   injection h with m n;subst m;subst n;obtain⟨us,rfl,o,p⟩:=g.Lo;obtain⟨d,k,z,_⟩:=jC (us:=us.toList) f i ⟨by simpa using o,fun j e x a b=>p j e x a (by simpa using b)⟩;exact⟨d,k,.yb (by have:=z.1;simpa using this) (fun j e x a b=>z.2 j e x a (by simpa using b))⟩
  ·cases h
 ·obtain⟨d,k,c,_⟩:=vx f h g;exact⟨d,k,c⟩
theorem WV:∀(l cs:zc) (off:Nat),(jt cs off l).length=cs.length
 |[],cs,off=>rfl
 |x::l,cs,off=>by simp[jt,WV l]
theorem K0:∀(l cs:zc) (off k:Nat),off+l.length≤cs.length→(jt cs off l)[k]?=if off≤k∧k<off+l.length then l[k-off]? else cs[k]?
 |[],cs,off,k,_=>by simp[jt];omega
 |x::l,cs,off,k,h=>by
  simp only[qa]at h;have b:=K0 l (cs.set off x) (off+1) k (by simp;omega);simp only[jt];rw[b];by_cases a:off+1≤k∧k<off+1+l.length
  ·rw[zf a,zf ⟨by omega,by simp;omega⟩];obtain⟨d,rfl⟩:∃d,k=off+1+d:=⟨k-(off+1),by omega⟩;rw[show off+1+d-(off+1)=d from by omega,show off+1+d-off=d+1 from by omega];simp
  ·rw[zj a];by_cases c:k=off
   ·subst c;rw[zf ⟨by omega,by simp⟩,zb7 (by omega)];simp
   ·rw[zj (by simp;omega),KT (by omega)]
theorem vN{α:Type}(l vs:List α)(o k:Nat)(h:o+vs.length≤l.length):(l.take o++vs++l.drop (o+vs.length))[k]?=if o≤k∧k<o+vs.length then vs[k-o]? else l[k]?:=by
 have a:(l.take o).length=o:=by simp;omega
 rw[qj];by_cases b:k<o
 ·rw[zj (by omega),qV (by omega),qG,zf b]
 ·rw[qg (by omega),a];by_cases c:k<o+vs.length
  ·rw[zf ⟨by omega,c⟩,qV (by omega)]
  ·rw[zj (by omega),qg (by omega),wF];congr 1;omega
theorem Wt{α:Type}(l vs:List α)(o:Nat)(h:o+vs.length≤l.length):(l.take o++vs++l.drop (o+vs.length)).length=l.length:=by simp;omega
theorem l0{s i j i':Nat}(c:j<s)(b:i'≠i)(a n:Nat)(d:a+n≤s):¬(i*s+a≤i'*s+j∧i'*s+j<i*s+a+n):=by
 rcases Nat.lt_or_gt_of_ne b with h|h
 ·have:(i'+1)*s≤i*s:=qB s h;rw[yL]at this;omega
 ·have:(i+1)*s≤i'*s:=qB s h;rw[yL]at this;omega
theorem Qu{i j n s:Nat}(a:i<n)(b:j<s):i*s+j<n*s:=by have:(i+1)*s≤n*s:=qB s a;rw[yL]at this;omega
theorem uq(J:Inv P w S G Y Z){id i j:Nat}{b:jz}{c ys:zc}{vs:List Value}(K:Y id=some b)(d:0<(G id).s)(B:b.es[i]?=some c)(R:ys.length=vs.length)(T:j+ys.length≤c.length)
  (L:∀(k:Nat) (p:O) (u:Value),ys[k]?=some p→vs[k]?=some u→kq w S G Z b.arr p u) :
  ∃M,(storeCells ⟨(G id).g,i*(G id).s+j,none⟩ vs).run P w=.ok () M∧kJ dr P Y Z S G w (qZ Y id (some ⟨b.e,b.s,b.arr,b.es.set i (jt c j ys)⟩)) Z S G M:=by
 have l:=J.live id b K;obtain⟨n,U,W,N⟩:=l.row d;have C:c.length=(G id).s:=l.len d c (zO B);have q:i<b.es.length:=(zq.1 B).1;have m:i*(G id).s+j+vs.length≤n.size:=by have:(i+1)*(G id).s≤b.es.length*(G id).s:=qB _ q;have:=l.fit d;rw[yL]at *;omega
 have D:∀v∈vs,v.oneCell'=true:=by
  intro v X;obtain⟨k,r⟩:=pq X;have E:k<ys.length:=by rw[R];exact(zq.1 r).1
  exact(L k ys[k] v (zu E) r).2.2
 have t:=run_storeCells_at P (G id).g (i*(G id).s+j) b.e vs 0 n w U (by simpa using m) D;simp only[BO]at t;have x:i*(G id).s+j+vs.length≤n.toList.length:=by simpa using m
 refine⟨_,t,kJ.set J K d _ _ ?_ ?_ ?_ ?_⟩
 ·rw[yN,Wt _ _ _ x];simpa using W
 ·intro A F;rcases List.mem_or_eq_of_mem_set F with h|h
  ·exact l.len d A h
  ·subst h;rw[WV];exact C
 ·simpa using l.fit d
 ·intro i' j' A p a f;have Q:i'<b.es.length:=by have:=(zq.1 a).1;simpa using this
  rw[List.getElem?_toArray,vN _ _ _ _ x];by_cases o:i'=i
  ·subst o;rw[zb7 q]at a;injection a with a
   subst a;rw[K0 _ _ _ _ T]at f;by_cases y:j≤j'∧j'<j+ys.length
   ·rw[zf y]at f;rw[zf ⟨by omega,by omega⟩];have r:j'-j<vs.length:=by omega
    refine⟨vs[j'-j],?_,L (j'-j) p _ f (zu r)⟩;rw[show i'*(G id).s+j'-(i'*(G id).s+j)=j'-j from by omega];exact zu r
   ·rw[zj y]at f;rw[zj (by omega)];obtain⟨u,H,I⟩:=N i' j' c p B f;exact⟨u,by simpa using H,I⟩
  ·rw[KT (fun e=>o e.symm)]at a;have z:j'<(G id).s:=by rw[←l.len d A (zO a)];exact(zq.1 f).1
   rw[zj (l0 z o j vs.length (by omega))];obtain⟨u,H,I⟩:=N i' j' A p a f;exact⟨u,by simpa using H,I⟩
theorem FK(hi:Inv P w S G Y Z){t:TypeId}{a x:O}{Y':Hp}{u v:Value}(h:Q2 P Y t a x=some Y')(ha:qK w S G Z a u)(hx:qK w S G Z x v) :
  ∃z N Q,(Instr.storeAt t u v).run P w=.ok () z∧kJ dr P Y Z S G w Y' Z N Q z:=by
 unfold Q2 at h;split at h
 ·rename_i id i j;have R:=ha.eS;obtain⟨hid,rfl⟩:=ha.YE;split at h
  ·rename_i T F;have H:∀(y:O) (Y1:Hp) (A:Nat→Prop),kJ dr P Y Z S G w Y1 Z A G w→qK w A G Z y v→(T.arr=true→wT w A y v)→(∀b,Y1 id=some b→b.arr=T.arr) →
     (match Y1 id,q8 P t with
      |some b,some n=>match b.es[i]? with
       |some c=>if y.cells.length=n∧j+n≤c.length∧y.cells.all O.wY=true then some (qZ Y1 id (some ⟨b.e,b.s,b.arr,b.es.set i (jt c j y.cells)⟩))else none
       |none=>none
      |_,_=>none)=some Y'→∃z N Q,(Instr.storeAt t (.pointer (some ⟨(G id).g,i*(G id).s+j,none⟩)) v).run P w=.ok () z∧kJ dr P Y Z S G w Y' Z N Q z:=by
    intro y Y1 A L hy U W h;split at h
    ·rename_i b n f hn;split at h
     ·rename_i c M;split at h
      ·rename_i B;obtain⟨X,e2,e3⟩:=B;injection h with h
       subst h;obtain⟨hl,hr⟩:=eZ hy e3;have hsz:v.cells.size=n:=by rw[←hl,X]
       obtain⟨z,Lp,k2⟩:=uq (P:=P) L.inv (ys:=y.cells) (vs:=v.cells.toList) (j:=j) f R M (by simpa using hl) (by rw[X];exact e2) (fun k pv u E hu=>by
        have m:v.cells[k]?=some u:=by simpa using hu
        have h6:=hr k pv u E m;refine⟨fun I=>?_,h6.1,h6.2⟩;rw[W b f]at I;have C:=U I;by_cases J:∃cs,y=.agg cs
        ·obtain⟨cs,rfl⟩:=J;cases C with
         |agg g1 g2=>exact g2 k pv u E m
        ·have K:y.cells=[y]:=by cases y<;>first|rfl|exact(J ⟨_,rfl⟩).elim
         have ho:=C.VN (by rw[K]at e3;simpa using e3);have hv1:v.cells=#[v]:=by cases v<;>first|rfl|simp[Value.oneCell']at ho
         rw[K]at E;rw[hv1]at m;cases k with
         |zero=>simp at E m;subst E;subst m;exact C
         |succ k=>simp at E)
       refine⟨z,A,G,?_,L.trans k2⟩;simp[Instr.storeAt,Instr.sureAddr,storeVar,yT hn,hsz,Lp]
      ·cases h
     ·cases h
    ·cases h
   by_cases o:T.arr=true
   ·simp only[o,wi]at h;split at h
    ·rename_i y Y1 d;obtain⟨A,L,M,_,_⟩:=vx hi d hx;refine H y Y1 A L (.c M) (fun _=>M) (fun b f=>?_) h;have:∀b,Y1 id=some b→Y id=some b:=fun b f=>by
      have p:∀{x y:O} {h q:Hp} (_:we h x=some (y,q)) (k:Nat) (b:jz),q k=some b→h k=some b:=by
       intro x y h q d k b f;unfold we at d;split at d<;>(try (split at d))<;>(try (split at d))<;>first
        |(injection d with d;injection d with X e2;subst e2
          first
           |exact f
           |exact YO f)
        |cases d
      have D:∀(xs ys:zc) (h q:Hp) (_:qU h xs=some (ys,q)) (k:Nat) (b:jz),q k=some b→h k=some b:=by
       intro xs
       induction xs with
       |nil=>intro ys h q d k b f;simp only[qU]at d;injection d with d;injection d with _ e;subst e;exact f
       |cons x l ih=>
        intro ys h q d k b f;simp only[qU]at d;split at d
        ·rename_i y h1 hc1;split at d
         ·rename_i r h2 hr;injection d with d
          injection d with _ e;subst e;exact p hc1 k b (ih _ _ _ hr k b f)
         ·cases d
        ·cases d
      unfold qf at d;split at d
      ·split at d
       ·rename_i l h2 hcs;injection d with d
        injection d with _ e;subst e;exact D _ _ _ _ hcs id b f
       ·cases d
      ·exact p d id b f
     have:=this b f;rw[F]at this;injection this with this
     rw[this]
    ·cases h
   ·simp only[o]at h;exact H x Y S (.refl hi) hx (fun h=>(o h).elim) (fun b f=>by rw[F]at f;injection f with f;rw[f]) h
  ·cases h
 ·cases h
end
end Go.AM
