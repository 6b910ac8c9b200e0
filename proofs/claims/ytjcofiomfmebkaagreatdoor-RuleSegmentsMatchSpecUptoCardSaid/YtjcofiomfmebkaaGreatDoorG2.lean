/-
The abstract machine, part 4: steps of the heap.
-/
import Derived.Test.YtjcofiomfmebkaaGreatDoorG1
set_option maxRecDepth 8000
namespace Go.AM
open Go.RowKit
variable {dr:Prop}
def yg (hp:Hp) (G:Nat→GI) (b:Nat):Prop:=∃id blk,hp id=some blk∧(G id).g=b
structure Stp (dr:Prop) (P:Program) (hp:Hp) (nx:Nat) (S:Nat→Prop) (G:Nat→GI) (w:World) (hp':Hp) (nx':Nat) (S':Nat→Prop) (G':Nat→GI) (w':World):Prop where
 inv:Inv P w' S' G' hp' nx'
 up:nx≤nx'
 loc:∀id,id<nx→G' id=G id
 keep:∀b,S b→S' b
 from_:∀b,S' b→S b∨yg hp G b∨w.heap.size≤b
 own:∀id blk,hp' id=some blk→yg hp G (G' id).g∨w.heap.size≤(G' id).g
 fr:Fr dr w (yg hp G) w'
theorem Stp.same {P:Program} {hp hp':Hp} {nx nx':Nat} {S S':Nat→Prop} {G G':Nat→GI} {w w':World} (h:Stp dr P hp nx S G w hp' nx' S' G' w') (hi:Inv P w S G hp nx) :
  ∀b,S b→S' b∧w'.heap[b]?=w.heap[b]?:=fun b hb =>
 ⟨h.keep b hb,h.fr.block b (hi.st b hb) fun⟨id,blk,hid,e⟩=>hi.apart id blk hid (e ▸ hb)⟩
theorem Stp.refl {P:Program} {hp:Hp} {nx:Nat} {S:Nat→Prop} {G:Nat→GI} {w:World} (h:Inv P w S G hp nx):Stp dr P hp nx S G w hp nx S G w :=
 ⟨h,Nat.le_refl _,fun _ _=>rfl,fun _ h=>h,fun _ h=>.inl h,fun id blk hb=>.inl ⟨id,blk,hb,rfl⟩,Fr.refl _ _⟩
theorem Stp.trans {P:Program} {hp hp' hp'':Hp} {nx nx' nx'':Nat} {S S' S'':Nat→Prop} {G G' G'':Nat→GI} {w w' w'':World}
  (h:Stp dr P hp nx S G w hp' nx' S' G' w') (k:Stp dr P hp' nx' S' G' w' hp'' nx'' S'' G'' w''):Stp dr P hp nx S G w hp'' nx'' S'' G'' w'':=by
 have hl:∀b,yg hp' G' b→yg hp G b∨w.heap.size≤b:=by
  rintro b ⟨id,blk,h1,rfl⟩
  exact h.own id blk h1
 refine⟨k.inv,Nat.le_trans h.up k.up,fun id hid=>(k.loc id (Nat.lt_of_lt_of_le hid h.up)).trans (h.loc id hid),fun b hb=>k.keep b (h.keep b hb),fun b hb=>?_,fun id blk hb=>?_,?_⟩
 ·rcases k.from_ b hb with h1 | h1 | h1
  ·exact h.from_ b h1
  ·rcases hl b h1 with h2 | h2
   ·exact .inr (.inl h2)
   ·exact .inr (.inr h2)
  ·exact .inr (.inr (Nat.le_trans h.fr.size h1))
 ·rcases k.own id blk hb with h1 | h1
  ·exact hl _ h1
  ·exact .inr (Nat.le_trans h.fr.size h1)
 ·refine h.fr.trans k.fr fun b hb h1=>?_
  rcases hl b h1 with h2 | h2
  ·exact h2
  ·omega
theorem Inv.same {P:Program} {w w':World} {S:Nat→Prop} {G:Nat→GI} {hp:Hp} {nx:Nat} (h:Inv P w S G hp nx) (hh:w'.heap=w.heap):Inv P w' S G hp nx:=by
 have hS:∀b,S b→S b∧w'.heap[b]?=w.heap[b]?:=fun b hb=>⟨hb,by rw[hh]⟩
 exact⟨fun b hb=>by rw[hh];exact h.st b hb,h.top,fun id b hb=>(h.live id b hb).mono hS (Nat.le_refl _) (fun _ _=>rfl) (by rw[hh]),h.apart,h.inj,h.glo.mono hS⟩
theorem Stp.drew {P:Program} {hp:Hp} {nx:Nat} {S:Nat→Prop} {G:Nat→GI} {w:World} (h:Inv P w S G hp nx):Stp dr P hp nx S G w hp nx S G w.drew :=
 ⟨h.same rfl,Nat.le_refl _,fun _ _=>rfl,fun _ h=>h,fun _ h=>.inl h,fun id blk hb=>.inl ⟨id,blk,hb,rfl⟩,Fr.drew _ _⟩
theorem Stp.alloc {P:Program} {hp:Hp} {nx:Nat} {S:Nat→Prop} {G:Nat→GI} {w:World} (h:Inv P w S G hp nx) (cur:Array Value) (e:TypeId) (arr:Bool) (es:List (List PV)) (s:Nat) (hs0:0<s)
  (hsz:(P.info? e).map (·.size)=some s) (hlen:∀c∈es,c.length=s) (hfit:es.length*s≤cur.size)
  (hrow:∀(i j:Nat) (c:List PV) (pv:PV),es[i]?=some c→c[j]?=some pv→∃u,cur[i*s+j]?=some u∧CellRep w S G nx arr pv u) :
  Stp dr P hp nx S G w (upd hp nx (some ⟨e,s,arr,es⟩)) (nx+1) S (upd G nx ⟨w.heap.size,cur.size,s⟩) (w.alloc (.cells cur e)):=by
 have hold:∀b,b<w.heap.size→(w.alloc (.cells cur e)).heap[b]?=w.heap[b]?:=fun b hb=>Below.heap_alloc w _ b hb
 have hS:∀b,S b→S b∧(w.alloc (.cells cur e)).heap[b]?=w.heap[b]?:=fun b hb=>⟨hb,hold b (h.st b hb)⟩
 have hG:∀id,id<nx→upd G nx ⟨w.heap.size,cur.size,s⟩ id=G id:=fun id hid=>zT _ _ _ _ (by omega)
 have hpo:∀id,id≠nx→upd hp nx (some ⟨e,s,arr,es⟩) id=hp id:=fun id hid=>zT _ _ _ _ hid
 have hsize:(w.alloc (.cells cur e)).heap.size=w.heap.size+1:=by show (w.heap.push _).size=_;simp
 have hlv:∀id b,hp id=some b→(G id).g<w.heap.size:=fun id b hb=>(h.live id b hb).lt
 refine⟨⟨fun b hb=>by rw[hsize];have:=h.st b hb;omega,fun id b hb=>?_,fun id b hb=>?_,fun id b hb=>?_,fun id id' b b' hb hb' he=>?_,h.glo.mono hS⟩,by omega,hG,fun _ hb=>hb,fun _ hb=>.inl hb,fun id b hb=>?_,⟨rfl,rfl,rfl,by rw[hsize];omega,fun _=>Nat.le_refl _,fun k hk _=>hold k hk⟩⟩
 ·by_cases hid:id=nx
  ·omega
  ·rw[hpo id hid] at hb;have:=h.top id b hb;omega
 ·by_cases hid:id=nx
  ·subst hid
   simp only[qd] at hb ⊢
   injection hb with hb
   subst hb
   refine .ofCells hs0 rfl ⟨hsz,hlen,hfit,cur,heap_alloc_new w _,rfl,fun i j c pv hi hj=>?_⟩
   obtain⟨u,h1,h2⟩:=hrow i j c pv hi hj
   exact⟨u,h1,h2.mono hS (by omega) hG⟩
  ·rw[hpo id hid] at hb
   have ht:=h.top id b hb
   rw[hG id ht]
   exact (h.live id b hb).mono hS (by omega) hG (hold _ (hlv id b hb))
 ·by_cases hid:id=nx
  ·subst hid
   simp only[qd]
   intro hs
   have:=h.st _ hs
   omega
  ·rw[hpo id hid] at hb
   rw[hG id (h.top id b hb)]
   exact h.apart id b hb
 ·by_cases hid:id=nx<;>by_cases hid':id'=nx
  ·omega
  ·subst hid
   rw[hpo id' hid'] at hb'
   rw[hG id' (h.top id' b' hb')] at he
   have:=hlv id' b' hb'
   simp at he
   omega
  ·subst hid'
   rw[hpo id hid] at hb
   rw[hG id (h.top id b hb)] at he
   have:=hlv id b hb
   simp at he
   omega
  ·rw[hpo id hid] at hb
   rw[hpo id' hid'] at hb'
   rw[hG id (h.top id b hb),hG id' (h.top id' b' hb')] at he
   exact h.inj id id' b b' hb hb' he
 ·by_cases hid:id=nx
  ·subst hid
   simp
  ·rw[hpo id hid] at hb
   rw[hG id (h.top id b hb)]
   exact .inl ⟨id,b,hb,rfl⟩
theorem Stp.set {P:Program} {hp:Hp} {nx:Nat} {S:Nat→Prop} {G:Nat→GI} {w:World} (h:Inv P w S G hp nx) {id:Nat} {b:Blk} (hid:hp id=some b) (hs0:0<(G id).s) (cur':Array Value) (es:List (List PV))
  (hz:cur'.size=(G id).z) (hlen:∀c∈es,c.length=(G id).s) (hfit:es.length*(G id).s≤(G id).z)
  (hrow:∀(i j:Nat) (c:List PV) (pv:PV),es[i]?=some c→c[j]?=some pv→∃u,cur'[i*(G id).s+j]?=some u∧CellRep w S G nx b.arr pv u) :
  Stp dr P hp nx S G w (upd hp id (some ⟨b.e,b.s,b.arr,es⟩)) nx S G (w.setRow (G id).g cur'):=by
 have hother:∀k,k≠(G id).g→(w.setRow (G id).g cur').heap[k]?=w.heap[k]?:=fun k hk=>setRow_other w _ k _ hk
 have hS:∀b,S b→S b∧(w.setRow (G id).g cur').heap[b]?=w.heap[b]?:=fun k hk=>⟨hk,hother k fun e=>h.apart id b hid (e ▸ hk)⟩
 have hpo:∀k,k≠id→upd hp id (some ⟨b.e,b.s,b.arr,es⟩) k=hp k:=fun k hk=>zT _ _ _ _ hk
 obtain⟨cur,hcur,hcz,_⟩:=(h.live id b hid).row hs0
 refine⟨⟨fun k hk=>by rw[setRow_size];exact h.st k hk,fun k c hk=>?_,fun k c hk=>?_,fun k c hk=>?_,fun k k' c c' hk hk' he=>?_,h.glo.mono hS⟩,Nat.le_refl _,fun _ _=>rfl,fun _ hb=>hb,fun _ hb=>.inl hb,fun k c hk=>?_,⟨rfl,rfl,rfl,by simp,fun _=>Nat.le_refl _,fun k _ hn=>hother k fun e=>hn ⟨id,b,hid,e.symm⟩⟩⟩
 ·by_cases hki:k=id
  ·subst hki;exact h.top _ b hid
  ·rw[hpo k hki] at hk;exact h.top k c hk
 ·by_cases hki:k=id
  ·subst hki
   simp only[qd] at hk
   injection hk with hk
   subst hk
   refine .ofCells hs0 (h.live _ b hid).bs ⟨(h.live _ b hid).size hs0,hlen,hfit,cur',setRow_heap w _ cur _ _ _ hcur,hz,fun i j c pv hi hj=>?_⟩
   obtain⟨u,h1,h2⟩:=hrow i j c pv hi hj
   exact⟨u,h1,h2.mono hS (Nat.le_refl _) (fun _ _=>rfl)⟩
  ·rw[hpo k hki] at hk
   exact (h.live k c hk).mono hS (Nat.le_refl _) (fun _ _=>rfl) (hother _ fun e=>hki (h.inj k id c b hk hid e))
 ·by_cases hki:k=id
  ·subst hki;exact h.apart _ b hid
  ·rw[hpo k hki] at hk;exact h.apart k c hk
 ·have hx:∀k c,upd hp id (some ⟨b.e,b.s,b.arr,es⟩) k=some c→∃c',hp k=some c':=by
   intro k c hk
   by_cases hki:k=id
   ·subst hki;exact⟨b,hid⟩
   ·rw[hpo k hki] at hk;exact⟨c,hk⟩
  obtain⟨c1,h1⟩:=hx k c hk
  obtain⟨c2,h2⟩:=hx k' c' hk'
  exact h.inj k k' c1 c2 h1 h2 he
 ·by_cases hki:k=id
  ·subst hki;exact .inl ⟨_,b,hid,rfl⟩
  ·rw[hpo k hki] at hk;exact .inl ⟨k,c,hk,rfl⟩
theorem Stp.kill {P:Program} {hp:Hp} {nx:Nat} {S:Nat→Prop} {G:Nat→GI} {w:World} (h:Inv P w S G hp nx) {id:Nat} {b:Blk} (hid:hp id=some b) :
  Stp dr P hp nx S G w (upd hp id none) nx (fun k=>S k∨k=(G id).g) G w:=by
 have hS:∀k,S k→(S k∨k=(G id).g)∧w.heap[k]?=w.heap[k]?:=fun k hk=>⟨.inl hk,rfl⟩
 have hx:∀k c,upd hp id none k=some c→k≠id∧hp k=some c:=by
  intro k c hk
  by_cases hki:k=id
  ·subst hki;simp at hk
  ·rw[zT _ _ _ _ hki] at hk;exact⟨hki,hk⟩
 refine⟨⟨fun k hk=>?_,fun k c hk=>h.top k c (hx k c hk).2,fun k c hk=>(h.live k c (hx k c hk).2).mono hS (Nat.le_refl _) (fun _ _=>rfl) rfl,fun k c hk=>?_,fun k k' c c' hk hk' he=>h.inj k k' c c' (hx k c hk).2 (hx k' c' hk').2 he,h.glo.mono hS⟩,
  Nat.le_refl _,fun _ _=>rfl,fun _ hb=>.inl hb,fun k hk=>?_,fun k c hk=>.inl ⟨k,c,(hx k c hk).2,rfl⟩,Fr.refl _ _⟩
 ·rcases hk with hk | rfl
  ·exact h.st k hk
  ·exact (h.live id b hid).lt
 ·rintro (hs | he)
  ·exact h.apart k c (hx k c hk).2 hs
  ·exact (hx k c hk).1 (h.inj k id c b (hx k c hk).2 hid he)
 ·rcases hk with hk | rfl
  ·exact .inl hk
  ·exact .inr (.inl ⟨id,b,hid,rfl⟩)
theorem Stp.drop {P:Program} {hp:Hp} {nx:Nat} {S:Nat→Prop} {G:Nat→GI} {w:World} (h:Inv P w S G hp nx) (id:Nat) :
  Stp dr P hp nx S G w (upd hp id none) nx S G w:=by
 have hS:∀k,S k→S k∧w.heap[k]?=w.heap[k]?:=fun k hk=>⟨hk,rfl⟩
 have hx:∀k c,upd hp id none k=some c→hp k=some c:=by
  intro k c hk
  by_cases hki:k=id
  ·subst hki;simp at hk
  ·rw[zT _ _ _ _ hki] at hk;exact hk
 exact⟨⟨h.st,fun k c hk=>h.top k c (hx k c hk),fun k c hk=>(h.live k c (hx k c hk)).mono hS (Nat.le_refl _) (fun _ _=>rfl) rfl,fun k c hk=>h.apart k c (hx k c hk),fun k k' c c' hk hk' he=>h.inj k k' c c' (hx k c hk) (hx k' c' hk') he,h.glo.mono hS⟩,
  Nat.le_refl _,fun _ _=>rfl,fun _ hb=>hb,fun k hk=>.inl hk,fun k c hk=>.inl ⟨k,c,hx k c hk,rfl⟩,Fr.refl _ _⟩
theorem zij {P:Program} {hp:Hp} {nx:Nat} {S:Nat→Prop} {G:Nat→GI} {w:World} (h:Inv P w S G hp nx) {id off n cap:Nat} {b:Blk} (hid:hp id=some b) (hs0:0<(G id).s) (harr:b.arr=true) (hn:off+n≤b.es.length)
  (hcap:n≤cap) (hmax:cap≤maxLen) (S':Nat→Prop) (hS:∀k,S k→S' k) (hg:S' (G id).g) :
  RepC w S' (.sl b.s ((b.es.drop off).take n)) (.slice (some ⟨(G id).g,off*(G id).s,none⟩) n cap):=by
 have hb:=h.live id b hid
 obtain⟨cur,h1,h2,h3⟩:=hb.row hs0
 have hl:((b.es.drop off).take n).length=n:=by simp;omega
 have hget:∀(i:Nat) (c:List PV),((b.es.drop off).take n)[i]?=some c→b.es[off+i]?=some c:=by
  intro i c hi
  rw[List.getElem?_take] at hi
  split at hi
  ·rwa [List.getElem?_drop] at hi
  ·cases hi
 have hex:∀(i j:Nat),∃u,∀(c:List PV) (pv:PV),((b.es.drop off).take n)[i]?=some c→c[j]?=some pv→cur[(off+i)*(G id).s+j]?=some u∧CellRep w S G nx b.arr pv u:=by
  intro i j
  by_cases hc:∃c pv,((b.es.drop off).take n)[i]?=some c∧c[j]?=some pv
  ·obtain⟨c,pv,hi,hj⟩:=hc
   obtain⟨u,h4,h5⟩:=h3 (off+i) j c pv (hget i c hi) hj
   refine⟨u,fun c' pv' hi' hj'=>?_⟩
   rw[hi] at hi'
   injection hi' with hi'
   subst hi'
   rw[hj] at hj'
   injection hj' with hj'
   subst hj'
   exact⟨h4,h5⟩
  ·exact⟨undef,fun c pv hi hj=>(hc ⟨c,pv,hi,hj⟩).elim⟩
 rw[hb.bs]
 have key:RepC w S' (.sl (G id).s ((b.es.drop off).take n)) (.slice (some ⟨(G id).g,off*(G id).s,none⟩) ((b.es.drop off).take n).length cap):=by
  refine .sl (s:=(G id).s) (fun i j=>Classical.choose (hex i j)) (by simp) (by omega) hmax (fun c hc=>hb.len hs0 c (List.drop_subset _ _ (List.take_subset _ _ hc))) (fun i j c pv hi hj=>?_) (fun i j c pv hi hj=>?_)
  ·obtain⟨h4,h5⟩:=Classical.choose_spec (hex i j) c pv hi hj
   refine⟨_,rfl,hg,?_,h5.2.2⟩
   have hadd:(⟨(G id).g,off*(G id).s,none⟩:Addr).add (i*(G id).s+j)=⟨(G id).g,(off+i)*(G id).s+j,none⟩:=by
    unfold Addr.add
    split
    ·rename_i h0
     have h01:i*(G id).s=0:=by omega
     have h02:j=0:=by omega
     simp[Nat.add_mul,h01,h02]
    ·simp[Nat.add_mul];omega
   rw[hadd,cell_of_row w _ _ cur _ _ h1]
   exact h4
  ·obtain⟨h4,h5⟩:=Classical.choose_spec (hex i j) c pv hi hj
   exact (h5.1 harr).mono fun k hk=>⟨hS k hk,rfl⟩
 rwa [hl] at key
theorem Marks.step {P:Program} {n0:Nat} {hp hp':Hp} {nx nx':Nat} {S S':Nat→Prop} {G G':Nat→GI} {w w':World} {ds:List Deferred} (h:Marks n0 w S hp G ds) (k:Stp dr P hp nx S G w hp' nx' S' G' w'):Marks n0 w' S' hp' G' ds:=by
 obtain⟨hn0,Ds,e,hn,hD⟩:=h
 refine⟨Nat.le_trans hn0 k.fr.size,Ds,e,hn,fun D hd=>?_⟩
 obtain⟨h1,h2,h4,h3⟩:=hD D hd
 have hlt:D<w.heap.size:=(Array.getElem?_eq_some_iff.1 h2).1
 refine⟨h1,(k.fr.block D hlt fun⟨id,b,hb,e⟩=>h3 id b hb e).trans h2,fun hs=>?_,fun id b hb e=>?_⟩
 ·rcases k.from_ D hs with h | ⟨id,b,hb,e⟩ | h
  ·exact h4 h
  ·exact h3 id b hb e
  ·omega
 rcases k.own id b hb with⟨id',b',h4,h5⟩ | h4
 ·exact h3 id' b' h4 (h5.trans e)
 ·omega
theorem SimAt.step {P:Program} {w0:World} {S0 L:Nat→Prop} {N nx0:Nat} {G0:Nat→GI} {n0:Nat} {st:St} {S S':Nat→Prop} {G G':Nat→GI} {a:Act} {w w':World} {hp':Hp} {nx':Nat} {x:PV} {u:Value} {dst:Option Tmp}
  (h:SimAt dr P w0 S0 L N nx0 G0 n0 st S G a w) (k:Stp dr P st.hp st.nx S G w hp' nx' S' G' w') (hx:RepO w' S' G' nx' x u) (hd:∀d,dst=some d→d<N) :
  SimAt dr P w0 S0 L N nx0 G0 n0 ⟨put st.σ dst x,hp',nx'⟩ S' G' (a.put dst u) w':=by
 have hS:=k.same h.inv
 have hl:∀b,yg st.hp G b→L b∨w0.heap.size≤b:=by
  rintro b ⟨id,blk,h1,rfl⟩
  exact h.own id blk h1
 refine⟨k.inv,fun t=>?_,?_,?_,fun b hb=>k.keep b (h.s0 b hb),fun b hb=>?_,fun id blk hb=>?_,?_,Nat.le_trans h.up k.up,fun id hid=>(k.loc id (Nat.lt_of_lt_of_le hid h.up)).trans (h.loc id hid)⟩
 ·have hold:RepO w' S' G' nx' (st.σ t) (a.tmps.getD t undef):=(h.slots t).mono hS k.up k.loc
  cases dst with
  | none=>exact hold
  | some d =>
    show RepO w' S' G' nx' (upd st.σ d x t) ((a.tmps.setIfInBounds d u).getD t undef)
    by_cases e:t=d
    ·subst e
     have:t<a.tmps.size:=by rw[h.size];exact hd t rfl
     simpa[upd,this] using hx
    ·have e':¬d=t:=fun h=>e h.symm
     simp only[upd,e,if_false]
     have:(a.tmps.setIfInBounds d u).getD t undef=a.tmps.getD t undef:=by
      simp[Array.getElem?_setIfInBounds_ne e']
     rw[this]
     exact hold
 ·cases dst with
  | none=>exact h.size
  | some d=>show (a.tmps.setIfInBounds d u).size=N;simp[h.size]
 ·cases dst<;>exact h.defers.step k
 ·rcases k.from_ b hb with h1 | h1 | h1
  ·exact h.s1 b h1
  ·rcases hl b h1 with h2 | h2
   ·exact .inr (.inl h2)
   ·exact .inr (.inr h2)
  ·exact .inr (.inr (Nat.le_trans h.fr.size h1))
 ·rcases k.own id blk hb with h1 | h1
  ·exact hl _ h1
  ·exact .inr (Nat.le_trans h.fr.size h1)
 ·refine h.fr.trans k.fr fun b hb h1=>?_
  rcases hl b h1 with h2 | h2
  ·exact h2
  ·omega
variable {dr:Prop}
section
variable {P:Program} {w:World} {S:Nat→Prop} {G:Nat→GI} {hp:Hp} {nx:Nat}
theorem RepC.v_inv {x u:Value} (h:RepC w S (.v x) u):u=x∧lit x=true:=by cases h;exact⟨rfl,‹_›⟩
theorem RepO.v_inv {x u:Value} (h:RepO w S G nx (.v x) u):u=x∧lit x=true:=by
 cases h with
 | c h=>exact h.v_inv
theorem RepO.nil_inv {u:Value} (h:RepO w S G nx .nil u):u=.slice none 0 0:=by
 cases h with
 | c h=>cases h;rfl
theorem RepO.em_inv {u:Value} (h:RepO w S G nx .em u):∃ad cap,u=.slice (some ad) 0 cap∧cap≤maxLen:=by
 cases h with
 | c h=>cases h;exact⟨_,_,rfl,‹_›⟩
theorem RepO.sl_inv {s:Nat} {es:List (List PV)} {u:Value} (h:RepO w S G nx (.sl s es) u):RepC w S (.sl s es) u:=by
 cases h with
 | c h=>exact h
theorem RepO.ptr_inv {cs:List PV} {u:Value} (h:RepO w S G nx (.ptr cs) u):RepC w S (.ptr cs) u:=by
 cases h with
 | c h=>exact h
theorem RepO.own_inv {id off n:Nat} {u:Value} (h:RepO w S G nx (.own id off n) u):∃cap,id<nx∧n≤cap∧cap≤maxLen∧(off+cap)*(G id).s=(G id).z∧u=.slice (some ⟨(G id).g,off*(G id).s,none⟩) n cap:=by
 cases h with
 | c h=>cases h
 | own h1 h2 h3 h4 _=>exact⟨_,h1,h2,h3,h4,rfl⟩
theorem RepO.own_pos {id off n:Nat} {u:Value} (h:RepO w S G nx (.own id off n) u):0<(G id).s:=by
 cases h with
 | c h=>cases h
 | own _ _ _ _ h5=>exact h5
theorem RepO.ref_inv {id i j:Nat} {u:Value} (h:RepO w S G nx (.ref id i j) u):id<nx∧u=.pointer (some ⟨(G id).g,i*(G id).s+j,none⟩):=by
 cases h with
 | c h=>cases h
 | ref h1 _=>exact⟨h1,rfl⟩
theorem RepO.ref_pos {id i j:Nat} {u:Value} (h:RepO w S G nx (.ref id i j) u):0<(G id).s:=by
 cases h with
 | c h=>cases h
 | ref _ h2=>exact h2
theorem RepO.mp_inv {id:Nat} {u:Value} (h:RepO w S G nx (.mp id) u):id<nx∧(G id).s=0∧u=.map (some (G id).g):=by
 cases h with
 | c h=>cases h
 | mp h1 h2=>exact⟨h1,h2,rfl⟩
theorem RepO.agg_inv {cs:List PV} {u:Value} (h:RepO w S G nx (.agg cs) u):∃us:Array Value,u=.agg us∧cs.length=us.size∧∀(j:Nat) (pv:PV) (x:Value),cs[j]?=some pv→us[j]?=some x→RepO w S G nx pv x:=by
 cases h with
 | c h=>cases h with
   | agg h1 h2=>exact⟨_,rfl,h1,fun j pv x a b=>.c (h2 j pv x a b)⟩
 | agg h1 h2=>exact⟨_,rfl,h1,h2⟩
theorem RepO.tup_inv {cs:List PV} {u:Value} (h:RepO w S G nx (.tup cs) u):∃us:Array Value,u=.tuple us∧cs.length=us.size∧∀(j:Nat) (pv:PV) (x:Value),cs[j]?=some pv→us[j]?=some x→RepO w S G nx pv x:=by
 cases h with
 | c h=>cases h with
   | tup h1 h2=>exact⟨_,rfl,h1,fun j pv x a b=>.c (h2 j pv x a b)⟩
 | tup h1 h2=>exact⟨_,rfl,h1,h2⟩
theorem RepO.fn_inv {f:Fn} {xs ys:List PV} {u:Value} (h:RepO w S G nx (.fn f xs ys) u):∃us ts:Array Value,u=.func f us ts∧xs.length=us.size∧ys.length=ts.size ∧
  (∀(j:Nat) (pv:PV) (x:Value),xs[j]?=some pv→us[j]?=some x→RepO w S G nx pv x)∧∀(j:Nat) (pv:PV) (x:Value),ys[j]?=some pv→ts[j]?=some x→RepO w S G nx pv x:=by
 cases h with
 | c h=>cases h with
   | fn h1 h2 h3 h4=>exact⟨_,_,rfl,h1,h2,fun j pv x a b=>.c (h3 j pv x a b),fun j pv x a b=>.c (h4 j pv x a b)⟩
 | fn h1 h2 h3 h4=>exact⟨_,_,rfl,h1,h2,h3,h4⟩
theorem qW:RepO w S G nx (.tup []) undef:=.c (.tup rfl (by simp))
theorem XI {x:Value} {pv:PV} (h:XG x=some pv):RepC w S pv x∧x.oneCell'=true∧pv.isCell=true:=by
 unfold XG at h
 split at h<;>first
  | (injection h with h;subst h;exact⟨.nil,rfl,rfl⟩)
  | (injection h with h;subst h;exact⟨.v rfl,rfl,rfl⟩)
  | cases h
theorem qL:∀{l:List Value} {r:List PV},ofCells l=some r→r.length=l.length∧(∀(j:Nat) (pv:PV) (u:Value),r[j]?=some pv→l[j]?=some u→RepC w S pv u∧u.oneCell'=true∧pv.isCell=true)
 | [],r,h=>by simp[ofCells] at h;subst h;simp
 | x::l,r,h=>by
   simp only[ofCells] at h
   split at h
   ·rename_i p q hp hq
    injection h with h
    subst h
    obtain⟨h1,h2⟩:=qL hq
    refine⟨by simp[h1],fun j pv u hj hu=>?_⟩
    cases j with
    | zero=>simp at hj hu;subst hj;subst hu;exact XI hp
    | succ j=>exact h2 j pv u (by simpa using hj) (by simpa using hu)
   ·cases h
theorem J4 {x:Value} {pv:PV} (h:zaB x=some pv):RepC w S pv x:=by
 unfold zaB at h
 split at h
 ·rename_i cs
  cases hc:ofCells cs.toList with
  | none=>simp[hc] at h
  | some r =>
    simp[hc] at h
    subst h
    obtain⟨h1,h2⟩:=qL (w:=w) (S:=S) hc
    exact .agg (by simpa using h1) (fun j pv u hj hu=>(h2 j pv u hj (by simpa using hu)).1)
 ·exact (XI h).1
theorem kx {σ:Nat→PV} {a:Act} (hs:∀t,RepO w S G nx (σ t) (a.tmps.getD t undef)) {y:Operand} {pv:PV} (h:get σ y=some pv):RepO w S G nx pv (a.eval y):=by
 cases y with
 | tmp t=>simp[get] at h;subst h;exact hs t
 | const x=>exact .c (J4 h)
 | global g=>simp[get] at h
 | func f=>simp[get] at h;subst h;exact .c (.fn rfl rfl (by simp) (by simp))
theorem J5 {y:PV} {u:Value} (h:RepO w S G nx y u) (hc:y.cells.all PV.isCell=true):y.cells.length=u.cells.size∧∀(j:Nat) (pv:PV) (c:Value),y.cells[j]?=some pv→u.cells[j]?=some c→RepO w S G nx pv c∧c.oneCell'=true:=by
 by_cases hag:∃cs,y=.agg cs
 ·obtain⟨cs,rfl⟩:=hag
  obtain⟨us,rfl,hl,hr⟩:=h.agg_inv
  refine⟨hl,fun j pv c hj hu=>?_⟩
  have h1:=hr j pv c hj hu
  refine⟨h1,h1.oneCell ?_⟩
  simp only[PV.cells] at hc hj
  exact List.all_eq_true.1 hc pv (List.mem_of_getElem? hj)
 ·have hy:y.cells=[y]:=by cases y<;>first | rfl | exact (hag ⟨_,rfl⟩).elim
  rw[hy] at hc ⊢
  have hi:y.isCell=true:=by simpa using hc
  have ho:=h.oneCell hi
  have hu:u.cells=#[u]:=by cases u<;>first | rfl | simp[Value.oneCell'] at ho
  rw[hu]
  refine⟨rfl,fun j pv c hj hc=>?_⟩
  cases j with
  | zero=>simp at hj hc;subst hj;subst hc;exact⟨h,ho⟩
  | succ j=>simp at hj
def Done (dr:Prop) (P:Program) (w:World) (hp:Hp) (nx:Nat) (S:Nat→Prop) (G:Nat→GI) (x:PV) (hp':Hp) (nx':Nat) (r:Result Value):Prop :=
 ∃v w' S' G',r=.ok v w'∧Stp dr P hp nx S G w hp' nx' S' G' w'∧RepO w' S' G' nx' x v
theorem zA (hi:Inv P w S G hp nx) {x:PV} {v:Value} {r:Result Value} (hr:r=.ok v w) (hx:RepO w S G nx x v):Done dr P w hp nx S G x hp nx r:=⟨v,w,S,G,hr,.refl hi,hx⟩
theorem kT {t:TypeId} {n:Nat} (h:zS P t=some n):∃i,P.info? t=some i∧i.size=n:=by
 unfold zS at h
 cases hi:P.info? t with
 | none=>simp[hi] at h
 | some i=>exact⟨i,rfl,by simpa[hi] using h⟩
theorem ql {t:TypeId} {n:Nat} (h:zS P t=some n) (w:World):(sizeOf t).run P w=.ok n w:=by
 obtain⟨i,hi,rfl⟩:=kT h
 simp[sizeOf,typeInfo,hi]
theorem yG {t:TypeId} {b:Bool} (h:qE P t=some b) (w:World):(isAgg t).run P w=.ok b w:=by
 unfold qE at h
 cases hu:P.underlying t with
 | none=>simp[hu] at h
 | some d =>
   simp[hu] at h
   subst h
   unfold isAgg
   rw[Sem.run_bind,run_underlying hu w]
   cases d<;>rfl
theorem ky {t:TypeId} {z:List PV} (h:wy P t=some z):∃i v,P.info? t=some i∧i.zero=some v∧ofCells v.cells.toList=some z:=by
 unfold wy at h
 cases hi:P.info? t with
 | none=>simp[hi] at h
 | some i =>
   cases hz:i.zero with
   | none=>simp[hi,hz] at h
   | some v=>exact⟨i,v,rfl,hz,by simpa[hi,hz] using h⟩
theorem j6 {t:TypeId} {i:TypeInfo} {v:Value} (hi:P.info? t=some i) (hz:i.zero=some v) (w:World):(zeroValue t).run P w=.ok v w:=by
 simp[zeroValue,typeInfo,hi,hz]
theorem zik (hi:Inv P w S G hp nx) {t:TypeId} {n:Nat} {z:List PV} (hs:zS P t=some n) (hz:wy P t=some z) (h0:0<n) (hl:z.length=n) :
  Done dr P w hp nx S G (.ref nx 0 0) (upd hp nx (some ⟨t,n,false,[z]⟩)) (nx+1) ((Instr.alloc t true (.tuple #[])).run P w):=by
 obtain⟨i,v,h1,h2,h3⟩:=ky hz
 obtain⟨h4,h5⟩:=qL (w:=w) (S:=S) h3
 have hsz:(P.info? t).map (·.size)=some n:=hs
 have hcz:v.cells.size=n:=by rw[←hl,h4];simp
 have k:=Stp.alloc (dr:=dr) hi v.cells t false [z] n h0 hsz (by simp[hl]) (by simp[hcz]) (fun i j c pv hi hj=>by
  cases i with
  | succ i=>simp at hi
  | zero =>
    simp at hi
    subst hi
    have hj':j<v.cells.size:=by rw[hcz,←hl];exact (List.getElem?_eq_some_iff.1 hj).1
    refine⟨v.cells[j],by simp[hj'],?_⟩
    have h6:=h5 j pv v.cells[j] hj (by simp[hj'])
    exact⟨fun h=>(by cases h),.c h6.1,h6.2.1⟩)
 refine⟨.pointer (some ⟨w.heap.size,0,none⟩),_,_,_,?_,k,?_⟩
 ·simp[Instr.alloc,j6 h1 h2,newVar,newRow]
 ·have:=RepO.ref (w:=w.alloc (.cells v.cells t)) (S:=S) (G:=upd G nx ⟨w.heap.size,v.cells.size,n⟩) (nx:=nx+1) (id:=nx) (i:=0) (j:=0) (by omega) (by simpa using h0)
  simpa using this
theorem znz (hi:Inv P w S G hp nx) {t:TypeId} {n:Nat} {y:PV} {u:Value} (hs:zS P t=some n) (hy:RepO w S G nx y u) (h0:0<n) (hl:y.cells.length=n) (hc:y.cells.all PV.isCell=true) :
  Done dr P w hp nx S G (.ref nx 0 0) (upd hp nx (some ⟨t,n,false,[y.cells]⟩)) (nx+1) ((Instr.box t u).run P w):=by
 obtain⟨h4,h5⟩:=J5 hy hc
 have hcz:u.cells.size=n:=by rw[←h4,hl]
 have k:=Stp.alloc (dr:=dr) hi u.cells t false [y.cells] n h0 hs (by simp[hl]) (by simp[hcz]) (fun i j c pv hi hj=>by
  cases i with
  | succ i=>simp at hi
  | zero =>
    simp at hi
    subst hi
    have hj':j<u.cells.size:=by rw[←h4];exact (List.getElem?_eq_some_iff.1 hj).1
    refine⟨u.cells[j],by simp[hj'],?_⟩
    have h6:=h5 j pv u.cells[j] hj (by simp[hj'])
    exact⟨fun h=>(by cases h),h6.1,h6.2⟩)
 refine⟨.pointer (some ⟨w.heap.size,0,none⟩),_,_,_,?_,k,?_⟩
 ·simp[Instr.box,newVar,newRow]
 ·have:=RepO.ref (w:=w.alloc (.cells u.cells t)) (S:=S) (G:=upd G nx ⟨w.heap.size,u.cells.size,n⟩) (nx:=nx+1) (id:=nx) (i:=0) (j:=0) (by omega) (by simpa using h0)
  simpa using this
theorem Q0 {t:TypeId} {cs:List PV} {x:PV} (h:zr P t cs=some x) (ad:Addr) (us:Nat→Value) (hc:∀(j:Nat) (pv:PV),cs[j]?=some pv→w.cell? (ad.add j)=some (us j)∧RepO w S G nx pv (us j)) :
  ∃v,(loadVar t ad).run P w=.ok v w∧RepO w S G nx x v:=by
 unfold zr at h
 split at h
 ·rename_i n ha hs
  split at h
  ·rename_i hle
   injection h with h
   subst h
   have hl:(loadCells ad n).run P w=.ok ((List.range n).map us).toArray w:=by
    have:=run_loadCells_list (P:=P) w ad ((List.range n).map us) (fun j v hj=>by
     have hjn:j<n:=by simpa using (List.getElem?_eq_some_iff.1 hj).1
     have hp:=hc j (cs[j]'(by omega)) (List.getElem?_eq_getElem (by omega))
     rw[hp.1]
     rw[List.getElem?_map,List.getElem?_range hjn] at hj
     simpa using hj)
    simpa using this
   refine⟨.agg ((List.range n).map us).toArray,?_,.agg ?_ ?_⟩
   ·simp[loadVar,yG ha,ql hs,hl]
   ·simp;omega
   ·intro j pv u hj hu
    rw[List.getElem?_take] at hj
    split at hj
    ·rename_i hjn
     have:=(hc j pv hj).2
     simp[hjn] at hu
     rwa [←hu]
    ·cases hj
  ·cases h
 ·rename_i n ha hs
  have:=hc 0 x h
  refine⟨us 0,?_,this.2⟩
  have h0:ad.add 0=ad:=rfl
  rw[h0] at this
  simp[loadVar,yG ha,this.1]
 ·cases h
theorem zcr (hi:Inv P w S G hp nx) {t:TypeId} {p x:PV} {u:Value} (h:jZ P hp t p=some x) (hp':RepO w S G nx p u):Done dr P w hp nx S G x hp nx ((Instr.loadAt t u).run P w):=by
 unfold jZ at h
 split at h
 ·rename_i cs
  cases hp'.ptr_inv with
  | ptr us h1 h2 =>
    obtain⟨v,hv,hr⟩:=Q0 (G:=G) (nx:=nx) (w:=w) (S:=S) h _ us (fun j pv hj=>⟨(h1 j pv hj).2,.c (h2 j pv hj)⟩)
    exact zA hi (v:=v) (by simp[Instr.loadAt,Instr.sureAddr,hv]) hr
 ·rename_i id i j
  have hrp:=hp'.ref_pos
  obtain⟨hid,rfl⟩:=hp'.ref_inv
  split at h
  ·rename_i b hb
   split at h
   ·rename_i c hc
    obtain⟨cur,h1,h2,h3⟩:=(hi.live id b hb).row hrp
    have hcell:∀k:Nat,w.cell? ((⟨(G id).g,i*(G id).s+j,none⟩:Addr).add k)=cur[i*(G id).s+j+k]?:=by
     intro k
     rw[Addr.add_lit,cell_of_row w _ _ cur _ _ h1]
    obtain⟨v,hv,hr⟩:=Q0 (G:=G) (nx:=nx) (w:=w) (S:=S) h ⟨(G id).g,i*(G id).s+j,none⟩ (fun k=>(cur[i*(G id).s+j+k]?).getD undef) (fun k pv hk=>by
     rw[List.getElem?_drop] at hk
     obtain⟨u,h4,h5⟩:=h3 i (j+k) c pv hc hk
     rw[hcell]
     have e:i*(G id).s+j+k=i*(G id).s+(j+k):=by omega
     rw[e,h4]
     exact⟨rfl,h5.2.1⟩)
    exact zA hi (v:=v) (by simp[Instr.loadAt,Instr.sureAddr,hv]) hr
   ·cases h
  ·cases h
 ·cases h
end
variable {dr:Prop}
section
variable {P:Program} {w:World} {S:Nat→Prop} {G:Nat→GI} {hp:Hp} {nx:Nat}
def Zip {α β:Type} (R:α→β→Prop) (xs:List α) (us:List β):Prop:=xs.length=us.length∧∀(j:Nat) (x:α) (u:β),xs[j]?=some x→us[j]?=some u→R x u
theorem Zip.nil {α β:Type} {R:α→β→Prop}:Zip R [] ([]:List β):=⟨rfl,by simp⟩
theorem Zip.cons {α β:Type} {R:α→β→Prop} {x:α} {u:β} {xs:List α} {us:List β} (h:R x u) (t:Zip R xs us):Zip R (x::xs) (u::us):=by
 refine⟨by simp[t.1],fun j y v hy hv=>?_⟩
 cases j with
 | zero=>simp at hy hv;subst hy;subst hv;exact h
 | succ j=>exact t.2 j y v (by simpa using hy) (by simpa using hv)
theorem Zip.uncons {α β:Type} {R:α→β→Prop} {x:α} {xs:List α} {us:List β} (h:Zip R (x::xs) us):∃u us',us=u::us'∧R x u∧Zip R xs us':=by
 cases us with
 | nil=>have:=h.1;simp at this
 | cons u us' =>
   refine⟨u,us',rfl,h.2 0 x u rfl rfl,by have:=h.1;simpa using this,fun j y v hy hv=>h.2 (j+1) y v (by simpa using hy) (by simpa using hv)⟩
theorem Zip.unnil {α β:Type} {R:α→β→Prop} {us:List β} (h:Zip R ([]:List α) us):us=[]:=List.eq_nil_of_length_eq_zero h.1.symm
theorem Zip.imp {α β:Type} {R R':α→β→Prop} {xs:List α} {us:List β} (h:Zip R xs us) (hr:∀x u,R x u→R' x u):Zip R' xs us:=⟨h.1,fun j x u a b=>hr x u (h.2 j x u a b)⟩
theorem kU {h:Hp} {i k:Nat} {b:Blk} (hb:upd h i none k=some b):h k=some b:=by
 unfold upd at hb
 split at hb
 ·cases hb
 ·exact hb
theorem zcs {x:PV} {u:Value} (h:RepO w S G nx x u) (hs:x.shut1=true):RepC w S x u:=by
 cases x with
 | v y=>obtain⟨rfl,hl⟩:=h.v_inv;exact .v hl
 | nil=>rw[h.nil_inv];exact .nil
 | em=>obtain⟨ad,cap,rfl,hm⟩:=h.em_inv;exact .em hm
 | sl s es=>exact h.sl_inv
 | ptr cs=>exact h.ptr_inv
 | _=>simp[PV.shut1] at hs
theorem zgY {x:PV} {u:Value} (h:RepO w S G nx x u) (hs:x.shut=true):RepC w S x u:=by
 cases x with
 | agg cs =>
   obtain⟨us,rfl,hl,hr⟩:=h.agg_inv
   exact .agg hl fun j pv y a b=>zcs (hr j pv y a b) (List.all_eq_true.1 hs pv (List.mem_of_getElem? a))
 | _=>exact zcs h hs
theorem xN (hi:Inv P w S G hp nx) {x y:PV} {hp1:Hp} {u:Value} (h:qh hp x=some (y,hp1)) (hx:RepO w S G nx x u) :
  ∃S',Stp dr P hp nx S G w hp1 nx S' G w∧RepC w S' y u∧(x.cellOpen=false→S'=S):=by
 have same:∀{y':PV} {hp':Hp},some (x,hp)=some (y',hp')→RepC w S x u→∃S',Stp dr P hp nx S G w hp' nx S' G w∧RepC w S' y' u∧(x.cellOpen=false→S'=S):=by
  intro y' hp' e hr
  injection e with e
  injection e with e1 e2
  subst e1;subst e2
  exact⟨S,.refl hi,hr,fun _=>rfl⟩
 unfold qh at h
 split at h
 ·rename_i id off n
  split at h
  ·rename_i b hb
   split at h
   ·rename_i hc
    injection h with h
    injection h with h1 h2
    subst h1;subst h2
    obtain⟨cap,h3,h4,h5,h6,rfl⟩:=hx.own_inv
    exact⟨_,Stp.kill hi hb,zij hi hb hx.own_pos hc.1 hc.2 h4 h5 _ (fun k hk=>.inl hk) (.inr rfl),fun h=>by simp[PV.cellOpen] at h⟩
   ·cases h
  ·cases h
 ·obtain⟨rfl,hl⟩:=hx.v_inv
  exact same h (.v hl)
 ·have:=hx.nil_inv
  subst this
  exact same h .nil
 ·exact same h hx.sl_inv
 ·obtain⟨ad,cap,rfl,hm⟩:=hx.em_inv
  exact same h (.em hm)
 ·exact same h hx.ptr_inv
 ·rename_i f xs ys
  split at h
  ·rename_i hc
   obtain⟨us,ts,rfl,h1,h2,h3,h4⟩:=hx.fn_inv
   exact same h (.fn h1 h2 (fun j pv y a b=>zgY (h3 j pv y a b) (List.all_eq_true.1 hc.1 pv (List.mem_of_getElem? a))) (fun j pv y a b=>zgY (h4 j pv y a b) (List.all_eq_true.1 hc.2 pv (List.mem_of_getElem? a))))
  ·cases h
 ·cases h
theorem vK {hp hp1:Hp} {x y:PV} (h:qh hp x=some (y,hp1)):y.isCell=true:=by
 unfold qh at h
 split at h<;>(try (split at h))<;>(try (split at h))<;>first
  | (injection h with h;injection h with h1 h2;subst h1;rfl)
  | cases h
theorem vL:∀{xs ys:List PV} {hp hp1:Hp} {S:Nat→Prop} {us:List Value} (_:Inv P w S G hp nx),zW hp xs=some (ys,hp1)→Zip (RepO w S G nx) xs us →
  ∃S',Stp dr P hp nx S G w hp1 nx S' G w∧Zip (RepC w S') ys us∧ys.all PV.isCell=true∧(xs.any PV.cellOpen=false→S'=S)
 | [],ys,hp,hp1,S,us,hi,h,hz=>by
   simp only[zW] at h
   injection h with h
   injection h with h1 h2
   subst h1;subst h2
   rw[hz.unnil]
   exact⟨S,.refl hi,.nil,rfl,fun _=>rfl⟩
 | x::l,ys,hp,hp1,S,us,hi,h,hz=>by
   simp only[zW] at h
   split at h
   ·rename_i y h1 hf
    split at h
    ·rename_i r h2 hr
     injection h with h
     injection h with e1 e2
     subst e1;subst e2
     obtain⟨u,us',rfl,hu,hz'⟩:=hz.uncons
     obtain⟨S1,k1,c1,n1⟩:=xN (dr:=dr) hi hf hu
     have hS:=k1.same hi
     obtain⟨S2,k2,c2,c3,n2⟩:=vL (S:=S1) k1.inv hr (hz'.imp fun x u hx=>hx.mono hS (Nat.le_refl _) (fun _ _=>rfl))
     refine⟨S2,k1.trans k2,.cons (c1.mono (k2.same k1.inv)) c2,by simp[c3,vK hf],fun hn=>?_⟩
     simp only[List.any_cons,Bool.or_eq_false_iff] at hn
     rw[n2 hn.2,n1 hn.1]
    ·cases h
   ·cases h
theorem wH (hi:Inv P w S G hp nx) {x y:PV} {hp1:Hp} {u:Value} (h:zE hp x=some (y,hp1)) (hx:RepO w S G nx x u) :
  ∃S',Stp dr P hp nx S G w hp1 nx S' G w∧RepC w S' y u∧y.cells.all PV.isCell=true∧(x.noOwn=true→S'=S):=by
 unfold zE at h
 split at h
 ·rename_i cs
  split at h
  ·rename_i l hp2 hf
   injection h with h
   injection h with e1 e2
   subst e1;subst e2
   obtain⟨us,rfl,hl,hr⟩:=hx.agg_inv
   obtain⟨S',k,z,hc,hn⟩:=vL (us:=us.toList) hi hf ⟨by simpa using hl,fun j pv x a b=>hr j pv x a (by simpa using b)⟩
   exact⟨S',k,.agg (by have:=z.1;simpa using this) (fun j pv x a b=>z.2 j pv x a (by simpa using b)),hc,fun h=>hn (by simpa[PV.noOwn] using h)⟩
  ·cases h
 ·obtain⟨S',k,c,hn⟩:=xN hi h hx
  refine⟨S',k,c,?_,fun hh=>hn ?_⟩
  ·have:=vK h
   cases y<;>simp_all[PV.cells,PV.isCell]
  ·cases x<;>simp_all[PV.noOwn,PV.cellOpen]
theorem qR:∀{xs ys:List PV} {hp hp1:Hp} {S:Nat→Prop} {us:List Value} (_:Inv P w S G hp nx),zj hp xs=some (ys,hp1)→Zip (RepO w S G nx) xs us →
  ∃S',Stp dr P hp nx S G w hp1 nx S' G w∧Zip (RepC w S') ys us∧(xs.all PV.noOwn=true→S'=S)
 | [],ys,hp,hp1,S,us,hi,h,hz=>by
   simp only[zj] at h
   injection h with h
   injection h with h1 h2
   subst h1;subst h2
   rw[hz.unnil]
   exact⟨S,.refl hi,.nil,fun _=>rfl⟩
 | x::l,ys,hp,hp1,S,us,hi,h,hz=>by
   simp only[zj] at h
   split at h
   ·rename_i y h1 hf
    split at h
    ·rename_i r h2 hr
     injection h with h
     injection h with e1 e2
     subst e1;subst e2
     obtain⟨u,us',rfl,hu,hz'⟩:=hz.uncons
     obtain⟨S1,k1,c1,_,n1⟩:=wH (dr:=dr) hi hf hu
     have hS:=k1.same hi
     obtain⟨S2,k2,c2,n2⟩:=qR (S:=S1) k1.inv hr (hz'.imp fun x u hx=>hx.mono hS (Nat.le_refl _) (fun _ _=>rfl))
     refine⟨S2,k1.trans k2,.cons (c1.mono (k2.same k1.inv)) c2,fun hn=>?_⟩
     simp only[List.all_cons,Bool.and_eq_true] at hn
     rw[n2 hn.2,n1 hn.1]
    ·cases h
   ·cases h
theorem kV (hi:Inv P w S G hp nx) {x y:PV} {hp1:Hp} {u:Value} (h:freeze hp x=some (y,hp1)) (hx:RepO w S G nx x u) :
  ∃S',Stp dr P hp nx S G w hp1 nx S' G w∧RepC w S' y u:=by
 unfold freeze at h
 split at h
 ·rename_i cs
  split at h
  ·rename_i l hp2 hf
   injection h with h
   injection h with e1 e2
   subst e1;subst e2
   obtain⟨us,rfl,hl,hr⟩:=hx.tup_inv
   obtain⟨S',k,z,_⟩:=qR (us:=us.toList) hi hf ⟨by simpa using hl,fun j pv x a b=>hr j pv x a (by simpa using b)⟩
   exact⟨S',k,.tup (by have:=z.1;simpa using this) (fun j pv x a b=>z.2 j pv x a (by simpa using b))⟩
  ·cases h
 ·obtain⟨S',k,c,_⟩:=wH hi h hx
  exact⟨S',k,c⟩
theorem kz:∀(l cs:List PV) (off:Nat),(qO cs off l).length=cs.length
 | [],cs,off=>rfl
 | x::l,cs,off=>by simp[qO,kz l]
theorem Zc:∀(l cs:List PV) (off k:Nat),off+l.length≤cs.length→(qO cs off l)[k]?=if off≤k∧k<off+l.length then l[k - off]? else cs[k]?
 | [],cs,off,k,_=>by simp[qO];omega
 | x::l,cs,off,k,h=>by
   simp only[List.length_cons] at h
   have ih:=Zc l (cs.set off x) (off+1) k (by simp;omega)
   simp only[qO]
   rw[ih]
   by_cases h1:off+1≤k∧k<off+1+l.length
   ·rw[if_pos h1,if_pos ⟨by omega,by simp;omega⟩]
    obtain⟨d,rfl⟩:∃d,k=off+1+d:=⟨k - (off+1),by omega⟩
    rw[show off+1+d - (off+1)=d from by omega,show off+1+d - off=d+1 from by omega]
    simp
   ·rw[if_neg h1]
    by_cases h2:k=off
    ·subst h2
     rw[if_pos ⟨by omega,by simp⟩,List.getElem?_set_self (by omega)]
     simp
    ·rw[if_neg (by simp;omega),List.getElem?_set_ne (by omega)]
theorem wZ {α:Type} (l vs:List α) (o k:Nat) (h:o+vs.length≤l.length):(l.take o++vs++l.drop (o+vs.length))[k]?=if o≤k∧k<o+vs.length then vs[k - o]? else l[k]?:=by
 have hlo:(l.take o).length=o:=by simp;omega
 rw[List.append_assoc]
 by_cases h1:k<o
 ·rw[if_neg (by omega),List.getElem?_append_left (by omega),List.getElem?_take,if_pos h1]
 ·rw[List.getElem?_append_right (by omega),hlo]
  by_cases h2:k<o+vs.length
  ·rw[if_pos ⟨by omega,h2⟩,List.getElem?_append_left (by omega)]
  ·rw[if_neg (by omega),List.getElem?_append_right (by omega),List.getElem?_drop]
   congr 1
   omega
theorem j7 {α:Type} (l vs:List α) (o:Nat) (h:o+vs.length≤l.length):(l.take o++vs++l.drop (o+vs.length)).length=l.length:=by
 simp;omega
theorem XJ {s i j i':Nat} (hj:j<s) (hn:i'≠i) (a n:Nat) (ha:a+n≤s):¬(i*s+a≤i'*s+j∧i'*s+j<i*s+a+n):=by
 rcases Nat.lt_or_gt_of_ne hn with h | h
 ·have:(i'+1)*s≤i*s:=Nat.mul_le_mul_right s h
  rw[Nat.add_mul] at this
  omega
 ·have:(i+1)*s≤i'*s:=Nat.mul_le_mul_right s h
  rw[Nat.add_mul] at this
  omega
theorem yh {i j n s:Nat} (hi:i<n) (hj:j<s):i*s+j<n*s:=by
 have:(i+1)*s≤n*s:=Nat.mul_le_mul_right s hi
 rw[Nat.add_mul] at this
 omega
theorem zct (hi:Inv P w S G hp nx) {id i j:Nat} {b:Blk} {c ys:List PV} {vs:List Value} (hb:hp id=some b) (hs0:0<(G id).s) (hc:b.es[i]?=some c) (hl:ys.length=vs.length) (hj:j+ys.length≤c.length)
  (hr:∀(k:Nat) (pv:PV) (u:Value),ys[k]?=some pv→vs[k]?=some u→CellRep w S G nx b.arr pv u) :
  ∃w',(storeCells ⟨(G id).g,i*(G id).s+j,none⟩ vs).run P w=.ok () w'∧Stp dr P hp nx S G w (upd hp id (some ⟨b.e,b.s,b.arr,b.es.set i (qO c j ys)⟩)) nx S G w':=by
 have hbr:=hi.live id b hb
 obtain⟨cur,h1,h2,h3⟩:=hbr.row hs0
 have hcs:c.length=(G id).s:=hbr.len hs0 c (List.mem_of_getElem? hc)
 have hil:i<b.es.length:=(List.getElem?_eq_some_iff.1 hc).1
 have hfit:i*(G id).s+j+vs.length≤cur.size:=by
  have:(i+1)*(G id).s≤b.es.length*(G id).s:=Nat.mul_le_mul_right _ hil
  have:=hbr.fit hs0
  rw[Nat.add_mul] at *
  omega
 have h1c:∀v∈vs,v.oneCell'=true:=by
  intro v hv
  obtain⟨k,hk⟩:=List.getElem?_of_mem hv
  have hkl:k<ys.length:=by rw[hl];exact (List.getElem?_eq_some_iff.1 hk).1
  exact (hr k ys[k] v (List.getElem?_eq_getElem hkl) hk).2.2
 have hst:=run_storeCells_at P (G id).g (i*(G id).s+j) b.e vs 0 cur w h1 (by simpa using hfit) h1c
 simp only[Nat.add_zero] at hst
 have hsl:i*(G id).s+j+vs.length≤cur.toList.length:=by simpa using hfit
 refine⟨_,hst,Stp.set hi hb hs0 _ _ ?_ ?_ ?_ ?_⟩
 ·rw[List.size_toArray,j7 _ _ _ hsl];simpa using h2
 ·intro c' hc'
  rcases List.mem_or_eq_of_mem_set hc' with h | h
  ·exact hbr.len hs0 c' h
  ·subst h;rw[kz];exact hcs
 ·simpa using hbr.fit hs0
 ·intro i' j' c' pv hi' hj'
  have hi'l:i'<b.es.length:=by have:=(List.getElem?_eq_some_iff.1 hi').1;simpa using this
  rw[List.getElem?_toArray,wZ _ _ _ _ hsl]
  by_cases hii:i'=i
  ·subst hii
   rw[List.getElem?_set_self hil] at hi'
   injection hi' with hi'
   subst hi'
   rw[Zc _ _ _ _ hj] at hj'
   by_cases hin:j≤j'∧j'<j+ys.length
   ·rw[if_pos hin] at hj'
    rw[if_pos ⟨by omega,by omega⟩]
    have hk:j' - j<vs.length:=by omega
    refine⟨vs[j' - j],?_,hr (j' - j) pv _ hj' (List.getElem?_eq_getElem hk)⟩
    rw[show i'*(G id).s+j' - (i'*(G id).s+j)=j' - j from by omega]
    exact List.getElem?_eq_getElem hk
   ·rw[if_neg hin] at hj'
    rw[if_neg (by omega)]
    obtain⟨u,h4,h5⟩:=h3 i' j' c pv hc hj'
    exact⟨u,by simpa using h4,h5⟩
  ·rw[List.getElem?_set_ne (fun e=>hii e.symm)] at hi'
   have hj'l:j'<(G id).s:=by
    rw[←hbr.len hs0 c' (List.mem_of_getElem? hi')]
    exact (List.getElem?_eq_some_iff.1 hj').1
   rw[if_neg (XJ hj'l hii j vs.length (by omega))]
   obtain⟨u,h4,h5⟩:=h3 i' j' c' pv hi' hj'
   exact⟨u,by simpa using h4,h5⟩
theorem zil (hi:Inv P w S G hp nx) {t:TypeId} {a x:PV} {hp':Hp} {u v:Value} (h:vH P hp t a x=some hp') (ha:RepO w S G nx a u) (hx:RepO w S G nx x v) :
  ∃w' S' G',(Instr.storeAt t u v).run P w=.ok () w'∧Stp dr P hp nx S G w hp' nx S' G' w':=by
 unfold vH at h
 split at h
 ·rename_i id i j
  have hrp:=ha.ref_pos
  obtain⟨hid,rfl⟩:=ha.ref_inv
  split at h
  ·rename_i b0 hb0
   have key:∀(y:PV) (hp1:Hp) (S1:Nat→Prop),Stp dr P hp nx S G w hp1 nx S1 G w→RepO w S1 G nx y v→(b0.arr=true→RepC w S1 y v)→(∀b,hp1 id=some b→b.arr=b0.arr) →
     (match hp1 id,zS P t with
      | some b,some n=>match b.es[i]? with
        | some c=>if y.cells.length=n∧j+n≤c.length∧y.cells.all PV.isCell=true then some (upd hp1 id (some ⟨b.e,b.s,b.arr,b.es.set i (qO c j y.cells)⟩)) else none
        | none=>none
      | _,_=>none)=some hp'→∃w' S' G',(Instr.storeAt t (.pointer (some ⟨(G id).g,i*(G id).s+j,none⟩)) v).run P w=.ok () w'∧Stp dr P hp nx S G w hp' nx S' G' w':=by
    intro y hp1 S1 k1 hy hyc hbb h
    split at h
    ·rename_i b n hb hn
     split at h
     ·rename_i c hc
      split at h
      ·rename_i hcond
       obtain⟨e1,e2,e3⟩:=hcond
       injection h with h
       subst h
       obtain⟨hl,hr⟩:=J5 hy e3
       have hsz:v.cells.size=n:=by rw[←hl,e1]
       obtain⟨w',hst,k2⟩:=zct (P:=P) k1.inv (ys:=y.cells) (vs:=v.cells.toList) (j:=j) hb hrp hc (by simpa using hl) (by rw[e1];exact e2) (fun k pv u hk hu=>by
        have hu':v.cells[k]?=some u:=by simpa using hu
        have h6:=hr k pv u hk hu'
        refine⟨fun hba=>?_,h6.1,h6.2⟩
        rw[hbb b hb] at hba
        have hyr:=hyc hba
        by_cases hag:∃cs,y=.agg cs
        ·obtain⟨cs,rfl⟩:=hag
         cases hyr with
         | agg g1 g2=>exact g2 k pv u hk hu'
        ·have hy1:y.cells=[y]:=by cases y<;>first | rfl | exact (hag ⟨_,rfl⟩).elim
         have ho:=hyr.oneCell (by rw[hy1] at e3;simpa using e3)
         have hv1:v.cells=#[v]:=by cases v<;>first | rfl | simp[Value.oneCell'] at ho
         rw[hy1] at hk
         rw[hv1] at hu'
         cases k with
         | zero=>simp at hk hu';subst hk;subst hu';exact hyr
         | succ k=>simp at hk)
       refine⟨w',S1,G,?_,k1.trans k2⟩
       simp[Instr.storeAt,Instr.sureAddr,storeVar,ql hn,hsz,hst]
      ·cases h
     ·cases h
    ·cases h
   by_cases harr:b0.arr=true
   ·simp only[harr,if_true] at h
    split at h
    ·rename_i y hp1 hf
     obtain⟨S1,k1,hc,_,_⟩:=wH hi hf hx
     refine key y hp1 S1 k1 (.c hc) (fun _=>hc) (fun b hb=>?_) h
     have:∀b,hp1 id=some b→hp id=some b:=fun b hb=>by
      have hsub:∀{x y:PV} {h h':Hp} (_:qh h x=some (y,h')) (k:Nat) (b:Blk),h' k=some b→h k=some b:=by
       intro x y h h' hf k b hb
       unfold qh at hf
       split at hf<;>(try (split at hf))<;>(try (split at hf))<;>first
        | (injection hf with hf;injection hf with e1 e2;subst e2
           first
            | exact hb
            | exact kU hb)
        | cases hf
      have hsubs:∀(xs ys:List PV) (h h':Hp) (_:zW h xs=some (ys,h')) (k:Nat) (b:Blk),h' k=some b→h k=some b:=by
       intro xs
       induction xs with
       | nil=>intro ys h h' hf k b hb;simp only[zW] at hf;injection hf with hf;injection hf with _ e;subst e;exact hb
       | cons x l ih =>
         intro ys h h' hf k b hb
         simp only[zW] at hf
         split at hf
         ·rename_i y h1 hc1
          split at hf
          ·rename_i r h2 hr
           injection hf with hf
           injection hf with _ e
           subst e
           exact hsub hc1 k b (ih _ _ _ hr k b hb)
          ·cases hf
         ·cases hf
      unfold zE at hf
      split at hf
      ·split at hf
       ·rename_i l h2 hcs
        injection hf with hf
        injection hf with _ e
        subst e
        exact hsubs _ _ _ _ hcs id b hb
       ·cases hf
      ·exact hsub hf id b hb
     have:=this b hb
     rw[hb0] at this
     injection this with this
     rw[this]
    ·cases h
   ·simp only[harr] at h
    exact key x hp S (.refl hi) hx (fun h=>(harr h).elim) (fun b hb=>by rw[hb0] at hb;injection hb with hb;rw[hb]) h
  ·cases h
 ·cases h
end
end Go.AM
