/- Lemmas. -/
import Derived.Maps.RangeRun
import Derived.Orders
import Derived.Test.YtmbfinldjgmhaaaGreatDoorG10
set_option maxRecDepth 100000
set_option maxHeartbeats 4000000
open Go Proofs Proofs.YtmbfinldjgmhaaaGreatDoor Proofs.Tryz RowKit AM SpanLaw Q Zz
namespace Go.AM
variable{dr:Prop}
structure Hid (n1 i m:Nat) (g:List (List O)×Option (List O)) (w:World) (S:Nat->Prop) (G:Nat->GI) (Y:Hp) (Z:Nat):Prop where
 li:i<Z
 lm:m<Z
 s1:(G i).s=1
 new:n1<=(G i).g
 ai:Vv S G Y (G i).g
 am:Vv S G Y (G m).g
 obj:∃(en:Array MapEntry) (clock:Nat) (seen:Array Nat),w.heap[(G m).g]?=some (.map en clock)/\Stamped en clock/\w.heap[(G i).g]?=some (.mapIter (some (G m).g) clock seen clock) /\
  g.1.length=(leftOf en seen).toList.length/\(∀(j:Nat) (c:List O) (e:MapEntry),g.1[j]?=some c->(leftOf en seen).toList[j]?=some e->YT w S c e) /\
  ∀c,g.2=some c->∃e zfO,e∈en.toList/\seen=Array.push zfO e.born/\YT w S c e
theorem YT.mono{w w':World}{S a:Nat->Prop}{c:zb}{e:MapEntry}(h:YT w S c e)(d:∀b,S b->a b/\w'.heap[b]?=w.heap[b]?):YT w' a c e:=by obtain⟨k,f,g,i,j,l⟩:=h;exact⟨k,f,g,i,j,l.mono d⟩
theorem dm{w:World}{b:Nat}{o:Obj}(h:w.heap[b]?=some o):b<w.heap.size:=(zU.1 h).1
theorem Hid.stp{P:Program}{n1 i m:Nat}{g:List zb×Option zb}{Y Y':Hp}{Z p:Nat}{S q:Nat->Prop}{G r:Nat->GI}{w w':World}(h:Hid n1 i m g w S G Y Z)(hi:Inv P w S G Y Z)(k:kd dr P Y Z S G w Y' p q r w'):Hid n1 i m g w' q r Y' p:=by
 obtain⟨s,t,y,z,u,v,en,d,seen,l,A,n,B,C,D⟩:=h;have f:=k.loc i s;have em:=k.loc m t;have x:=k.same hi;have E:w'.heap[(G i).g]?=w.heap[(G i).g]?:=k.fr.block _ (dm n) fun⟨id,b,o,e⟩=>u.2 id b o e
 have F:w'.heap[(G m).g]?=w.heap[(G m).g]?:=k.fr.block _ (dm l) fun⟨id,b,o,e⟩=>v.2 id b o e
 refine⟨yb s k.up,yb t k.up,by rw[f];exact y,by rw[f];exact z,by rw[f];exact u.step k (dm n),by rw[em];exact v.step k (dm l),en,d,seen,by rw[em,F];exact l,A,by rw[f,em,E];exact n,B,fun j c e a b=>(C j c e a b).mono x,fun c H=>?_⟩;obtain⟨e,I,J,K,L⟩:=D c H;exact⟨e,I,J,K,L.mono x⟩
theorem kX.self{P:Program}{d:World}{e L:Nat->Prop}{N Z0:Nat}{f:Nat->GI}{c:Nat}{st:St}{S:Nat->Prop}{G:Nat->GI}{a:Act}{w:World}(h:kX dr P d e L N Z0 f c st S G a w):kX dr P w S (jD st.Y G) N st.Z G c st S G a w:=
 ⟨h.inv,h.jx,h.size,h.defers,fun _ h=>h,fun _ h=>.inl h,fun id b g=>.inl ⟨id,b,g,rfl⟩,Fr.refl _ _,ze _,fun _ _=>rfl⟩
theorem kX.comp{P:Program}{g:World}{k L:Nat->Prop}{N Z0:Nat}{l:Nat->GI}{i:Nat}{st e:St}{S m:Nat->Prop}{G n:Nat->GI}{a o:Act}{w w':World}(h:kX dr P g k L N Z0 l i st S G a w)(c:kX dr P w S (jD st.Y G) N st.Z G i e m n o w'):kX dr P g k L N Z0 l i e m n o w':=by
 have f:=h.fr.size;have j:∀b,jD st.Y G b->L b\/g.heap.size<=b:=by rintro b ⟨id,blk,h1,rfl⟩;exact h.own id blk h1
 refine⟨c.inv,c.jx,c.size,c.defers,fun b d=>c.s0 b (h.s0 b d),fun b d=>?_,fun id b d=>?_,h.fr.trans c.fr fun b d h1=>?_,zE h.up c.up,fun id hid=>(c.loc id (yb hid h.up)).trans (h.loc id hid)⟩
 ·rcases c.s1 b d with h1|h1|h1
  ·exact h.s1 b h1
  ·exact .inr (j b h1)
  ·exact .inr (.inr (zE f h1))
 ·rcases c.own id b d with h1|h1
  ·exact j _ h1
  ·exact .inr (zE f h1)
 ·rcases j b h1 with p|p
  ·exact p
  ·omega
abbrev GS:=List zb×Option zb
section
variable{C:Ctx}{pf:FuncId->Bool}{N i m:Nat}
def XB(dr:Prop)(C:Ctx)(N i m:Nat)(c:Code)(st:St)(g:GS)(K:Exit->St->GS->Prop):Prop:=
 ∀(d:World) (h L:Nat->Prop) (Z0:Nat) (j:Nat->GI) (f:Nat) (a:Act) (w:World) (Q:Exit->Act->World->Prop) (S:Nat->Prop) (G:Nat->GI),f<=d.heap.size->kX dr C.P d h L N Z0 j f st S G a w->Hid d.heap.size i m g w S G st.Y st.Z ->
  (∀e b k l w' n o,K e b k->kX dr C.P d h L N Z0 j f b n o l w'->Hid d.heap.size i m k w' n o b.Y b.Z->Q e l w')->c.wpIn Fence.wide 0 C.P Q a w
def cc(dr:Prop)(C:Ctx)(N i m:Nat)(d:Array Oper)(l:List Nat)(st:St)(g:GS)(K:St->GS->Prop):Prop:=
 ∀(c:World) (e L:Nat->Prop) (Z0:Nat) (f:Nat->GI) (h:Nat) (a:Act) (w:World) (Q:Exit->Act->World->Prop) (S:Nat->Prop) (G:Nat->GI),kX dr C.P c e L N Z0 f h st S G a w->Hid c.heap.size i m g w S G st.Y st.Z ->
  (∀b j k w' n o,K b j->kX dr C.P c e L N Z0 f h b n o k w'->Hid c.heap.size i m j w' n o b.Y b.Z->Q .normal k w')->wpOpsIn Fence.wide 0 C.P d Q l a w
theorem XB.of{c:Code}{st:St}{g:GS}{K:Exit->St->GS->Prop}(h:Wp dr C N c st fun e d=>K e d g):XB dr C N i m c st g K:=by
 intro q r L Z0 s f a w Q S G t hs j k;refine h w S (jD st.Y G) st.Z G f a w Q hs.defers.1 ⟨S,G,hs.self⟩ fun e d l w' n b=>?_
 obtain⟨o,p,b⟩:=b;exact k e d g l w' o p n (hs.comp b) (j.stp hs.inv b.stp)
theorem cc.of{d:Array Oper}{l:List Nat}{st:St}{g:GS}{K:St->GS->Prop}(h:vp dr C N d l st fun c=>K c g):cc dr C N i m d l st g K:=by
 intro q r L Z0 s e a w Q S G hs f j;refine h w S (jD st.Y G) st.Z G e a w Q ⟨S,G,hs.self⟩ fun c k w' n b=>?_
 obtain⟨o,p,b⟩:=b;exact j c g k w' o p n (hs.comp b) (f.stp hs.inv b.stp)
def Hz(dr:Prop)(C:Ctx)(N i m:Nat)(y:Code)(K:Exit->St->GS->Prop)(e:Exit)(st:St)(g:GS):Prop:=match e with
 | .normal=>XB dr C N i m y st g K
 |e=>K e st g
@[simp]theorem HA(y:Code)(K:Exit->St->GS->Prop)(st:St)(g:GS):Hz dr C N i m y K .normal st g=XB dr C N i m y st g K:=rfl
@[simp]theorem zgz(y:Code)(K:Exit->St->GS->Prop)(st:St)(g:GS):Hz dr C N i m y K .ret st g=K .ret st g:=rfl
@[simp]theorem TM(y:Code)(K:Exit->St->GS->Prop)(j:Nat)(st:St)(g:GS):Hz dr C N i m y K (.exit j) st g=K (.exit j) st g:=rfl
theorem XB.seq{x y:Code}{st:St}{g:GS}{K:Exit->St->GS->Prop}(h:XB dr C N i m x st g (Hz dr C N i m y K)):XB dr C N i m (.seq x y) st g K:=by
 intro d f L Z0 j k a w Q S G l hs p n;refine wpIn_seq (h d f L Z0 j k a w _ S G l hs p fun e q u r w' s t o b c=>?_);cases e<;>first
  |exact o d f L Z0 j k r w' Q s t l b c n
  |exact n _ _ _ _ _ _ _ o b c
def nE(id:Nat)(K:Exit->St->GS->Prop)(e:Exit)(st:St)(g:GS):Prop:=match e with
 | .exit j=>if j=id then K .normal st g else K (.exit j) st g
 |e=>K e st g
@[simp]theorem zfg(id:Nat)(K:Exit->St->GS->Prop)(st:St)(g:GS):nE id K .normal st g=K .normal st g:=rfl
@[simp]theorem zfh(id:Nat)(K:Exit->St->GS->Prop)(st:St)(g:GS):nE id K .ret st g=K .ret st g:=rfl
@[simp]theorem C9(id j:Nat)(K:Exit->St->GS->Prop)(st:St)(g:GS):nE id K (.exit j) st g=if j=id then K .normal st g else K (.exit j) st g:=rfl
theorem XB.block{id:Nat}{b:Code}{st:St}{g:GS}{K:Exit->St->GS->Prop}(h:XB dr C N i m b st g (nE id K)):XB dr C N i m (.block id b) st g K:=by
 intro n o L Z0 p q a w Q S G r hs s k;refine wpIn_block (h n o L Z0 p q a w _ S G r hs s fun e t u v w' x y f c d=>?_);cases e with
 |exit j=>
  unfold nE at f;unfold Exit.inBlock;simp only at f⊢;split at f
  ·rename_i l;rw[zf l];exact k _ _ _ _ _ _ _ f c d
  ·rename_i l;rw[zc l];exact k _ _ _ _ _ _ _ f c d
 |_=>exact k _ _ _ _ _ _ _ f c d
theorem XB.cond{c:Operand}{x y:Code}{st:St}{g:GS}{K:Exit->St->GS->Prop}{b:Bool}(d:get st.U c=some (.v (.bool b)))(h:XB dr C N i m (if b=true then x else y) st g K):XB dr C N i m (.cond c x y) st g K:=by intro e f L Z0 j k a w Q S G l hs n o;obtain⟨p,_⟩:=(vv hs.jx d).wY;exact wpIn_cond p (h e f L Z0 j k a w Q S G l hs n o)
theorem XB.region{id:Nat}{b:Array Oper}{st:St}{g:GS}{K:Exit->St->GS->Prop}(h:cc dr C N i m b (List.range b.size) st g (fun st g=>K .normal st g)):XB dr C N i m (.region id b false) st g K:=
 fun f j L Z0 k l a w Q S G _ hs n o=>wpIn_region (h f j L Z0 k l a w Q S G hs n fun c p q w' r s t d e=>o .normal c p q w' r s t d e)
def uI(I:Nat->St->GS->Prop)(n:Nat)(K:Exit->St->GS->Prop)(e:Exit)(st:St)(g:GS):Prop:=match e with
 | .normal=>∃k,k<n/\I k st g
 |e=>K e st g
@[simp]theorem zfi(I:Nat->St->GS->Prop)(n:Nat)(K:Exit->St->GS->Prop)(st:St)(g:GS):uI I n K .normal st g=∃k,k<n/\I k st g:=rfl
@[simp]theorem zfj(I:Nat->St->GS->Prop)(n:Nat)(K:Exit->St->GS->Prop)(st:St)(g:GS):uI I n K .ret st g=K .ret st g:=rfl
@[simp]theorem O5(I:Nat->St->GS->Prop)(n j:Nat)(K:Exit->St->GS->Prop)(st:St)(g:GS):uI I n K (.exit j) st g=K (.exit j) st g:=rfl
theorem XB.loop{b:Code}{st:St}{g:GS}{K:Exit->St->GS->Prop}(I:Nat->St->GS->Prop)(n:Nat)(t:I n st g)(h:∀n st g,I n st g->XB dr C N i m b st g (uI I n K)):XB dr C N i m (.loop b) st g K:=by
 intro j q L Z0 r s a w Q S G u hs l v;refine wpIn_loop_rounds (n+1) ?_;have o:∀(k n:Nat) (st:St) (g:GS) (a:Act) (w:World) (S:Nat->Prop) (G:Nat->GI),n<k->I n st g->kX dr C.P j q L N Z0 r s st S G a w->Hid j.heap.size i m g w S G st.Y st.Z->Code.roundsIn Fence.wide 0 C.P b Q k a w:=by
  intro k
  induction k with
  |zero=>intro n st g a w S G x;omega
  |succ k y=>
   intro n st g a w S G x hi hs l;rw[roundsIn_succ];refine h n st g hi j q L Z0 r s a w _ S G u hs l fun e p z A w' B D c d f=>?_
   cases e with
   |normal=>obtain⟨E,H,F⟩:=c;exact y E p z A w' B D (by omega) F d f
   |_=>exact v _ _ _ _ _ _ _ c d f
 exact o _ n st g a w S G (by omega) t hs l
theorem Hid.slot{n1:Nat}{g:GS}{w:World}{S:Nat->Prop}{G:Nat->GI}{Y:Hp}{Z:Nat}(h:Hid n1 i m g w S G Y Z){u:Value}(a:qb w S G Z (.ref i 0 0) u):u=.pointer (some ⟨(G i).g,0,none⟩):=by obtain⟨_,rfl⟩:=a.Wh;simp
theorem nF{α:Type}:∀(l:List α) (j:Nat) (h:j<l.length),l.Perm (l[j]::l.eraseIdx j)
 |x::l,0,_=>by simp
 |x::l,j+1,h=>by have:=nF l j (by simpa using h);simp only[List.getElem_cons_succ,List.eraseIdx_cons_succ];exact(this.cons x).trans (List.Perm.swap _ _ _)
theorem uJ{l:List MapEntry}(b:(l.map (·.born)).Nodup){j:Nat}{e:MapEntry}(a:l[j]?=some e):l.filter (fun x=>!(x.born==e.born))=l.eraseIdx j:=by
 induction l generalizing j with
 |nil=>simp at a
 |cons x l c=>
  rw[wg,List.nodup_cons]at b;cases j with
  |zero=>
   simp only[List.getElem?_cons_zero,zN]at a;subst a;simp only[Rl,beq_self_eq_true,Bool.not_true,zO,wx,List.eraseIdx_cons_zero];refine List.filter_eq_self.2 fun y d=>?_
   simp only[yF,yy];exact fun e=>b.1 (qp.2 ⟨y,d,e⟩)
  |succ j=>
   simp only[List.getElem?_cons_succ]at a;have f:(!(x.born==e.born))=true:=by simp only[yF,yy];exact fun g=>b.1 (qp.2 ⟨e,zz a,g.symm⟩)
   rw[Rl,f,zf rfl,List.eraseIdx_cons_succ,c b.2 a]
theorem sv{en:Array MapEntry}{seen:Array Nat}(b:(en.toList.map (·.born)).Nodup){j:Nat}{e:MapEntry}(a:(leftOf en seen).toList[j]?=some e):(leftOf en (seen.push e.born)).toList=(leftOf en seen).toList.eraseIdx j:=by
 have c:(leftOf en seen).toList=en.toList.filter fun x=>!seen.contains x.born:=by unfold leftOf;rw[Array.toList_filter]
 have d:(leftOf en (seen.push e.born)).toList=(en.toList.filter fun x=>!seen.contains x.born).filter fun x=>!(x.born==e.born):=by
  unfold leftOf;rw[Array.toList_filter,List.filter_filter];refine List.filter_congr fun x _=>?_
  rw[contains_push,Bool.not_or,Bool.and_comm]
 rw[c]at a⊢;rw[d];exact uJ ((List.filter_sublist.map _).nodup b) a
theorem YT.val{w:World}{S:Nat->Prop}{c:zb}{e:MapEntry}(h:YT w S c e):∃k d,c=[.v k,d]/\wK w S (.wq [.v k,d]) (.tuple #[e.key,e.val])/\wK w S (.wq [.v (.bool true),.v k,d]) (.tuple #[.bool true,e.key,e.val]):=by
 obtain⟨k,d,i,rfl,f,g⟩:=h;refine⟨_,d,i,.wq rfl fun j p u a b=>?_,.wq rfl fun j p u a b=>?_⟩
 ·match j,a,b with
  | 0,a,b=>simp at a b;subst a;subst b;exact .v f
  | 1,a,b=>simp at a b;subst a;subst b;exact g
  |j+2,a,b=>simp at a
 ·match j,a,b with
  | 0,a,b=>simp at a b;subst a;subst b;exact .v rfl
  | 1,a,b=>simp at a b;subst a;subst b;exact .v f
  | 2,a,b=>simp at a b;subst a;subst b;exact g
  |j+3,a,b=>simp at a
theorem cc.next{z:Array Oper}{j:Nat}{d:Tmp}{x:Operand}{ty:TypeId}{p:String}{af:Array Edge}{l:List Nat}{st:St}{g:GS}{K:St->GS->Prop}
  (ho:z[j]?=some ⟨some d,.next x false,ty,p,af,none⟩) (hd:d<N) (hx:get st.U x=some (.ref i 0 0))
  (M:g.1=[]->cc dr C N i m z l ⟨qt st.U d (.wq [.v (.bool false)]),st.Y,st.Z⟩ g K)
  (E:∀k B R,g.1.Perm ([.v k,B]::R)->cc dr C N i m z l ⟨qt st.U d (.wq [.v (.bool true),.v k,B]),st.Y,st.Z⟩ (R,some [.v k,B]) K):cc dr C N i m z (j::l) st g K:=by
 intro w0 S0 L Z0 G0 n0 a w Q S G hs hh hQ;simp only[wpOpsIn,ho];rw[Qn hs.jx,zf (vT _ _ _ _ _ _)];have hnd:∀c,(Op.next x false:Op)≠.defer c:=fun c T=>by cases T
 refine⟨fun f _=>trivial,?_⟩;rw[Kg _ _ _ hnd];have W:=hh.slot (vv hs.jx hx);obtain⟨h1,h2,h3,h4,h5,h6,en,h,seen,g1,g2,g3,g4,g5,g6⟩:=id hh;rcases run_next_at (P:=C.P) w ty (G i).g (G m).g h h seen en h g3 g1 g2.1 (ze _)with⟨e0,q⟩|⟨e,he,w1,r,q⟩
 ·have s:(execOp a.eval ⟨some d,.next x false,ty,p,af,none⟩).run C.P w=.ok (.value (.tuple #[.bool false])) w:=by simp[execOp,W,q,-bind_pure_comp]
  rw[s];have hl:g.1=[]:=xp (by rw[g4];simpa using e0);refine M hl w0 S0 L Z0 G0 n0 (a.put (some d) (.tuple #[.bool false])) w Q S G (hs.step (dst:=some d) (.refl hs.inv) (.c (.wq rfl fun j B u a b=>?_)) (fun _ e=>by cases e;exact hd)) hh hQ
  match j,a,b with
  | 0,a,b=>simp at a b;subst a;subst b;exact .v rfl
  |j+1,a,b=>simp at a
 ·have s:(execOp a.eval ⟨some d,.next x false,ty,p,af,none⟩).run C.P w=.ok (.value (.tuple #[.bool true,e.key,e.val])) (Go.ChangeMaps.setBlock w1 (G i).g (.mapIter (some (G m).g) h (seen.push e.born) h)):=by simp[execOp,W,q,-bind_pure_comp]
  rw[s];obtain⟨F,X,hje⟩:=List.getElem_of_mem he;have t:(leftOf en seen).toList[F]?=some e:=by rw[zj X,hje]
  obtain⟨c,T⟩:∃c,g.1[F]?=some c:=⟨_,zj (by omega)⟩;have hen:=g5 F c e T t;have hem:=(mem_left he).1;obtain⟨w2,o⟩:=jj (Go.ChangeMaps.setBlock w1 (G i).g (.mapIter (some (G m).g) h (seen.push e.born) h));have n:w2.heap=w.heap.setIfInBounds (G i).g (.mapIter (some (G m).g) h (seen.push e.born) h):=by rw[<-o];rcases r with rfl|rfl<;>rfl
  have y:=MapKept.heap_set (o':=Obj.mapIter (some (G m).g) h (seen.push e.born) h) g3;have MM:Fr dr w (fun b=>b=(G i).g) w2:=⟨by rw[<-o];rcases r with rfl|rfl<;>rfl,by rw[<-o];rcases r with rfl|rfl<;>rfl,by rw[<-o];rcases r with rfl|rfl<;>rfl,by rw[n];simp,fun _=>by rw[<-o];rcases r with rfl|rfl<;>first|exact ze _|exact Zr _,fun k _ hk=>by rw[n];exact y.2 k hk⟩;have hs2:=hs.frame MM (fun b A=>by rw[A];exact h5) (fun b A=>.inr (by rw[A];exact h4)) (fun D hD A=>by have:=(hs.defers.at hD).2.1;rw[A,g3]at this;cases this)
  rw[o];have hS:∀b,S b->S b/\w2.heap[b]?=w.heap[b]?:=fun b A=>⟨A,MM.block b (hs.inv.st b A) fun e=>h5.1 (e ▸ A)⟩
  have R6:(G m).g≠(G i).g:=fun e=>by rw[e,g3]at g1;cases g1
  obtain⟨k,B,hcc,hv1,hv2⟩:=(hen.mono hS).val;have hlt:F<g.1.length:=(zd.1 T).1;have H:g.1.Perm ([.v k,B]::g.1.eraseIdx F):=by
   have h7:g.1[F]=[.v k,B]:=by rw[<-hcc];exact(zd.1 T).2
   rw[<-h7];exact nF _ _ hlt
  refine E k B (g.1.eraseIdx F) H w0 S0 L Z0 G0 n0 (a.put (some d) (.tuple #[.bool true,e.key,e.val])) w2 Q S G (hs2.step (dst:=some d) (.refl hs2.inv) (.c hv2) (fun _ e=>by cases e;exact hd)) ?_ hQ;refine⟨h1,h2,h3,h4,h5,h6,en,h,seen.push e.born,by rw[n,y.2 _ R6];exact g1,g2,by rw[n];exact y.1,?_,fun j' c' e' q1 J=>?_,fun c' I=>?_⟩
  ·rw[sv g2.2 t,List.length_eraseIdx_of_lt X,List.length_eraseIdx_of_lt hlt,g4]
  ·rw[sv g2.2 t]at J;simp only[List.getElem?_eraseIdx]at q1 J;split at q1
   ·rename_i hj;rw[zf hj]at J;exact(g5 _ _ _ q1 J).mono hS
   ·rename_i hj;rw[zc hj]at J;exact(g5 _ _ _ q1 J).mono hS
  ·injection I with I;subst I;exact⟨e,seen,hem,rfl,by rw[<-hcc];exact hen.mono hS⟩
theorem cc.entry{n:Array Oper}{j:Nat}{d:Tmp}{x:Operand}{ty:TypeId}{p:String}{A:Array Edge}{l:List Nat}{st:St}{g:GS}{K:St->GS->Prop}{k:Value}{B:O}
  (D:n[j]?=some ⟨some d,.entry x,ty,p,A,none⟩) (hd:d<N) (E:get st.U x=some (.ref i 0 0)) (s:g.2=some [.v k,B])
  (h:cc dr C N i m n l ⟨qt st.U d (.wq [.v k,B]),st.Y,st.Z⟩ g K):cc dr C N i m n (j::l) st g K:=by
 intro F H L Z0 I J a w Q S G hs t M;simp only[wpOpsIn,D];rw[Qn hs.jx,zf (vT _ _ _ _ _ _)];have u:∀c,(Op.entry x:Op)≠.defer c:=fun c s=>by cases s
 refine⟨fun f _=>trivial,?_⟩;rw[Kg _ _ _ u];have y:=t.slot (vv hs.jx E);obtain⟨h1,h2,h3,h4,h5,h6,en,b,seen,R,T,W,g4,g5,X⟩:=id t;obtain⟨e,s0,q1,rfl,q3⟩:=X _ s;have o:=run_entry_at (P:=C.P) w (G i).g (G m).g b s0 en b e W R q1 T.2;have q:(execOp a.eval ⟨some d,.entry x,ty,p,A,none⟩).run C.P w=.ok (.value (.tuple #[e.key,e.val])) w:=by simp[execOp,y,o,-bind_pure_comp]
 rw[q];obtain⟨k',pv',r,z,_⟩:=q3.val;simp only[zl,O.v.injEq,zM]at r;obtain⟨rfl,rfl⟩:=r;exact h F H L Z0 I J (a.put (some d) (.tuple #[e.key,e.val])) w Q S G (hs.step (dst:=some d) (.refl hs.inv) (.c z) (fun _ e=>by cases e;exact hd)) t M
theorem TN{P:Program}{o:Oper}{a:Act}{w:World}{K i:Act->World->Prop}{Q f:Exit->Act->World->Prop}(h:∀a w,K a w->i a w)(d:∀e a w,e≠.normal->Q e a w->f e a w)(b:o.wpIn Fence.wide 0 P a w K Q):o.wpIn Fence.wide 0 P a w i f:=by
 unfold Oper.wpIn at *;refine⟨b.1,?_⟩;have b:=b.2;have j:LetsOut Q->LetsOut f:=fun⟨a,w,h⟩=>⟨a,w,d _ _ _ (by simp) h⟩
 generalize (o.semAt Fence.wide.round a.eval).run P w=r at *;cases r with
 |ok x w'=>
  cases x<;>simp only[Oper.uponIn]at b⊢ <;>
   first
    |exact h _ _ b
    |exact⟨b.1,CallsIn.mono b.2 (fun e g c=>by cases e<;>first|exact h _ _ c|exact j c|exact d _ _ _ (by simp) c)⟩
    |exact⟨b.1,RowsIn.mono b.2 (fun _ _ c=>h _ _ c)⟩
    |exact⟨b.1,RoundIn.mono b.2 (fun e g c=>by cases e<;>first|exact h _ _ c|exact j c|exact d _ _ _ (by simp) c)⟩
 |halt x w'=>cases x<;>simp only[Oper.uponIn]at b⊢<;>first|exact b|exact d _ _ _ (by simp) b
theorem zcd{next:Act->World->Prop}{Q:Exit->Act->World->Prop}(e:Exit)(a:Act)(w:World)(h:e≠.normal)(b:Exit.then next Q e a w):Q e a w:=by
 cases e<;>first
  |exact(h rfl).elim
  |exact b
theorem XZ{P:Program}{b:Array Oper}{Q:Exit->Act->World->Prop}(l2:List Nat):∀(l:List Nat) (a:Act) (w:World),wpOpsIn Fence.wide 0 P b (Exit.then (wpOpsIn Fence.wide 0 P b Q l2) Q) l a w->wpOpsIn Fence.wide 0 P b Q (l++l2) a w
 |[],a,w,h=>h
 |i::l,a,w,h=>by
  simp only[qX,wpOpsIn]at h⊢;split at h
  ·exact XZ l2 l _ _ h
  ·split at h
   ·rename_i c;rw[zf c];exact TN (fun a w d=>XZ l2 l _ _ d) zcd h
   ·rename_i c;rw[zc c];exact⟨h.1,XZ l2 l _ _ h.2⟩
theorem kd.hide{P:Program}{w:World}{S:Nat->Prop}{G:Nat->GI}{Y:Hp}{Z:Nat}(h:Inv P w S G Y Z)(m:Nat)(o:Obj):kd dr P Y Z S G w (qt Y m none) (Z+1) S (qt G Z ⟨w.heap.size,0,1⟩) (w.alloc o):=by
 have d:∀b,b<w.heap.size->(w.alloc o).heap[b]?=w.heap[b]?:=fun b a=>Below.heap_alloc w _ b a
 have l:∀b,S b->S b/\(w.alloc o).heap[b]?=w.heap[b]?:=fun b a=>⟨a,d b (h.st b a)⟩
 have f:∀id,id<Z->qt G Z ⟨w.heap.size,0,1⟩ id=G id:=fun id hid=>qL _ _ _ _ (by omega)
 have e:(w.alloc o).heap.size=w.heap.size+1:=by show(w.heap.push _).size=_;simp
 refine⟨⟨fun b a=>by rw[e];have:=h.st b a;omega,fun id b a=>?_,fun id b a=>?_,fun id b a=>?_,fun id id' b n a j p=>?_,h.gD.mono l⟩,by omega,f,fun _ a=>a,fun _ a=>.inl a,fun id b a=>?_,⟨rfl,rfl,rfl,by rw[e];omega,fun _=>ze _,fun k q _=>d k q⟩⟩
 all_goals have c:=xk a
 all_goals have i:=h.top id b c
 ·omega
 ·rw[f id i];exact(h.live id b c).mono l (by omega) f (d _ (h.live id b c).lt)
 ·rw[f id i];exact h.apart id b c
 ·have g:=xk j;rw[f id i,f id' (h.top id' n g)]at p;exact h.inj id id' b n c g p
 ·rw[f id i];exact .inl ⟨id,b,c,rfl⟩
theorem Wp.range(hg:vR dr C pf){id:Nat}{q:Array Oper}(n:Nat){d:Tmp}{x:Operand}{t kt et ty:TypeId}{p:String}{H:Array Edge}{D:Code}{st:St}{K:Exit->St->Prop}
  (Eh:q.toList.drop n=[⟨some d,.range t x,ty,p,H,none⟩]) (hd:q.toList.all (fun o=>match o.dst with|some d=>decide (d<N)|none=>true)=true) (ht:C.P.underlying t=some (.map kt et))
  (h:iy C q (q.toList.take n) st fun st1=>∃m b,get st1.U x=some (.mp m)/\st1.Y m=some b/\b.s=0/\XB dr C N st1.Z m D ⟨qt st1.U d (.ref st1.Z 0 0),qt st1.Y m none,st1.Z+1⟩ (b.es,none) fun e st _=>K e st):Wp dr C N (.seq (.region id q false) D) st K:=by
 obtain⟨pre,I⟩:=jj (q.toList.take n);rw[I]at h;have u:q.toList=pre++[⟨some d,.range t x,ty,p,H,none⟩]:=by rw[<-I,<-Eh,vO]
 intro w0 S0 L Z0 G0 n0 a w Q hn hs hQ;refine wpIn_seq (wpIn_region ?_);obtain⟨st1,he,m,b,hx,F,hbs,hG⟩:=h;have hsz:q.size=pre.length+1:=by rw[<-wF,u];simp
 have J:∀o∈pre,∀d,o.dst=some d->d<N:=fun o ho d hd'=>by have:=zL.1 hd o (by rw[u];exact List.mem_append_left _ ho);rw[hd']at this;simpa using this
 have hdN:d<N:=by have:=zL.1 hd ⟨some d,.range t x,ty,p,H,none⟩ (by rw[u];simp);simpa using this
 have ho:q[pre.length]?=some ⟨some d,.range t x,ty,p,H,none⟩:=by rw[<-gz,u];simp
 rw[hsz,List.range_succ];refine XZ _ _ _ _ ?_;have M:(List.range pre.length).map (fun i=>q[i]?)=pre.map some:=by
  apply QF;intro i;rw[qf,qf];by_cases hi:i<pre.length
  ·rw[jX hi];simp only[zA];rw[<-gz,u,zY hi,zj hi];rfl
  ·rw[yO (by simpa using hi),yO (by simpa using hi)];rfl
 have hw:=eV (l2:=[]) hg M J he (vp.nil (K:=fun st=>st=st1) rfl);rw[jJ]at hw;refine hw w0 S0 L Z0 G0 n0 a w _ hs fun r a' w' sS l=>?_
 subst sS;obtain⟨S,G,l⟩:=l;show wpOpsIn Fence.wide 0 C.P q _ [pre.length] a' w';simp only[wpOpsIn,ho];rw[Qn l.jx,zf (vT _ _ _ _ _ _)];have hnd:∀c,(Op.range t x:Op)≠.defer c:=fun c hc=>by cases hc
 refine⟨fun f _=>trivial,?_⟩;rw[Kg _ _ _ hnd];obtain⟨m1,m2,hxu⟩:=(vv l.jx hx).Gw;have R:=(l.inv.live m b F).UQ m2;obtain⟨en,k,g1,g2,g3⟩:=R.row;obtain⟨en',B,T,g4⟩:=R.Ro;obtain⟨rfl,rfl⟩:en=en'/\k=B:=by rw[g1]at T;simpa using T
 have W:=run_range_map (P:=C.P) w' t kt et (G m).g en k ht g1;have X:(execOp a'.eval ⟨some d,.range t x,ty,p,H,none⟩).run C.P w'=.ok (.value (.pointer (some ⟨w'.heap.size,0,none⟩))) (w'.alloc (.mapIter (some (G m).g) k #[] k)):=by simp[execOp,hxu,W,-bind_pure_comp]
 rw[X];have hk:=kd.hide (dr:=dr) l.inv m (.mapIter (some (G m).g) k #[] k);have E:qt G r.Z ⟨w'.heap.size,0,1⟩ r.Z=⟨w'.heap.size,0,1⟩:=by simp
 have e2:qt G r.Z ⟨w'.heap.size,0,1⟩ m=G m:=qL _ _ _ _ (by omega);have hr:qb (w'.alloc (.mapIter (some (G m).g) k #[] k)) S (qt G r.Z ⟨w'.heap.size,0,1⟩) (r.Z+1) (.ref r.Z 0 0) (.pointer (some ⟨w'.heap.size,0,none⟩)):=by have:=qb.ref (w:=w'.alloc (.mapIter (some (G m).g) k #[] k)) (S:=S) (G:=qt G r.Z ⟨w'.heap.size,0,1⟩) (Z:=r.Z+1) (id:=r.Z) (i:=0) (j:=0) (by omega) (by rw[E];exact Nat.one_pos);rw[E]at this;exact this
 have hlt:=dm g1;have y:leftOf en #[]=en:=by unfold leftOf;exact Array.filter_eq_self.2 fun x _=>by simp
 have hS:∀b,S b->S b/\(w'.alloc (.mapIter (some (G m).g) k #[] k)).heap[b]?=w'.heap[b]?:=fun b F=>⟨F,Below.heap_alloc w' _ b (l.inv.st b F)⟩
 refine hG w0 S0 L Z0 G0 n0 (a'.put (some d) (.pointer (some ⟨w'.heap.size,0,none⟩))) _ Q S _ hn (l.step (dst:=some d) hk hr (fun _ e=>by cases e;exact hdN)) ?_ fun e st2 g' a2 w2 S2 G2 hk2 hs2 _=>hQ e st2 a2 w2 hk2 ⟨S2,G2,hs2⟩
 refine⟨by simp,by show m<r.Z+1;omega,by rw[E],by rw[E];exact l.fr.size,⟨?_,?_⟩,⟨?_,?_⟩,en,k,#[],?_,g4,?_,?_,?_,?_⟩
 ·rw[E];intro v;exact Nat.lt_irrefl _ (l.inv.st _ v)
 ·rw[E];intro id b' v z;have A:=xk v;rw[qL _ _ _ _ (by have:=l.inv.top id b' A;omega)]at z;have:=(l.inv.live id b' A).lt;simp at z;omega
 ·rw[e2];exact l.inv.apart m b F
 ·rw[e2];intro id b' v z;have A:=xk v;rw[qL _ _ _ _ (by have:=l.inv.top id b' A;omega)]at z;have:=l.inv.inj id m b' b A F z;subst this;simp at v
 ·rw[e2,Below.heap_alloc w' _ _ hlt];exact g1
 ·rw[E,e2];exact Rk w' _
 ·rw[y,wF];exact g2.symm
 ·rw[y];intro j c e a b;exact(g3 j c e a (by simpa using b)).mono hS
 ·intro c hc;cases hc
theorem vp.zfP{k:Array Oper}{j g:Nat}{d:Option Tmp}{b:Array Operand}{ts:Array TypeId}{ty:TypeId}{p:String}{A:Array Edge}{l:List Nat}{st:St}{K:St->Prop}{vs:zb}{R:O->Hp->Nat->Prop}
  (B:k[j]?=some ⟨d,.call ⟨.value (.func g),b,ts⟩,ty,p,A,none⟩) (hd:∀x,d=some x->x<N) (D:∃fn,C.P.funcs[g]?=some fn/\(fn.name== "runtime.NumGoroutine")=false/\fn.body.isNone=false) (m:wU (b.toList.map (get st.U))=some vs)
  (s:∀(w:World) (S:Nat->Prop) (G:Nat->GI) (us:List Value),Inv C.P w S G st.Y st.Z->Zip (qb w S G st.Z) vs us->Calls C.P g us.toArray w fun e w'=>∃x Y' i v o q,R x Y' i/\e=.returned v/\kd dr C.P st.Y st.Z S G w Y' i o q w'/\qb w' o q i x v)
  (h:∀x Y' i,R x Y' i->vp dr C N k l ⟨put st.U d x,Y',i⟩ K):vp dr C N k (j::l) st K:=by
 intro E F L Z0 H I a w Q hs J;simp only[wpOpsIn,B];obtain⟨S,G,r⟩:=hs;rw[Qn r.jx,zf (vT _ _ _ _ _ _)];have t:∀c,(Op.call ⟨.value (.func g),b,ts⟩:Op)≠.defer c:=fun c s=>by cases s
 refine⟨fun f _=>trivial,?_⟩;rw[Kg _ _ _ t];obtain⟨fn,M,T,W⟩:=D;have X:Zip (qb w S G st.Z) vs ((b.map a.eval).toList):=by rw[Array.toList_map];exact ZZ (fun y pv hy=>vv r.jx hy) m
 have u:¬fn.name= "runtime.NumGoroutine":=by simpa using T
 have z:¬fn.body=none:=by intro h;simp[h]at W
 have n:(execOp a.eval ⟨d,.call ⟨.value (.func g),b,ts⟩,ty,p,A,none⟩).run C.P w=.ok (.enter g (b.map a.eval)) w:=by simp[execOp,resolve,Act.eval,Deferred.ofValue,invoke,callFunc,M,u,z,-bind_pure_comp]
 rw[n];refine⟨fun h=>by simp[Fence.wide]at h,aw.2 ((s w S G _ r.inv X).mono fun e w' hh=>?_)⟩;obtain⟨x,Y',i,v,o,q,hR,rfl,hk,hx⟩:=hh;exact h x Y' i hR E F L Z0 H I _ w' Q ⟨o,q,r.step hk hx hd⟩ J
theorem Wp.zcH(I:vR dr C pf){id bi bj i1 i3:Nat}{q a:Array Oper}(n W:Nat){d j r X:Tmp}{x:Operand}{t kt et ty L D ty3:TypeId}{p p1 p2 p3:String}{af M E af3:Array Edge}{w:Code}{st:St}{K:Exit->St->Prop}(J:List zb->(Nat->O)->Hp->Nat->Prop)
  (Eh:q.toList.drop n=[⟨some d,.range t x,ty,p,af,none⟩]) (hd:q.toList.all (fun o=>match o.dst with|some d=>decide (d<N)|none=>true)=true) (ht:C.P.underlying t=some (.map kt et))
  (ho3:a[0]?=some ⟨some X,.entry (.tmp d),ty3,p3,af3,none⟩) (hd3:a.toList.all (fun o=>match o.dst with|some d=>decide (d<N)|none=>true)=true) (U8:a.size=W+1) (hdd:decide (j<N/\r<N/\X<N/\d≠j/\d≠r/\d≠X)=true)
  (h:iy C q (q.toList.take n) st fun st1=>∃m b,get st1.U x=some (.mp m)/\st1.Y m=some b/\b.s=0/\J [] (qt st1.U d (.ref st1.Z 0 0)) (qt st1.Y m none) (st1.Z+1) /\
   (∀f Q k F U Y Z,b.es.Perm (f++[.v k,F]::Q)->J f U Y Z->U d=.ref st1.Z 0 0->iy C a ((a.toList.drop 1).take W) ⟨qt (qt (qt U j (.wq [.v (.bool true),.v k,F])) r (.v (.bool true))) X (.wq [.v k,F]),Y,Z⟩ fun G=>
    Wp dr C N w G fun e c=>(e=.normal\/e=.exit bj)/\c.U d=.ref st1.Z 0 0/\J (f++[[.v k,F]]) c.U c.Y c.Z) /\
   ∀f U Y Z,b.es.Perm f->J f U Y Z->K .normal ⟨qt (qt U j (.wq [.v (.bool false)])) r (.v (.bool false)),Y,Z⟩) :
  Wp dr C N (.seq (.region id q false) (.block bi (.loop (.seq (.region i1 #[⟨some j,.next (.tmp d) false,L,p1,M,none⟩,⟨some r,.extract (.tmp j) 0,D,p2,E,none⟩] false) (.seq (.cond (.tmp r) .skip (.exit bi)) (.block bj (.seq (.region i3 a false) w))))))) st K:=by
 obtain⟨hd1,hd2,R,n1,n2,n3'⟩:=xM hdd;refine Wp.range I n Eh hd ht ?_;obtain⟨st1,he,m,b,hx,hb,hbs,hj0,u,S⟩:=h;refine⟨st1,he,m,b,hx,hb,hbs,XB.block (XB.loop (fun k st g=>g.1.length=k/\st.U d=.ref st1.Z 0 0/\∃f,b.es.Perm (f++g.1)/\J f st.U st.Y st.Z) b.es.length ⟨rfl,by simp,[],by simp,hj0⟩ ?_)⟩;rintro k ⟨U,Y,Z⟩ ⟨Q,cur⟩ ⟨hk,hs,f,Y0,hj⟩;simp only at hk hs Y0 hj;refine XB.seq (XB.region ?_);have z:∀(v:zb) (y:Bool) (g:GS) (K':St->GS->Prop),v[0]?=some (.v (.bool y))->K' ⟨qt (qt U j (.wq v)) r (.v (.bool y)),Y,Z⟩ g->cc dr C N st1.Z m #[⟨some j,.next (.tmp d) false,L,p1,M,none⟩,⟨some r,.extract (.tmp j) 0,D,p2,E,none⟩] [1] ⟨qt U j (.wq v),Y,Z⟩ g K':=fun v y g K' hv hk'=>by refine cc.of (vp.cons I (o:=⟨some r,.extract (.tmp j) 0,D,p2,E,none⟩) rfl (fun _ e=>by cases e;exact hd2) (st1:=⟨qt (qt U j (.wq v)) r (.v (.bool y)),Y,Z⟩) ?_ (vp.nil hk'));rw[jg];simp[zX,AM.get,hv,put]
 refine cc.next (l:=[1]) rfl hd1 (by simp[AM.get,hs]) (fun hl=>?_) (fun T F i H=>?_)
 ·simp only at hl;subst hl;refine z _ false _ _ rfl ?_;show XB dr C N st1.Z m _ _ _ _;refine XB.seq (XB.cond (b:=false) (by simp[AM.get]) ?_);rw[zc (by simp)];refine XB.of (Wp.of I rfl ?_);rw[A8];simp only[TM,O5,C9,qI];exact S f U Y Z (by simpa using Y0) hj
 ·simp only at H;refine z _ true _ _ rfl ?_;show XB dr C N st1.Z m _ _ _ _;refine XB.seq (XB.cond (b:=true) (by simp[AM.get]) ?_);rw[zf rfl];refine XB.of (Wp.of I rfl ?_);rw[ct];simp only[HA];refine XB.block (XB.seq (XB.region ?_));have hsz:List.range a.size=0::(List.range' 1 W++[]):=by rw[U8,jJ,zfC,List.range'_succ]
  rw[hsz];refine cc.entry ho3 R (by simp[AM.get,qL _ _ _ _ n1,qL _ _ _ _ n2,hs]) rfl ?_;refine cc.of (vp.Wj I 1 W (by omega) hd3 ?_);have A:b.es.Perm (f++[.v T,F]::i):=Y0.trans (H.append_left f);obtain⟨G,e2,hw⟩:=u f i T F U Y Z A hj hs;refine⟨G,e2,vp.nil ?_⟩;simp only[HA];have hll:i.length<k:=by rw[<-hk,H.length_eq];simp
  refine XB.of (hw.mono fun e c hh=>?_);obtain⟨he3,q1,q2⟩:=hh;have B:∃k',k'<k/\(i.length=k'/\c.U d=.ref st1.Z 0 0/\∃f,b.es.Perm (f++i)/\J f c.U c.Y c.Z):=⟨_,hll,rfl,q1,_,by simpa using A,q2⟩;rcases he3 with rfl|rfl
  ·exact B
  ·simp only[C9,qI];exact B
def We(a:Array Oper):Nat->Array Bool->List (List Nat)
 | 0,_=>[[]]
 |f+1,b=>if(Region.ready .any a b).isEmpty=true then[[]]else(Region.ready .any a b).flatMap fun i=>(We a f (b.setIfInBounds i true)).map (i::·)
theorem sw(ops:Array Oper):∀(f t:Nat) (ls:Array Bool),Region.linearise.go .any ops f t ls []∈We ops f ls
 | 0,t,ls=>by simp[Region.linearise.go,We]
 |f+1,t,ls=>by
  simp only[Region.linearise.go];change (match(Region.ready .any ops ls)[t % (Region.ready .any ops ls).length]? with
   |some i=>Region.linearise.go .any ops f (t/(Region.ready .any ops ls).length) (ls.setIfInBounds i true) [i]
   |none=>[].reverse)∈We ops (f+1) ls
  unfold We;cases hi:(Region.ready .any ops ls)[t % (Region.ready .any ops ls).length]? with
  |none=>
   have hnil:Region.ready .any ops ls=[]:=by
    cases hr:Region.ready .any ops ls with
    |nil=>rfl
    |cons x xs=>rw[hr]at hi;have hlt:t % (x::xs).length<(x::xs).length:=Nat.mod_lt _ (by simp);simp at hi;simp at hlt;omega
   rw[hnil];simp
  |some i=>
   have hm:=zz hi;rw[zc (by intro he;rw[List.isEmpty_iff]at he;rw[he]at hm;cases hm)]
   simp only[];rw[linearise_go_acc,List.reverse_singleton,List.singleton_append];exact List.mem_flatMap.2 ⟨i,hm,qp.2 ⟨_,sw ops f _ _,rfl⟩⟩
theorem Wp.sU(hm:C.P.follows .mixedOrders=true){id:Nat}{ops:Array Oper}{st:St}{K:Exit->St->Prop}(h:∀l∈We ops ops.size (Array.replicate ops.size false),vp dr C N ops l st (Z1 K)):Wp dr C N (.region id ops true) st K:=
 fun w0 S0 L Z0 G0 n0 a w Q _ hs hQ=>wpIn_region_draw fun t=>by rw[hm];exact h _ (by simp only[Region.schedule,UM,qI,Region.linearise];exact sw ops _ _ _) w0 S0 L Z0 G0 n0 a _ Q hs.drew fun st' a' w' hk hs'=>hQ .normal st' a' w' hk hs'
theorem vp.ord(b:vR dr C pf){a:Array Oper}(l:List Nat){st:St}{K:St->Prop}(c:l.map (fun i=>a[i]?)=(l.filterMap fun i=>a[i]?).map some)(hd:a.toList.all (fun o=>match o.dst with|some d=>decide (d<N)|none=>true)=true)(h:iy C a (l.filterMap fun i=>a[i]?) st K):vp dr C N a l st K:=by
 rw[<-jJ l];refine vp.pre b c (zL.2 fun o e=>zL.1 hd o ?_) ?_
 ·obtain⟨i,_,hi⟩:=List.mem_filterMap.1 e;exact Array.mem_toList_iff.2 (gB hi)
 ·obtain⟨st1,f,g⟩:=h;exact⟨st1,f,vp.nil g⟩
end
variable{dr:Prop}{C:Ctx}{N:Nat}{pf:FuncId->Bool}
variable{dr:Prop}{C:Ctx}{N:Nat}{pf:FuncId->Bool}
theorem nG{c:Array Oper}{d:Array Bool}{i:Nat}(h:i∈Region.ready .any c d):d[i]?=some false:=by
 have a:=(mem_ready.1 h).1;cases hi:d[i]? with
 |none=>rw[wV,hi]at a;cases a
 |some b=>rw[wV,hi]at a;rw[show b=false from a]
theorem nH{a:Array Bool}{i:Nat}(h:a[i]?=some false):(a.setIfInBounds i true).toList.count false+1=a.toList.count false:=by
 have b:=(zU.1 h).1;have c:=(zU.1 h).2;rw[Array.toList_setIfInBounds,List.count_set (by simpa using b)];have Y:0<a.toList.count false:=List.count_pos_iff.2 (by rw[<-c];simp);have d:(a.toList[i]'(by simpa using b)==false)=true:=by simp[c]
 rw[zf d,zc (by decide)];omega
theorem vp.ready{a:Array Oper}{K:St->Prop}(I:Array Bool->St->Prop)
  (c:∀(b:Array Bool) (st:St) (i:Nat),b.size=a.size->I b st->i∈Region.ready .any a b->∀(l:List Nat),(∀g,I (b.setIfInBounds i true) g->vp dr C N a l g K)->vp dr C N a (i::l) st K)
  (d:∀(b:Array Bool) (st:St),b.size=a.size->I b st->Region.ready .any a b=[]->K st) :
  ∀(f:Nat) (b:Array Bool) (st:St),b.size=a.size->I b st->b.toList.count false<=f->∀l∈We a f b,vp dr C N a l st K
 | 0,b,st,hs,h,m,l,e=>by
  have n:Region.ready .any a b=[]:=by rw[List.eq_nil_iff_forall_not_mem];intro i hi;have:=nH (nG hi);omega
  simp only[We,qB]at e;subst e;exact vp.nil (d b st hs h n)
 |f+1,b,st,hs,h,m,l,e=>by
  unfold We at e;split at e
  ·rename_i o;simp only[qB]at e;subst e;exact vp.nil (d b st hs h (List.isEmpty_iff.1 o))
  ·obtain⟨i,hi,e⟩:=List.mem_flatMap.1 e;obtain⟨l',j,rfl⟩:=qp.1 e;have p:=nH (nG hi);exact c b st i hs h hi l' fun g k=>vp.ready I c d f _ g (by simpa using hs) k (by omega) l' j
theorem Wp.zab(f:C.P.follows .mixedOrders=true){id:Nat}{a:Array Oper}{st:St}{K:Exit->St->Prop}(I:Array Bool->St->Prop)(g:I (Array.replicate a.size false) st)
  (c:∀(b:Array Bool) (st:St) (i:Nat),b.size=a.size->I b st->i∈Region.ready .any a b->∀(l:List Nat),(∀d,I (b.setIfInBounds i true) d->vp dr C N a l d (Z1 K))->vp dr C N a (i::l) st (Z1 K))
  (e:∀(b:Array Bool) (st:St),b.size=a.size->I b st->Region.ready .any a b=[]->K .normal st):Wp dr C N (.region id a true) st K:=
 Wp.sU f fun l h=>vp.ready I c e a.size _ st (by simp) g (zE List.count_le_length (by simp)) l h
variable{dr:Prop}{C:Ctx}{N:Nat}{pf:FuncId->Bool}
def Vb(a:Array Oper)(b:Array Bool):Prop:=∀(i:Nat) (o:Oper),b[i]?=some true->a[i]?=some o->∀e∈o.after,Region.binds .any e=true->b[e.on]?=some true
def zaH(a:Array Oper):Bool:=(List.range a.size).all fun i=>match a[i]? with
 |some o=>o.after.all fun e=>decide (e.on<i)
 |none=>true
structure Des (d:Nat->Nat) (v:Nat->O) (n:Nat) (σ0:Nat->O) (ls:Array Bool) (U:Nat->O):Prop where
 done:∀j,j<n->ls[j]?=some true->U (d j)=v j
 rest:∀t,(∀j,j<n->d j≠t)->U t=σ0 t
theorem HB{b:Array Bool}{i j:Nat}(h:(b.setIfInBounds i true)[j]?=some true):j=i\/b[j]?=some true:=by
 by_cases a:i=j
 ·exact .inl a.symm
 ·rw[yL a]at h;exact .inr h
theorem uK{b:Array Bool}{i j:Nat}(h:b[j]?=some true):(b.setIfInBounds i true)[j]?=some true:=by
 by_cases a:i=j
 ·subst a;have c:=(zU.1 h).1;rw[JH c]
 ·rw[yL a];exact h
theorem Des.put{d:Nat->Nat}{v:Nat->O}{n:Nat}{b U:Nat->O}{f:Array Bool}(h:Des d v n b f U)(hd:∀i j,i<n->j<n->d i=d j->i=j){i:Nat}(hi:i<n):Des d v n b (f.setIfInBounds i true) (qt U (d i) (v i)):=by
 refine⟨fun j g l=>?_,fun t k=>?_⟩
 ·by_cases a:j=i
  ·subst a;simp[qt]
  ·have c:d j≠d i:=fun e=>a (hd j i g hi e)
   rw[qL _ _ _ _ c];exact h.done j g ((HB l).resolve_left a)
 ·rw[qL _ _ _ _ (fun e=>k i hi e.symm)];exact h.rest t k
theorem Vb.put{c:Array Oper}{d:Array Bool}(h:Vb c d){i:Nat}(n:i∈Region.ready .any c d):Vb c (d.setIfInBounds i true):=by
 intro j o f g e k l;rcases HB f with rfl|f
 ·obtain⟨_,o',a,p⟩:=mem_ready.1 n;rw[g]at a;injection a with a;subst a;have:=p e k l;refine uK ?_;rw[wV]at this;cases m:d[e.on]? with
  |none=>rw[m]at this;cases this
  |some b=>rw[m]at this;rw[show b=true from this]
 ·exact uK (h j o f g e k l)
theorem LG{a:Array Oper}(j:zaH a=true){ls:Array Bool}(hs:ls.size=a.size)(h:Region.ready .any a ls=[]):∀i,i<a.size->ls[i]?=some true:=by
 intro i
 induction i using Nat.strongRecOn with
 |_ i k=>
  intro hi;cases d:ls[i]? with
  |none=>rw[Array.getElem?_eq_none_iff]at d;omega
  |some b=>
   cases b with
   |true=>rfl
   |false=>
    have f:a[i]?=some a[i]:=vB hi;have c:i∈Region.ready .any a ls:=mem_ready.2 ⟨by rw[wV,d];rfl,a[i],f,fun e l _=>by
     have g:=zL.1 j i (yg.2 hi);rw[f]at g;have m:=Array.all_eq_true_iff_forall_mem.1 g e l;have n:e.on<i:=by simpa using m
     rw[wV,k e.on n (by omega)];rfl⟩
    rw[h]at c;cases c
variable{dr:Prop}{C:Ctx}{N:Nat}{pf:FuncId->Bool}
def Ed(dr:Prop)(P:Program)(f:FuncId)(args:zb)(Y:Hp)(Z:Nat)(R:O->Hp->Nat->Prop):Prop:=
 ∀(w:World) (S:Nat->Prop) (G:Nat->GI) (us:List Value),Inv P w S G Y Z->Zip (qb w S G Z) args us->Calls P f us.toArray w fun e w'=>∃x Y' a v b c,R x Y' a/\e=.returned v/\kd dr P Y Z S G w Y' a b c w'/\qb w' b c a x v
theorem Ed.of{f:FuncId}{fn:Func}{code:Code}(a:Xy C pf f fn code){args:zb}{Y:Hp}{Z:Nat}{R:O->Hp->Nat->Prop}(b:args.length<=fn.ntmps)(c:Wp dr C fn.ntmps code ⟨jL args,Y,Z⟩ (Yx C.P fn R)):Ed dr C.P f args Y Z R:=
 fun _ _ _ _ hi d=>Xe a c hi d b
theorem Ed.shut{P:Program}{f:FuncId}{args:zb}{Y:Hp}{Z:Nat}{R b:O->Hp->Nat->Prop}(h:Ed dr P f args Y Z R)
  (d:∀x Y' a,R x Y' a->∃y Y2 z,AM.freeze Y' x=some (y,Y2)/\(∀(w:World) (S:Nat->Prop) (u:Value),wK w S y u->wK w S z u)/\b z Y2 a):Ed dr P f args Y Z b:=
 fun w S G us hi g=>(h w S G us hi g).mono fun e w' ⟨x,Y',a,v,t,i,j,l,k,m⟩=>by obtain⟨y,Y2,z,n,o,p⟩:=d _ _ _ j;obtain⟨q,r,s⟩:=Zi (dr:=dr) k.inv n m;exact⟨z,Y2,a,v,q,i,p,l,k.trans r,.c (o _ _ _ s)⟩
theorem vp.RI{b:Array Oper}{j g:Nat}{d:Option Tmp}{a:Array Operand}{ts:Array TypeId}{ty:TypeId}{p:String}{f:Array Edge}{l:List Nat}{st:St}{K:St->Prop}{vs:zb}{R:O->Hp->Nat->Prop}
  (i:b[j]?=some ⟨d,.call ⟨.value (.func g),a,ts⟩,ty,p,f,none⟩) (hd:∀x,d=some x->x<N) (k:∃fn,C.P.funcs[g]?=some fn/\(fn.name== "runtime.NumGoroutine")=false/\fn.body.isNone=false) (c:wU (a.toList.map (get st.U))=some vs)
  (m:Ed dr C.P g vs st.Y st.Z R) (h:∀x Y' e,R x Y' e->vp dr C N b l ⟨put st.U d x,Y',e⟩ K):vp dr C N b (j::l) st K:=
 vp.zfP i hd k c m h
theorem xx{c:Array Oper}{d:Array Bool}{i:Nat}{o:Oper}(h:i∈Region.ready .any c d)(g:c[i]?=some o)(e:Edge)(j:e∈o.after)(k:Region.binds .any e=true):d[e.on]?=some true:=by
 obtain⟨_,o',a,l⟩:=mem_ready.1 h;rw[g]at a;injection a with a;subst a;have:=l e j k;rw[wV]at this;cases f:d[e.on]? with
 |none=>rw[f]at this;cases this
 |some b=>rw[f]at this;rw[show b=true from this]
def O6(a:Array Oper):Bool:=(List.range (a.size-1)).all fun i=>(List.range a.size).any fun k=>decide (i<k)&&match a[k]? with
 |some o=>o.after.any fun e=>e.on==i&&Region.binds .any e
 |none=>false
theorem O7{a:Array Oper}{g:Array Bool}{n:Nat}(x:a.size=n+1)(c:O6 a=true)(q:Vb a g)(r:n∈Region.ready .any a g):∀i,i<n->g[i]?=some true:=by
 have j:∀d i,n-i=d->i<n->g[i]?=some true:=by
  intro d
  induction d using Nat.strongRecOn with
  |_ d s=>
   intro i hd hi;have t:=zL.1 c i (yg.2 (by omega));obtain⟨k,u,b⟩:=jS.1 t;simp only[zC,qi]at b;obtain⟨v,b⟩:=b;have w:=yg.1 u;cases h:a[k]? with
   |none=>rw[h]at b;cases b
   |some o=>
    rw[h]at b;obtain⟨e,m,f⟩:=Array.any_eq_true'.1 b;simp only[zC,yH]at f;obtain⟨f,p⟩:=f;by_cases l:k=n
    ·subst l;rw[<-f];exact xx r h e m p
    ·rw[<-f];exact q k o (s (n-k) (by omega) k rfl (by omega)) h e m p
 exact fun i hi=>j _ i rfl hi
theorem Wp.zac{α:Type}[Inhabited α](hg:vR dr C pf)(hm:C.P.follows .mixedOrders=true){id n:Nat}{f:Array Oper}{st:St}{K:Exit->St->Prop}(X:f.size=n+1)(hb:zaH f=true)(I:O6 f=true)(c:Nat)(hcn:c<n)(d:Nat->Nat)(v:α->Nat->O)(hd:∀i j,i<n->j<n->d i=d j->i=j)(hN:∀i,i<n->d i<N)(hds:∀i,i<n->∃o,f[i]?=some o/\o.dst=some (d i))
  (A:α->Hp->Nat->Prop)
  (m:∀(a:α) (g:Array Bool) (U:Nat->O) (Y:Hp) (Z i:Nat),i<n->i≠c->Vb f g->i∈Region.ready .any f g->Des d (v a) n st.U g U->((g[c]?=some false/\Y=st.Y/\Z=st.Z)\/(g[c]?=some true/\A a Y Z))->∃o,f[i]?=some o/\yJ C f o ⟨U,Y,Z⟩=some ⟨qt U (d i) (v a i),Y,Z⟩)
  (B:∀(g:Array Bool) (U:Nat->O),Vb f g->c∈Region.ready .any f g->(∀a,Des d (v a) n st.U g U)->∀l,(∀a Y Z,A a Y Z->vp dr C N f l ⟨qt U (d c) (v a c),Y,Z⟩ (Z1 K))->vp dr C N f (c::l) ⟨U,st.Y,st.Z⟩ (Z1 K))
  (D:∀(a:α) (U:Nat->O) (Y:Hp) (Z:Nat),(∀i,i<n->U (d i)=v a i)->(∀t,(∀j,j<n->d j≠t)->U t=st.U t)->A a Y Z->∀l,(∀b,K .normal b->vp dr C N f l b (Z1 K))->vp dr C N f (n::l) ⟨U,Y,Z⟩ (Z1 K)) :
  Wp dr C N (.region id f true) st K:=by
 refine Wp.zab hm (fun g b=>((∀j,j<n+1->g[j]?=some true)/\K .normal b)\/(g[n]?=some false/\Vb f g/\((g[c]?=some false/\(∀a,Des d (v a) n st.U g b.U)/\b.Y=st.Y/\b.Z=st.Z)\/(g[c]?=some true/\∃a,Des d (v a) n st.U g b.U/\A a b.Y b.Z)))) (.inr ⟨by rw[X];simp,fun i o hi=>by simp[QK]at hi,.inl ⟨by rw[X,QK,zf (by omega)],fun a=>⟨fun j _ J=>by simp[QK]at J,fun _ _=>rfl⟩,rfl,rfl⟩⟩) ?_ ?_
 ·intro g b i hs hI hi l T;have u:=nG hi;have hi1:i<n+1:=by have:=(zU.1 u).1;omega
  rcases hI with⟨L,h2⟩|⟨L,z,hD⟩
  ·rw[L i hi1]at u;cases u
  ·by_cases M:i=n
   ·subst M;obtain⟨a,Q,hAa⟩:∃a,Des d (v a) i st.U g b.U/\(g[c]?=some true->A a b.Y b.Z):=by
     rcases hD with⟨q,p,_⟩|⟨_,a,p,r⟩
     ·exact⟨default,p _,fun e=>by rw[q]at e;cases e⟩
     ·exact⟨a,p,fun _=>r⟩
    have ha:=O7 X I z hi;exact D a b.U b.Y b.Z (fun j J=>Q.done j J (ha j J)) Q.rest (hAa (ha c hcn)) l fun st2 hk=>T st2 (.inl ⟨fun j J=>by
     by_cases hji:j=i
     ·subst hji;rw[JH (by omega)]
     ·exact uK (ha j (by omega)),hk⟩)
   ·have h:i<n:=by omega
    have E:(g.setIfInBounds i true)[n]?=some false:=by rw[yL M];exact L
    by_cases s:i=c
    ·subst s;rcases hD with⟨q,p,r,G⟩|⟨q,_⟩
     case inr=>rw[u]at q;cases q
     obtain⟨σ',Y',Z'⟩:=b;simp only at p r G;subst r;subst G;exact B g σ' z hi p l fun a Y Z hA=>T _ (.inr ⟨E,z.put hi,.inr ⟨by rw[JH (by omega)],a,(p a).put hd h,hA⟩⟩)
    ·have R:(g.setIfInBounds i true)[c]?=g[c]?:=yL s;obtain⟨o2,k,S⟩:=hds i h;rcases hD with⟨q,p,r,G⟩|⟨q,a,p,r⟩
     ·obtain⟨o,H,W⟩:=m default g b.U b.Y b.Z i h s z hi (p _) (.inl ⟨q,r,G⟩);rw[H]at k;injection k with k;subst k;have hva:∀a,v a i=v default i:=fun a=>by obtain⟨o',w,F⟩:=m a g b.U b.Y b.Z i h s z hi (p a) (.inl ⟨q,r,G⟩);rw[H]at w;injection w with w;subst w;rw[W]at F;simp only[zN,St.mk.injEq,zM]at F;have:=congrFun F (d i);simpa using this.symm
      refine vp.cons hg H (fun x y=>by rw[S]at y;injection y with y;subst y;exact hN i h) W (T _ (.inr ⟨E,z.put hi,.inl ⟨by rw[R];exact q,fun a=>?_,r,G⟩⟩));have:=(p a).put hd h;rw[hva a]at this;exact this
     ·obtain⟨o,H,W⟩:=m a g b.U b.Y b.Z i h s z hi p (.inr ⟨q,r⟩);rw[H]at k;injection k with k;subst k;exact vp.cons hg H (fun x y=>by rw[S]at y;injection y with y;subst y;exact hN i h) W (T _ (.inr ⟨E,z.put hi,.inr ⟨by rw[R];exact q,a,p.put hd h,r⟩⟩))
 ·intro g b hs hI hr;rcases hI with⟨_,h2⟩|⟨L,_⟩
  ·exact h2
  ·have:=LG hb hs hr n (by omega);rw[L]at this;cases this
section
variable{f:FuncId}{fn:Func}{code:Code}
theorem px(p:Xy C pf f fn code)(i:Bool)(ns:List Nat)(F:zb->Option O)(hF:∀args r,F args=some r->args.length<=fn.ntmps/\Wp dr C fn.ntmps code ⟨jL args,fun _=>none,0⟩ (Yx C.P fn (Nx r))):jr dr C.P f (zi i ns F):=by
 refine⟨⟨fn,p.func,p.name,by rw[p.body];rfl⟩,?_⟩;intro args Y Z r Y' Z' h w S G vs hi Q;unfold zi at h;split at h
 ·rename_i R Y1 s;split at h
  ·rename_i T t;obtain⟨W,X⟩:=hF _ T t;obtain⟨S1,q,u,y⟩:=yP (dr:=dr) hi s Q;refine(Xe p X (XK (fun _=>⟨0,0,0⟩) q.inv.st q.inv.gD) (Qo u).closed W).mono fun e w' hh=>?_
   obtain⟨x,hpe,nxe,v,S',G',⟨r1,j,z⟩,L,k,hx⟩:=hh;have M:Fr dr w (fun _=>False) w':=⟨k.fr.os,k.fr.tape,k.fr.output,k.fr.size,k.fr.drawn,fun b d _=>k.fr.block b d vZ⟩;obtain⟨⟨r2,hpf⟩,A,l⟩:=zV j;simp only at l;subst l;obtain⟨S2,N,B⟩:=Zi (dr:=dr) k.inv A hx;have D:=z _ _ _ B;have m:∀b,S2 b->S1 b\/(w.heap.size<=b/\b<w'.heap.size):=by
    intro b d;have n:=N.inv.st b d;rcases N.from_ b d with h1|⟨id,blk,h1,rfl⟩|h1
    ·rcases k.from_ b h1 with a|a|a
     ·exact .inl a
     ·exact(vZ a).elim
     ·exact .inr ⟨a,n⟩
    ·rcases k.own id blk h1 with a|a
     ·exact(vZ a).elim
     ·exact .inr ⟨a,n⟩
    ·exact absurd h1 (by omega)
   split at h
   ·rename_i g;injection h with h
    injection h with E h;injection h with H I;subst E;subst H;subst I;refine⟨v,_,G,L,kd.outer hi M,.c ?_⟩;rcases g with J|K
    ·exact cu D J
    ·have o:=y K;exact D.mono fun b d=>⟨by rw[<-o];exact m b d,rfl⟩
   ·split at h
    ·injection h with h;injection h with E h;injection h with H I;subst E;subst H;subst I;exact⟨v,_,G,L,q.trans (kd.outer q.inv M),.c (D.mono fun b d=>⟨m b d,rfl⟩)⟩
    ·cases h
  ·cases h
 ·cases h
end
end Go.AM
namespace Go.Q
def pz(M:List (Nat×zG)):List zb:=M.map fun p=>[int p.1,.agg p.2.V]
def aV(M:List (Nat×zG)):kn:=⟨42,0,false,pz M⟩
def zce(l:List qd)(M:List (Nat×zG)):Prop:=∀p∈M,p.2=exM l p.1/\p.2.parts<=205
theorem uL(i:Nat):∀(M:List (Nat×zG)) (k:Nat),(xi (.int .i64 i) (pz M) k=some none)\/∃j c,xi (.int .i64 i) (pz M) k=some (some (k+j,.agg c.V))/\M[j]?=some (i,c)
 |[],k=>.inl rfl
 |(a,b)::M,k=>by
  by_cases h:i=a
  ·subst h;exact .inr ⟨0,b,by simp[pz,xi,vY],rfl⟩
  ·have e:vY (.int .i64 (i:Int)) (.int .i64 (a:Int))=some false:=by simp only[vY,qI,zN,yy,ne_eq];omega
   have f:xi (.int .i64 i) (pz ((a,b)::M)) k=xi (.int .i64 i) (pz M) (k+1):=by simp only[pz,wg,xi,e]
   rw[f];rcases uL i M (k+1)with d|⟨j,g,d,l⟩
   ·exact .inl d
   ·exact .inr ⟨j+1,g,by rw[d];simp;omega,by simpa using l⟩
@[simp]theorem zfk:Vx prog 42=some (some .i64,26):=by kernel_rfl
@[simp]theorem zdC:Vy prog 26=some (.agg yG):=by kernel_rfl
theorem zcf{Y:Hp}{m:Nat}{M:List (Nat×zG)}(i:Nat)(h:Y m=some (aV M)):(∃c,(i,c)∈M/\vu prog Y 42 (.mp m) (int i) true=some (.wq [.agg c.V,q8 true]))\/vu prog Y 42 (.mp m) (int i) true=some (.wq [.agg yG,q8 false]):=by
 rcases uL i M 0 with a|⟨j,c,a,b⟩
 ·exact .inr (by simp[vu,cg,h,aV,WU,a])
 ·exact .inl ⟨c,zz b,by simp[vu,cg,h,aV,WU,a]⟩
theorem zfl{Y:Hp}{m:Nat}{M:List (Nat×zG)}(i:Nat)(c:zG)(h:Y m=some (aV M)):∃d,xB prog Y 42 (.mp m) (int i) (.agg c.V)=some (qt Y m (some (aV d)))/\∀p∈d,p∈M\/p=(i,c):=by
 rcases uL i M 0 with a|⟨j,b,a,e⟩
 ·refine⟨M++[(i,c)],by simp[xB,x0,h,aV,WU,a];simp[pz],fun p Y=>?_⟩;rcases zF.1 Y with Y|Y
  ·exact .inl Y
  ·exact .inr (qB.1 Y)
 ·refine⟨M.set j (i,c),by simp[xB,x0,h,aV,WU,a];simp[pz,AE],fun p Y=>jW Y⟩
def hV(l:List qd)(m:Nat)(f:Bool):kn:=⟨44,3,false,[[.sl 10 (l.map qd.V),.mp m,q8 f]]⟩
def GD(l:List qd)(ida m:Nat)(f:Bool)(Y:Hp):Prop:=Y ida=some (hV l m f)/\∃M,Y m=some (aV M)/\(f=false->zce l M)
theorem GD.same{l:List qd}{ida m:Nat}{f:Bool}{Y Y':Hp}(h:GD l ida m f Y)(d:Y' ida=Y ida)(e:Y' m=Y m):GD l ida m f Y':=by obtain⟨a,M,b,c⟩:=h;exact⟨d.trans a,M,e.trans b,c⟩
noncomputable def JC (l:List qd) (c:zG):Bool:=decide (200<(yZ l c).parts)
def YY(Y:Hp)(lo Z:Nat)(cs:zb)(r:zG):Prop:=∃o,cs=[int r.kind,str r.attr,int r.op,.sl 5 (r.qZ.map zZ.V),str r.pat,str r.name,o]/\(o=.sl 7 (r.args.map zG.V)\/∃id,lo<=id/\id<Z/\o=.own id 0 r.args.length/\Y id=some ⟨26,7,true,r.args.map zG.V⟩)
def zfm(l:List qd)(ida m:Nat)(f:Bool)(c:zG)(a:Hp)(Z0:Nat)(x:O)(Y':Hp)(b:Nat):Prop:=∃r f',x=.agg r.V/\GD l ida m f' Y'/\f'=(f||JC l c)/\(f'=false->r=yZ l c)/\Z0<=b/\∀j,j<Z0->j≠ida->j≠m->Y' j=a j
def sx(l:List qd)(ida m:Nat)(c:zG):Prop:=∀(f:Bool) (Y:Hp) (Z:Nat),ida<Z->m<Z->GD l ida m f Y->Ed True prog 10 [.ref ida 0 0,.agg c.V] Y Z (zfm l ida m f c Y Z)
noncomputable abbrev Cxp:Ctx:=zW prog [(24,zi false [] db),(25,zi false [] FMn),(26,zi false [] (FCp (fun c=>.wq [int c.parts,int c.levels]) zx))]
theorem zcg:AM.Good Cxp (fun g=>[24].contains g):=qx mixed ⟨YL,fun _=>zr _ _,pw,by simp,V2 zx,by simp,trivial⟩
def zaI(l:List qd)(ida m:Nat)(f:Bool)(c:zG)(a:Hp)(Z0:Nat)(x:O)(Y':Hp)(b:Nat):Prop:=∃r f' y Y2,AM.freeze Y' x=some (y,Y2)/\qg y (.agg r.V)/\GD l ida m f' Y2/\f'=(f||JC l c)/\(f'=false->r=yZ l c)/\Z0<=b/\∀j,j<Z0->j≠ida->j≠m->Y2 j=a j
instance:Inhabited zG:=⟨.mk 0 [] 0 [] [] [] []⟩
theorem zch(Y:Hp):AM.freeze Y (.agg yG)=some (.agg yG,Y):=by simp
theorem LH{l:List qd}{c:zG}(d:c.kind≠5)(b:c.args=[]):yZ l c=c:=by
 rw[iL,zc d,b];cases c with
 |mk k a o v p n l'=>simp only[zG.args]at b;subst b;rfl
theorem YY.GF(Y:Hp)(lo Z:Nat)(r:zG):YY Y lo Z r.V r:=⟨_,zI r,.inl rfl⟩
theorem YY.same{Y Y':Hp}{lo Z a:Nat}{cs:zb}{r:zG}(h:YY Y lo Z cs r)(i:Z<=a)(c:∀j,lo<=j->j<Z->Y' j=Y j):YY Y' lo a cs r:=by obtain⟨o,e,h⟩:=h;refine⟨o,e,h.imp id fun⟨id,b,d,f,g⟩=>⟨id,b,by omega,f,by rw[c id b d];exact g⟩⟩
theorem YY.cells{Y:Hp}{lo Z:Nat}{cs:zb}{r:zG}(h:YY Y lo Z cs r):cs.length=7/\cs.all O.wH=true/\∃o,cs=[int r.kind,str r.attr,int r.op,.sl 5 (r.qZ.map zZ.V),str r.pat,str r.name,o]/\o.wH=true:=by
 obtain⟨o,rfl,h⟩:=h;have a:o.wH=true:=by rcases h with rfl|⟨_,_,_,rfl,_⟩<;>rfl
 refine⟨rfl,?_,o,rfl,a⟩;rcases h with rfl|⟨_,_,_,rfl,_⟩<;>rfl
theorem YY.HY{Y:Hp}{lo Z:Nat}{cs:zb}{r:zG}(h:YY Y lo Z cs r):∃Y2,qa Y (.agg cs)=some (.agg r.V,Y2)/\∀j,j<lo->Y2 j=Y j:=by
 obtain⟨o,rfl,h⟩:=h;rcases h with rfl|⟨id,b,c,rfl,a⟩
 ·exact⟨Y,by rw[<-zI];exact x0 Y r,fun _ _=>rfl⟩
 ·refine⟨qt Y id none,?_,fun j d=>zm _ _ _ _ (by omega)⟩;rw[zI r];simp[a];exact qe (by simp)
theorem YY.measure{Y:Hp}{lo Z:Nat}{cs:zb}{r:zG}(h:YY Y lo Z cs r){out:zG->O}(c:(out r).flat=true)(a:r.parts<=zx)(b:Nat):zi false [] (FCp out zx) [.agg cs] Y b=some (out r,Y,b):=by obtain⟨Y2,d,_⟩:=h.HY;exact yk (Y1:=Y2) (by simp only[zw,d]) (E6 out zx r ⟨a,a⟩) (.inl c)
def zfn(l:List qd)(ida m:Nat)(c:zG)(a:Hp)(Z0:Nat)(U:Nat->O)(Y:Hp)(Z:Nat):Prop:=
 ∃r f',U 0=.ref ida 0 0/\U 3=.ref Z0 0 0/\U 4=.ref (Z0+1) 0 0/\Z0+2<=Z/\(∃cs,Y Z0=some ⟨26,7,false,[cs]⟩/\YY Y (Z0+2) Z cs r)/\Y (Z0+1)=some ⟨26,7,false,[yG]⟩/\GD l ida m f' Y/\(f'=false->r=yZ l c/\r.parts<=zx)/\(f'=true->JC l c=true)/\∀j,j<Z0->j≠ida->j≠m->Y j=a j
theorem nI{l:List qd}{ida m:Nat}{c r:zG}{Y f Y1:Hp}{Z Z0:Nat}{cs:zb}{f':Bool}(hi:ida<Z0)(p:m<Z0)(g:YY Y (Z0+2) Z cs r)(hs:∀j,Z0+2<=j->Y1 j=Y j)(i:GD l ida m f' Y1)(d:f'=JC l c)(k:f'=false->r=yZ l c)(q:Z0+2<=Z)(hF:∀j,j<Z0->j≠ida->j≠m->Y1 j=f j):zaI l ida m false c f Z0 (.agg cs) Y1 Z:=by obtain⟨Y2,n,e⟩:=(g.same (ze _) fun j h _=>hs j h).HY;exact⟨r,f',_,Y2,n,.refl _,i.same (e ida (by omega)) (e m (by omega)),by simpa using d,k,by omega,fun j o a b=>(e j (by omega)).trans (hF j o a b)⟩
def SegJ(l:List qd)(ida m:Nat)(c:zG)(s:qd)(b:Hp)(Z0:Nat)(U:Nat->O)(Y:Hp)(Z:Nat):Prop:=∃(a:zG) (f':Bool),U 0=.ref ida 0 0/\U 3=.ref Z0 0 0/\U 4=.ref (Z0+1) 0 0/\U 7=.ref (Z0+2) 0 0/\Z0+3<=Z/\Y (Z0+2)=some ⟨26,7,false,[(jA s a).V]⟩/\Y Z0=some ⟨26,7,false,[c.V]⟩/\Y (Z0+1)=some ⟨26,7,false,[yG]⟩/\GD l ida m f' Y/\f'=JC l s.cond/\(f'=false->a=yZ l s.cond)/\∀j,j<Z0->j≠ida->j≠m->Y j=b j
def MD(l:List qd)(ida m:Nat)(c:zG)(a:Hp)(Z0 k:Nat)(U:Nat->O)(Y:Hp)(Z:Nat):Prop:=∃(rs:List zG) (f':Bool),U 0=.ref ida 0 0/\U 3=.ref Z0 0 0/\U 4=.ref (Z0+1) 0 0/\U 9=.own (Z0+2) 0 c.args.length/\Z0+3<=Z/\rs.length=k/\Y (Z0+2)=some ⟨26,7,true,rs.map zG.V++List.replicate (c.args.length-k) yG⟩/\Y Z0=some ⟨26,7,false,[c.V]⟩/\Y (Z0+1)=some ⟨26,7,false,[yG]⟩/\GD l ida m f' Y/\(f'=false->rs=(c.args.take k).map (yZ l)/\∀r∈rs,r.parts<=200)/\(f'=true->JC l c=true)/\∀j,j<Z0->j≠ida->j≠m->Y j=a j
theorem MD.jx{l:List qd}{ida m:Nat}{c:zG}{b:Hp}{Z0 k:Nat}{U a:Nat->O}{Y:Hp}{Z:Nat}(h:MD l ida m c b Z0 k U Y Z)(d:a 0=U 0)(e:a 3=U 3)(f:a 4=U 4)(g:a 9=U 9):MD l ida m c b Z0 k a Y Z:=by obtain⟨rs,f',i,j,n,o,h⟩:=h;exact⟨rs,f',d.trans i,e.trans j,f.trans n,g.trans o,h⟩
theorem TP{α:Type}{xs:List α}{z v:α}{m:Nat}:(xs++List.replicate (m+1) z).set xs.length v=xs++[v]++List.replicate m z:=by rw[List.set_append_right _ _ (ze _)];simp[List.replicate_succ]
theorem TQ{l:List qd}(hok:Qa l)(hl:Qb l<=zx){ida m:Nat}(hne:ida≠m)(c:zG)(hc:c.cb<=1048576)(hg5:∀n∈c.names,yx l n=true)
  (hsub:c.kind≠5->∀y∈c.args,sx l ida m y) (hseg:c.kind=5->∀s,l[wS l c.name]?=some s->sx l ida m s.cond)
  (f:Bool) (Y0:Hp) (Z0:Nat) (hi:ida<Z0) (hm:m<Z0) (hR:GD l ida m f Y0) {code:Code} (hcd:f10.body=some code) :
  Wp True Cxp f10.ntmps code ⟨jL [.ref ida 0 0,.agg c.V],Y0,Z0⟩ (Yx Cxp.P f10 (zaI l ida m f c Y0 Z0)):=by
 have A:=zcg;have hlim:zx=268435456:=rfl;have hnm:=yU c;have Ea:=xG c;have hal:=ju c.args;injection hcd with hcd
 subst hcd;refine Wp.cut A (fun U Y Z=>U 0=.ref ida 0 0/\U 3=.ref Z0 0 0/\U 4=.ref (Z0+1) 0 0/\Y=qt (qt Y0 Z0 (some ⟨26,7,false,[c.V]⟩)) (Z0+1) (some ⟨26,7,false,[yG]⟩)/\Z=Z0+2) (by kernel_rfl) (by simp) ?_;rintro U Y Z ⟨q,t,u,hhp,rfl⟩;have I:Y Z0=some ⟨26,7,false,[c.V]⟩:=by rw[hhp,zm _ _ _ _ (by omega)];simp
 have hZ:Y (Z0+1)=some ⟨26,7,false,[yG]⟩:=by rw[hhp];simp
 have hF:∀j,j<Z0->Y j=Y0 j:=fun j B=>by rw[hhp,zm _ _ _ _ (by omega),zm _ _ _ _ (by omega)]
 have S:GD l ida m f Y:=hR.same (hF _ hi) (hF _ hm);clear hhp hR;by_cases hf:f=true
 ·subst hf;obtain⟨X,M,e2,_⟩:=id S;simp only[hV]at X;have n1:¬ida=Z0+1:=by omega
  refine Wp.cut A (fun _ _ _=>False) (by kernel_rfl) ?_ (fun _ _ _ h=>h.elim);simp[q,u,X,hZ,n1,zS,qn,f10];exact⟨_,true,_,_,zch _,kJ,S.same (zm _ _ _ _ (by omega)) (zm _ _ _ _ (by omega)),by simp,by simp,by omega,fun j B _ _=>by rw[zm _ _ _ _ (by omega)];exact hF j B⟩
 obtain rfl:f=false:=by simpa using hf
 refine Wp.cut A (fun g Y' w=>g 0=.ref ida 0 0/\g 3=.ref Z0 0 0/\g 4=.ref (Z0+1) 0 0/\Y=Y'/\Z0+2=w) (by kernel_rfl) ?_ ?_
 ·obtain⟨X,M,e2,_⟩:=id S;simp only[hV]at X;simp[q,t,u,X]
 clear q t u U;rintro U _ _ ⟨q,t,u,rfl,rfl⟩;refine Wp.seq (Wp.mono (K:=fun e st=>e=.normal/\zfn l ida m c Y0 Z0 st.U st.Y st.Z) ?_ ?_)
 ·refine Wp.cut A (fun g Y' w=>g 0=.ref ida 0 0/\g 3=.ref Z0 0 0/\g 4=.ref (Z0+1) 0 0/\g 21=q8 (c.kind==5)/\Y=Y'/\Z0+2=w) (by kernel_rfl) (by simp[q,t,u,I]) ?_;clear q t u U;rintro U _ _ ⟨q,t,u,h21,rfl,rfl⟩;refine Wp.cond (b:=c.kind==5) (by simp[AM.get,h21]) ?_;by_cases k5:c.kind=5
  ·rw[zf (by simpa using k5)];obtain⟨X,M,e2,e3⟩:=id S;have e3:=e3 rfl;have h5n:=hg5 c.name (by rw[hnm,zf k5];simp);have hix:=ZU h5n;obtain⟨i,hii⟩:=jj (wS l c.name);have R:yZ l c=exM l i:=by rw[iL,zf k5,hii]
   rw[hii]at hix;obtain⟨s,hs⟩:=jj (l[i]);have hsi:l[i]?=some s:=by rw[zj hix,hs]
   have J:=zcc hok hix;rw[hs]at J;have Gy:=xI (zz hsi);have hsz:=bM s (yZ l s.cond);rw[<-J,<-R]at hsz;have g1:=fun Y Z=>YK l c.name Y Z (by have:=xJ l;omega)
   have hhas:(Kf (l.map qd.name) c.name).2=true:=h5n;have hidx:(Kf (l.map qd.name) c.name).1=i:=hii;rw[hhas,hidx]at g1;have hCS:=hseg k5 s (by rw[hii];exact hsi);have e1':=X;simp only[hV]at e1';refine Wp.cut A (fun g Y' w=>g 0=.ref ida 0 0/\g 3=.ref Z0 0 0/\g 4=.ref (Z0+1) 0 0/\g 5=int i/\Y=Y'/\Z0+2=w) (by kernel_rfl) (by simp[q,t,u,e1',I,g1]) ?_;clear q t u h21 U;rintro U _ _ ⟨q,t,u,T,rfl,rfl⟩;rcases zcf i e2 with⟨c',hmem,hlk⟩|hlk
   ·obtain⟨q1,q2⟩:=e3 _ hmem;simp only at q1 q2;refine Wp.cut A (fun g Y' w=>g 0=.ref ida 0 0/\g 3=.ref Z0 0 0/\g 4=.ref (Z0+1) 0 0/\g 7=.ref (Z0+2) 0 0/\g 8=q8 true/\qt Y (Z0+2) (some ⟨26,7,false,[c'.V]⟩)=Y'/\Z0+3=w) (by kernel_rfl) (by simp[q,t,u,T,e1',hlk]) ?_;clear q t u T U;rintro U _ _ ⟨q,t,u,h7,h8,rfl,rfl⟩;refine Wp.seq (Wp.cut A (fun g Y' w=>g 0=.ref ida 0 0/\g 3=.ref Z0 0 0/\g 4=.ref (Z0+1) 0 0/\g 7=.ref (Z0+2) 0 0/\g 42=q8 false/\qt Y (Z0+2) (some ⟨26,7,false,[c'.V]⟩)=Y'/\Z0+3=w) (by kernel_rfl) (by simp[q,t,u,h7,h8]) ?_);clear q t u h7 h8 U;rintro U _ _ ⟨q,t,u,h7,h42,rfl,rfl⟩;refine Wp.cond (b:=false) (by simp[AM.get,h42]) ?_;rw[zc (by decide)];refine Wp.of A (by kernel_rfl) ?_;simp only[ct,Ji];refine Wp.of A (by kernel_rfl) ?_;have m1:¬Z0=Z0+2:=by omega
    simp[t,h7,I];exact⟨c',false,by simp[q],by simp[t],by simp[u],by omega,⟨_,by simp,YY.GF _ _ _ _⟩,by rw[zm _ _ _ _ (by omega),zm _ _ _ _ (by omega)];exact hZ,S.same (by rw[zm _ _ _ _ (by omega),zm _ _ _ _ (by omega)]) (by rw[zm _ _ _ _ (by omega),zm _ _ _ _ (by omega)]),fun _=>⟨by rw[R,q1],by omega⟩,(fun h=>by cases h),fun j B _ _=>by rw[zm _ _ _ _ (by omega),zm _ _ _ _ (by omega)];exact hF j B⟩
   refine Wp.cut A (fun g Y' w=>g 0=.ref ida 0 0/\g 3=.ref Z0 0 0/\g 4=.ref (Z0+1) 0 0/\g 5=int i/\g 7=.ref (Z0+2) 0 0/\g 8=q8 false/\qt Y (Z0+2) (some ⟨26,7,false,[yG]⟩)=Y'/\Z0+3=w) (by kernel_rfl) (by simp[q,t,u,T,e1',hlk]) ?_;clear q t u T U;rintro U Y1 _ ⟨q,t,u,T,h7,h8,rfl,rfl⟩;obtain⟨Y1,hhp1⟩:=jj (qt Y (Z0+2) (some ⟨26,7,false,[yG]⟩));rw[hhp1];have p0:∀j,j≠Z0+2->Y1 j=Y j:=fun j B=>by rw[<-hhp1,zm _ _ _ _ B]
   have p2:Y1 (Z0+2)=some ⟨26,7,false,[yG]⟩:=by rw[<-hhp1];simp
   have hE1:GD l ida m false Y1:=S.same (p0 _ (by omega)) (p0 _ (by omega));refine Wp.seq (Wp.mono (K:=fun e st=>e=.normal/\SegJ l ida m c s Y0 Z0 st.U st.Y st.Z) ?_ ?_)
   ·refine Wp.cut A (fun g Y' w=>g 0=.ref ida 0 0/\g 3=.ref Z0 0 0/\g 4=.ref (Z0+1) 0 0/\g 5=int i/\g 7=.ref (Z0+2) 0 0/\g 42=q8 true/\Y1=Y'/\Z0+3=w) (by kernel_rfl) (by simp[q,t,u,T,h7,h8]) ?_;clear q t u T h7 h8 U;rintro U _ _ ⟨q,t,u,T,h7,h42,rfl,rfl⟩;refine Wp.cond (b:=true) (by simp[AM.get,h42]) ?_;rw[zf rfl];have hmn:=fun(r:zG) Y Z=>O4 s r Y Z (by omega)
    refine Wp.seq (Wp.zac (α:=zG×Bool) A mixed (n:=18) rfl (by kernel_rfl) (by kernel_rfl) 16 (by decide) (fun i=>43+i) (fun a k=>match k with
      | 0=>.ref ida 0 0|1=>.ref ida 0 0|2=>.ref ida 0 0|3=>.sl 10 (l.map qd.V)|4=>int i|5=>.ptr s.V|6=>.agg s.V|7=>.ref ida 0 0|8=>.ref ida 0 0|9=>.ref ida 0 0|10=>.ref ida 0 0|11=>.sl 10 (l.map qd.V)|12=>int i|13=>.ptr s.V|14=>.ptr (s.V.drop 3)|15=>.agg s.cond.V|16=>.agg a.1.V|_=>.agg (jA s a.1).V)
     (fun i j _ _ h=>by omega) (fun i hi=>by show 43+i<109;omega) ?_ (fun a Y' w=>Z0+3<=w/\GD l ida m a.2 Y'/\a.2=JC l s.cond/\(a.2=false->a.1=yZ l s.cond)/\∀j,j<Z0+3->j≠ida->j≠m->Y' j=Y1 j) ?_ ?_ ?_)
    ·intro i hi;have:i=0\/i=1\/i=2\/i=3\/i=4\/i=5\/i=6\/i=7\/i=8\/i=9\/i=10\/i=11\/i=12\/i=13\/i=14\/i=15\/i=16\/i=17:=by omega
     rcases this with rfl|rfl|rfl|rfl|rfl|rfl|rfl|rfl|rfl|rfl|rfl|rfl|rfl|rfl|rfl|rfl|rfl|rfl<;>exact⟨_,rfl,rfl⟩
    ·intro a ls F Y2 iS k hk hic hcl E H hph;have G:∃b,Y2 ida=some (hV l m b):=by
      rcases hph with⟨_,rfl,_⟩|⟨_,_,h,_⟩
      ·exact⟨_,hE1.1⟩
      ·exact⟨_,h.1⟩
     obtain⟨b,G⟩:=G;simp only[hV]at G;have q:F 0=.ref ida 0 0:=by rw[H.rest 0 (fun j _=>by show 43+j≠0;omega)];exact q
     have T:F 5=int i:=by rw[H.rest 5 (fun j _=>by show 43+j≠5;omega)];exact T
     have:k=0\/k=1\/k=2\/k=3\/k=4\/k=5\/k=6\/k=7\/k=8\/k=9\/k=10\/k=11\/k=12\/k=13\/k=14\/k=15\/k=16\/k=17:=by omega
     rcases this with rfl|rfl|rfl|rfl|rfl|rfl|rfl|rfl|rfl|rfl|rfl|rfl|rfl|rfl|rfl|rfl|rfl|rfl
     ·exact⟨_,rfl,(jg _ _ _ _ _ _ _ _).trans (by simp[q])⟩
     ·have v0:=H.done 0 (by decide) (xx E rfl ⟨0,.data⟩ (by simp) rfl);simp at v0;exact⟨_,rfl,(jg _ _ _ _ _ _ _ _).trans (by simp[v0])⟩
     ·have v1:=H.done 1 (by decide) (xx E rfl ⟨1,.data⟩ (by simp) rfl);simp at v1;exact⟨_,rfl,(jg _ _ _ _ _ _ _ _).trans (by simp[v1])⟩
     ·have v2:=H.done 2 (by decide) (xx E rfl ⟨2,.data⟩ (by simp) rfl);simp at v2;exact⟨_,rfl,(jg _ _ _ _ _ _ _ _).trans (by simp[v2,G])⟩
     ·exact⟨_,rfl,(jg _ _ _ _ _ _ _ _).trans (by simp[T])⟩
     ·have v3:=H.done 3 (by decide) (xx E rfl ⟨3,.data⟩ (by simp) rfl);simp at v3;have v4:=H.done 4 (by decide) (xx E rfl ⟨4,.data⟩ (by simp) rfl);simp at v4;exact⟨_,rfl,(jg _ _ _ _ _ _ _ _).trans (by simp[v3,v4,hix,hs])⟩
     ·have v5:=H.done 5 (by decide) (xx E rfl ⟨5,.data⟩ (by simp) rfl);simp at v5;exact⟨_,rfl,(jg _ _ _ _ _ _ _ _).trans (by simp[v5,wE])⟩
     ·exact⟨_,rfl,(jg _ _ _ _ _ _ _ _).trans (by simp[q])⟩
     ·exact⟨_,rfl,(jg _ _ _ _ _ _ _ _).trans (by simp[q])⟩
     ·have v8:=H.done 8 (by decide) (xx E rfl ⟨8,.data⟩ (by simp) rfl);simp at v8;exact⟨_,rfl,(jg _ _ _ _ _ _ _ _).trans (by simp[v8])⟩
     ·have v9:=H.done 9 (by decide) (xx E rfl ⟨9,.data⟩ (by simp) rfl);simp at v9;exact⟨_,rfl,(jg _ _ _ _ _ _ _ _).trans (by simp[v9])⟩
     ·have v10:=H.done 10 (by decide) (xx E rfl ⟨10,.data⟩ (by simp) rfl);simp at v10;exact⟨_,rfl,(jg _ _ _ _ _ _ _ _).trans (by simp[v10,G])⟩
     ·exact⟨_,rfl,(jg _ _ _ _ _ _ _ _).trans (by simp[T])⟩
     ·have v11:=H.done 11 (by decide) (xx E rfl ⟨11,.data⟩ (by simp) rfl);simp at v11;have v12:=H.done 12 (by decide) (xx E rfl ⟨12,.data⟩ (by simp) rfl);simp at v12;exact⟨_,rfl,(jg _ _ _ _ _ _ _ _).trans (by simp[v11,v12,hix,hs])⟩
     ·have v13:=H.done 13 (by decide) (xx E rfl ⟨13,.data⟩ (by simp) rfl);simp at v13;exact⟨_,rfl,(jg _ _ _ _ _ _ _ _).trans (by simp[v13])⟩
     ·have v14:=H.done 14 (by decide) (xx E rfl ⟨14,.data⟩ (by simp) rfl);simp at v14;exact⟨_,rfl,(jg _ _ _ _ _ _ _ _).trans (by simp[v14,wE])⟩
     ·exact absurd rfl hic
     ·have v6:=H.done 6 (by decide) (xx E rfl ⟨6,.data⟩ (by simp) rfl);simp at v6;have v16:=H.done 16 (by decide) (xx E rfl ⟨16,.data⟩ (by simp) rfl);simp at v16;exact⟨_,rfl,(jg _ _ _ _ _ _ _ _).trans (by simp[v6,v16,hmn])⟩
    ·intro ls F hcl E H ll hll;have v7:=(H default).done 7 (by decide) (xx E rfl ⟨7,.data⟩ (by simp) rfl);have v15:=(H default).done 15 (by decide) (xx E rfl ⟨15,.data⟩ (by simp) rfl);simp at v7 v15;refine vp.RI rfl (fun x hx=>by cases hx;decide) ⟨_,func10,by kernel_rfl,by kernel_rfl⟩ (vs:=[.ref ida 0 0,.agg s.cond.V]) (by simp[wU,AM.get,v7,v15]) (hCS false Y1 (Z0+3) (by omega) (by omega) hE1) ?_;rintro x Y' w ⟨r,f',rfl,q1,q2,q3,q4,q5⟩;exact hll (r,f') Y' w ⟨q4,q1,by simpa using q2,q3,q5⟩
    ·intro a F Y2 iS hv C hA ll hll;have v17:=hv 17 (by decide);simp at v17;have r0:F 0=.ref ida 0 0:=by rw[C 0 (fun j _=>by show 43+j≠0;omega)];exact q
     have r3:F 3=.ref Z0 0 0:=by rw[C 3 (fun j _=>by show 43+j≠3;omega)];exact t
     have r4:F 4=.ref (Z0+1) 0 0:=by rw[C 4 (fun j _=>by show 43+j≠4;omega)];exact u
     have r5:F 5=int i:=by rw[C 5 (fun j _=>by show 43+j≠5;omega)];exact T
     have r7:F 7=.ref (Z0+2) 0 0:=by rw[C 7 (fun j _=>by show 43+j≠7;omega)];exact h7
     obtain⟨an,aE,af,ar,aF⟩:=hA;obtain⟨ae,M2,am,aR⟩:=aE;have hb2:Y2 (Z0+2)=some ⟨26,7,false,[yG]⟩:=by rw[aF _ (by omega) (by omega) (by omega)];exact p2
     refine vp.cons (st1:=⟨F,qt Y2 (Z0+2) (some ⟨26,7,false,[(jA s a.1).V]⟩),iS⟩) A rfl (fun d hd=>by simp at hd) ((jg _ _ _ _ _ _ _ _).trans ?_) (hll _ ?_)
     ·simp[v17,r7,hb2]
     ·simp only[Ji];obtain⟨M',q1,q2⟩:=zfl (Y:=qt Y2 (Z0+2) (some ⟨26,7,false,[(jA s a.1).V]⟩)) (m:=m) i (jA s a.1) (by rw[zm _ _ _ _ (by omega)];exact am);have n2:¬ida=Z0+2:=by omega
      have ae':=ae;simp only[hV]at ae';refine Wp.of A (by kernel_rfl) ?_;simp[r0,r3,r4,r5,r7,n2,ae',q1];have pm:∀j,j≠m->j≠Z0+2->qt (qt Y2 (Z0+2) (some ⟨26,7,false,[(jA s a.1).V]⟩)) m (some (aV M')) j=Y2 j:=fun j a b=>by rw[zm _ _ _ _ a,zm _ _ _ _ b]
      refine⟨a.1,a.2,by simp[r0],by simp[r3],by simp[r4],by simp[r7],an,by rw[zm _ _ _ _ (by omega)];simp,by rw[pm _ (by omega) (by omega),aF _ (by omega) (by omega) (by omega),p0 _ (by omega)];exact I,by rw[pm _ (by omega) (by omega),aF _ (by omega) (by omega) (by omega),p0 _ (by omega)];exact hZ,⟨by rw[pm _ hne (by omega)];exact ae,M',by simp,fun h p Y=>?_⟩,af,ar,fun j B b1 b2=>by rw[pm _ b2 (by omega),aF _ (by omega) b1 b2,p0 _ (by omega)];exact hF j B⟩;rcases q2 p Y with Y|rfl
      ·exact aR h p Y
      ·have G:JC l s.cond=false:=by rw[<-af];exact h
       unfold JC at G;simp at G;have hz:=bM s (yZ l s.cond);rw[ar h];exact⟨J.symm,by simp only;omega⟩
   ·rintro e ⟨U,Y,Z⟩ ⟨rfl,r',f',g0,L,W,g7,gnx,gm,gC,gZ,gE,gf,gr,gF⟩;simp only at g0 L W g7 gnx gm gC gZ gE gF;simp only[Ji];refine Wp.of A (by kernel_rfl) ?_;have m1:¬Z0=Z0+2:=by omega
    simp[L,g7,gC,gm];exact⟨jA s r',f',by simp[g0],by simp[L],by simp[W],by omega,⟨_,by simp,YY.GF _ _ _ _⟩,by rw[zm _ _ _ _ (by omega)];exact gZ,gE.same (by rw[zm _ _ _ _ (by omega)]) (by rw[zm _ _ _ _ (by omega)]),fun h=>⟨by rw[R,J,gr h],by
     have G:JC l s.cond=false:=by rw[<-gf];exact h
     unfold JC at G;rw[gr h,<-J,<-R];simp at G;omega⟩,fun h=>by
     have G:JC l s.cond=true:=by rw[<-gf];exact h
     unfold JC at G⊢;simp at G⊢;omega,fun j B a b=>by rw[zm _ _ _ _ (by omega)];exact gF j B a b⟩
  ·rw[zc (by simpa using k5)];have hCS:=hsub k5;by_cases hn:c.args.length=0
   ·have ha:c.args=[]:=qj.1 hn;refine Wp.cut A (fun g Y' w=>g 0=.ref ida 0 0/\g 3=.ref Z0 0 0/\g 4=.ref (Z0+1) 0 0/\g 71=q8 false/\Y=Y'/\Z0+2=w) (by kernel_rfl) (by simp[q,t,u,I,ha]) ?_;clear q t u h21 U;rintro U _ _ ⟨q,t,u,h71,rfl,rfl⟩;refine Wp.cond (b:=false) (by simp[AM.get,h71]) ?_;rw[zc (by decide)];refine Wp.of A (by kernel_rfl) ?_;simp only[ct];exact⟨trivial,c,false,q,t,u,ze _,⟨_,I,.GF _ _ _ _⟩,hZ,S,fun _=>⟨(LH k5 ha).symm,by rw[QX,ha];simp[wI,zx]⟩,(fun h=>by cases h),fun j B _ _=>hF j B⟩
   have m1:c.args.length<=maxLen:=by unfold maxLen;omega
   have m2:c.args.length*112<=140737488355328:=by omega
   have Mz:(0:Int)<(c.args.length:Int):=by omega
   refine Wp.cut A (fun g Y' w=>g 0=.ref ida 0 0/\g 3=.ref Z0 0 0/\g 4=.ref (Z0+1) 0 0/\g 71=q8 true/\Y=Y'/\Z0+2=w) (by kernel_rfl) (by simp[q,t,u,I];omega) ?_;clear q t u h21 U;rintro U _ _ ⟨q,t,u,h71,rfl,rfl⟩;refine Wp.cond (b:=true) (by simp[AM.get,h71]) ?_;rw[zf rfl];refine Wp.cut A (fun g Y' w=>g 0=.ref ida 0 0/\g 3=.ref Z0 0 0/\g 4=.ref (Z0+1) 0 0/\g 9=.own (Z0+2) 0 c.args.length/\qt Y (Z0+2) (some ⟨26,7,true,List.replicate c.args.length yG⟩)=Y'/\Z0+3=w) (by kernel_rfl) (by simp[q,t,u,I,ZM,m1,m2]) ?_;clear q t u h71 U;rintro U _ _ ⟨q,t,u,h9,rfl,rfl⟩;refine Wp.seq (Wp.mono (K:=fun e st=>e=.normal/\MD l ida m c Y0 Z0 c.args.length st.U st.Y st.Z) ?_ ?_)
   ·refine Wp.cut A (fun g Y' w=>MD l ida m c Y0 Z0 0 g Y' w/\g 77=.sl 7 (c.args.map zG.V)/\g 78=int c.args.length/\g 79=int 0) (by kernel_rfl) ?_ ?_
    ·have n1:¬Z0=Z0+2:=by omega
     simp[t,n1,I];exact⟨[],false,by simp[q],by simp[t],by simp[u],by simp[h9],by omega,rfl,by simp,by rw[zm _ _ _ _ (by omega)];exact I,by rw[zm _ _ _ _ (by omega)];exact hZ,S.same (zm _ _ _ _ (by omega)) (zm _ _ _ _ (by omega)),fun _=>⟨by simp,by simp⟩,(fun h=>by cases h),fun j B _ _=>by rw[zm _ _ _ _ (by omega)];exact hF j B⟩
    clear q t u h9 U;rintro U Y1 Z ⟨hJ,h77,N,Q⟩;refine Wp.block (Wp.loop (fun rem st=>∃k,k+rem=c.args.length/\st.U 77=.sl 7 (c.args.map zG.V)/\st.U 78=int c.args.length/\st.U 79=int k/\MD l ida m c Y0 Z0 k st.U st.Y st.Z) c.args.length ⟨0,by simp,h77,N,Q,hJ⟩ ?_);clear hJ h77 N Q Y1 U Z;rintro rem ⟨U,Y1,Z⟩ ⟨k,hkn,h77,N,Q,hJ⟩;simp only at h77 N Q hJ;by_cases hlt:k<c.args.length
    ·obtain⟨y,hy⟩:=jj (c.args[k]);have hym:y∈c.args:=by rw[<-hy];exact zk hlt
     obtain⟨rs,f',q,t,u,h9,hnx,U4,hA,hC1,hZ1,hE1,E,hbig,hF1⟩:=hJ;refine Wp.cut A (fun g Y' w=>qt U 80 (q8 true)=g/\Y1=Y'/\Z=w) (by kernel_rfl) (by simp[N,Q,hlt]) ?_;rintro _ _ _ ⟨rfl,rfl,rfl⟩;refine Wp.cut A (fun g Y' w=>qt U 80 (q8 true)=g/\Y1=Y'/\Z=w) (by kernel_rfl) (by simp) ?_;rintro _ _ _ ⟨rfl,rfl,rfl⟩;refine Wp.seq (Wp.block ?_);refine Wp.cut A (fun g Y' w=>g 0=.ref ida 0 0/\g 3=.ref Z0 0 0/\g 4=.ref (Z0+1) 0 0/\g 9=.own (Z0+2) 0 c.args.length/\g 77=.sl 7 (c.args.map zG.V)/\g 78=int c.args.length/\g 79=int k/\g 10=int k/\g 11=.ref Z 0 0/\qt Y1 Z (some ⟨26,7,false,[y.V]⟩)=Y'/\Z+1=w) (by kernel_rfl) (by simp[q,t,u,h9,h77,N,Q,hlt,hy]) ?_;rintro σ1 _ _ ⟨g0,L,W,g9,g77,g78,g79,g10,g11,rfl,rfl⟩;refine Wp.region ?_;show vp True Cxp _ _ (List.range' 0 4++(4::(List.range' 5 2++[]))) _ _;refine vp.Wj A 0 4 (by decide) (by decide) ?_;simp[g0,g9,g10,g11];refine vp.RI rfl (fun x hx=>by cases hx;decide) ⟨_,func10,by kernel_rfl,by kernel_rfl⟩ (vs:=[.ref ida 0 0,.agg y.V]) (by simp[wU,AM.get]) (hCS y hym f' (qt Y1 Z (some ⟨26,7,false,[y.V]⟩)) (Z+1) (by omega) (by omega) (hE1.same (zm _ _ _ _ (by omega)) (zm _ _ _ _ (by omega)))) ?_;rintro x Y2 iS ⟨r,f2,rfl,q1,q2,q3,q4,q5⟩;have hA2:Y2 (Z0+2)=some ⟨26,7,true,rs.map zG.V++List.replicate (c.args.length-k) yG⟩:=by rw[q5 _ (by omega) (by omega) (by omega),zm _ _ _ _ (by omega)];exact hA
     obtain⟨D,hrem⟩:∃D,c.args.length-k=D+1:=⟨c.args.length-k-1,by omega⟩;rw[hrem]at hA2;have hget:(rs.map zG.V++List.replicate (D+1) yG)[k]?=some yG:=by rw[zQ (by simp;omega)];simp[U4]
     have hset:(rs.map zG.V++List.replicate (D+1) yG).set k r.V=(rs++[r]).map zG.V++List.replicate D yG:=by have:=TP (xs:=rs.map zG.V) (z:=yG) (v:=r.V) (m:=D);rw[xQ,U4]at this;rw[this];simp
     refine vp.Wj (l2:=[]) A 5 2 (by decide) (by decide) ?_;simp[hA2,hlt,hget,hset,put];refine vp.nil ?_;simp only[lJ,aG,Ji];have hw:=qH k;refine Wp.of A (by kernel_rfl) ?_;simp[g77,g78,g79,hw];refine⟨rem-1,by omega,k+1,by omega,by simp,rs++[r],f2,by simp[g0],by simp[L],by simp[W],by simp[g9],by omega,by simp[U4],?_,?_,?_,q1.same (zm _ _ _ _ (by omega)) (zm _ _ _ _ (by omega)),fun h=>?_,fun h=>?_,fun j B a b=>?_⟩
     ·rw[show c.args.length-(k+1)=D by omega];simp
     ·rw[zm _ _ _ _ (by omega),q5 _ (by omega) (by omega) (by omega),zm _ _ _ _ (by omega)];exact hC1
     ·rw[zm _ _ _ _ (by omega),q5 _ (by omega) (by omega) (by omega),zm _ _ _ _ (by omega)];exact hZ1
     ·rw[q2,wy]at h;obtain⟨a1,a2⟩:=E h.1;have G:=h.2;unfold JC at G;simp at G;rw[q3 (by rw[q2,h.1,h.2];rfl),ql hlt,hy,a1];refine⟨by simp,fun x hx=>?_⟩;rcases zF.1 hx with hx|hx
      ·exact a2 x (by rw[a1];exact hx)
      ·rw[qB.1 hx];exact G
     ·rw[q2,qF]at h;rcases h with h|h
      ·exact hbig h
      ·have:=O3 (l:=l) k5 hym;unfold JC at h⊢;simp at h⊢;omega
     ·rw[zm _ _ _ _ (by omega),q5 _ (by omega) a b,zm _ _ _ _ (by omega)];exact hF1 j B a b
    ·obtain rfl:k=c.args.length:=by omega
     refine Wp.cut A (fun g Y' w=>qt U 80 (q8 false)=g/\Y1=Y'/\Z=w) (by kernel_rfl) (by simp[N,Q]) ?_;rintro _ _ _ ⟨rfl,rfl,rfl⟩;refine Wp.cut A (fun _ _ _=>False) (by kernel_rfl) ?_ (fun _ _ _ h=>h.elim);simp;exact hJ.jx (by simp) (by simp) (by simp) (by simp)
   ·rintro e ⟨U,Y1,Z⟩ ⟨rfl,rs,f',g0,L,W,g9,gnx,grl,gA,gC,gZ,gE,gr,gbig,gF⟩;simp only at g0 L W g9 gnx gA gC gZ gE gF;simp only[Ji];refine Wp.of A (by kernel_rfl) ?_;simp[L,g9,gC];refine⟨.mk c.kind c.attr c.op c.qZ c.pat c.name rs,f',by simp[g0],by simp[L],by simp[W],by omega,⟨c.V.set 6 (.own (Z0+2) 0 c.args.length),by simp,.own (Z0+2) 0 c.args.length,by rw[zI];rfl,.inr ⟨Z0+2,by omega,by omega,by rw[<-grl];rfl,?_⟩⟩,by rw[zm _ _ _ _ (by omega)];exact gZ,gE.same (zm _ _ _ _ (by omega)) (zm _ _ _ _ (by omega)),fun h=>?_,gbig,fun j B a b=>by rw[zm _ _ _ _ (by omega)];exact gF j B a b⟩
    ·rw[zm _ _ _ _ (by omega),gA];simp[zG.args]
    ·obtain⟨a1,a2⟩:=gr h;rw[wJ]at a1;have hpb:=KP a2;refine⟨by rw[iL,zc k5,a1],?_⟩;rw[kb];omega
 ·rintro e ⟨U,Y,Z⟩ ⟨rfl,r,f',q,t,u,hnx,⟨cs,I,hH⟩,hZ,S,E,hbig,hF⟩;simp only at q t u hnx I hH hZ S hF;simp only[Ji];obtain⟨X,M,e2,e3⟩:=id S;simp only[hV]at X;obtain⟨_,_,o,hcs,hoc⟩:=hH.cells;subst hcs;have n1:¬ida=Z0:=by omega
  cases f' with
  |true=>refine Wp.cut A (fun g Y' w=>g 3=.ref Z0 0 0/\g 4=.ref (Z0+1) 0 0/\Y=Y'/\Z=w) (by kernel_rfl) (by simp[q,t,u,X]) ?_;rintro σ1 _ _ ⟨L,W,rfl,rfl⟩;refine Wp.of A (by kernel_rfl) ?_;simp[L,W,I,hZ,hoc,f10];exact nI hi hm hH (fun j B=>zm _ _ _ _ (by omega)) (S.same (zm _ _ _ _ (by omega)) (zm _ _ _ _ (by omega))) (hbig rfl).symm (fun h=>by cases h) hnx (fun j B a b=>by rw[zm _ _ _ _ (by omega)];exact hF j B a b)
  |false=>
   obtain⟨rfl,hpl⟩:=E rfl;have gm:=fun w=>hH.measure (out:=fun c=>.wq [int c.parts,int c.levels]) rfl hpl w
   by_cases G:(200:Int)<((yZ l c).parts:Int)
   ·have hbc:JC l c=true:=by unfold JC;simp;omega
    have n2:¬Z0=ida:=by omega
    have n3:¬Z0+1=ida:=by omega
    refine Wp.cut A (fun g Y' w=>g 3=.ref Z0 0 0/\g 4=.ref (Z0+1) 0 0/\qt Y ida (some (hV l m true))=Y'/\Z=w) (by kernel_rfl) (by simp[q,t,u,X,I,gm,G,hV]) ?_;rintro σ1 _ _ ⟨L,W,rfl,rfl⟩;refine Wp.of A (by kernel_rfl) ?_;simp[L,W,I,hZ,hoc,n2,n3,f10];exact nI hi hm hH (fun j B=>by rw[zm _ _ _ _ (by omega),zm _ _ _ _ (by omega)]) ⟨by rw[zm _ _ _ _ (by omega)];simp,M,by rw[zm _ _ _ _ (by omega),zm _ _ _ _ (Ne.symm hne)];exact e2,fun h=>by cases h⟩ hbc.symm (fun h=>by cases h) hnx (fun j B a b=>by rw[zm _ _ _ _ (by omega),zm _ _ _ _ a];exact hF j B a b)
   ·have hbc:JC l c=false:=by unfold JC;simp;omega
    refine Wp.cut A (fun g Y' w=>g 3=.ref Z0 0 0/\g 4=.ref (Z0+1) 0 0/\Y=Y'/\Z=w) (by kernel_rfl) (by simp[q,t,u,X,I,gm,G]) ?_;rintro σ1 _ _ ⟨L,W,rfl,rfl⟩;refine Wp.of A (by kernel_rfl) ?_;simp[L,W,I,hZ,hoc,f10];exact nI hi hm hH (fun j B=>zm _ _ _ _ (by omega)) (S.same (zm _ _ _ _ (by omega)) (zm _ _ _ _ (by omega))) hbc.symm (fun _=>rfl) hnx (fun j B a b=>by rw[zm _ _ _ _ (by omega)];exact hF j B a b)
theorem Da{l:List qd}(g:Qa l)(B:Qb l<=zx){ida m:Nat}(j:ida≠m)(n:Nat)(d:∀i s,l[i]?=some s->Co l i<n->sx l ida m s.cond)(c:zG):c.cb<=1048576->(∀a∈c.names,yx l a=true/\Co l (wS l a)<n)->sx l ida m c:=by
 induction c using zG.ind with
 |h k a o v p q l' t=>
  intro D u;have e:=yU (.mk k a o v p q l');have E:=xG (.mk k a o v p q l');intro f Y Z hi A F;refine(Ed.of (C:=Cxp) (pf:=fun _=>true) (code:=_) ⟨func10,by kernel_rfl,rfl,by kernel_rfl⟩ (by simp[f10]) (TQ g B j (.mk k a o v p q l') D (fun b w=>(u b w).1) (fun _ y z=>?_) (fun G s hs=>?_) f Y Z hi A F rfl)).shut ?_
  ·have A:=kg z;exact t y z (by omega) fun b w=>u b (by rw[e];exact zF.2 (.inr (jQ.2 ⟨y,z,w⟩)))
  ·exact d _ s hs (u _ (by rw[e,zf G];simp)).2
  ·rintro x Y' P ⟨r,f',y,Y2,H,I,J,K,L,M,N⟩;exact⟨y,Y2,.agg r.V,H,I,r,f',rfl,J,K,L,M,N⟩
theorem sy{l:List qd}(b:Qa l)(e:Qb l<=1048576){ida m:Nat}(c:ida≠m):∀(n i:Nat) (s:qd),l[i]?=some s->Co l i<n->sx l ida m s.cond
 | 0,_,_,_,h=>by omega
 |n+1,i,s,hs,h=>by
  have f:=xI (zz hs);have g:s.cb=1+s.name.length+Qh s.ins+Qh s.outs+s.cond.cb:=rfl;refine Da b (by unfold zx;omega) c n (fun i s hs j=>sy b e c n i s hs j) s.cond (by omega) fun a d=>⟨b.known s (zz hs) a d,?_⟩
  have k:wS l a∈wb l i:=by unfold wb;rw[hs];exact wo d
  have:=Jz b i _ k;omega
theorem O8{l:List qd}(b:Qa l)(e:Qb l<=1048576){ida m:Nat}(d:ida≠m){c:zG}(f:c.cb<=1048576)(g:∀a∈c.names,yx l a=true):sx l ida m c:=
 Da b (by unfold zx;omega) d 101 (fun i s hs h=>sy b e d 101 i s hs h) c f fun a j=>⟨g a j,by have:=KL b (wS l a);omega⟩
def yC(n:za):List qd->Option qd
 |[]=>none
 |s::l=>if s.name=n then some s else yC n l
theorem eW:∀{L:List qd} {s:za},(∃y∈L,y.name=s)->∃j:Nat,∃h:j<L.length,yC s L=some L[j]/\L[j].name=s
 |[],s,h=>by obtain⟨y,hy,_⟩:=h;cases hy
 |x::L,s,h=>by
  by_cases a:x.name=s
  ·exact⟨0,by simp,by simp[yC,a],a⟩
  ·obtain⟨y,hy,e⟩:=h;rcases zv.1 hy with rfl|hy
   ·exact absurd e a
   ·obtain⟨j,b,c,d⟩:=eW ⟨y,hy,e⟩;exact⟨j+1,by simpa using b,by simp[yC,a,c],by simpa using d⟩
theorem Xf:∀{L:List qd} {s:za},(∀y∈L,y.name≠s)->yC s L=none
 |[],s,_=>rfl
 |x::L,s,h=>by have a:=h x (by simp);simp only[yC,zc a];exact Xf fun y b=>h y (by simp[b])
theorem Yh{L:List qd}(h:dK (L.map qd.name))(s:za):(yx L s=true/\∃a:wS L s<L.length,yC s L=some L[wS L s]/\L[wS L s].name=s)\/(yx L s=false/\yC s L=none):=by
 by_cases b:∃y∈L,y.name=s
 ·obtain⟨j,a,f,d⟩:=eW b;have:=Ft h (j:=j) (s:=s) (by simp[a,d]);unfold yx wS;rw[this];exact .inl ⟨rfl,a,f,d⟩
 ·refine .inr ⟨?_,Xf fun y g e=>b ⟨y,g,e⟩⟩;unfold yx;cases i:(Kf (L.map qd.name) s).2 with
  |false=>rfl
  |true=>
   have:=Fs i;rw[qf]at this;cases c:L[(Kf (L.map qd.name) s).1]? with
   |none=>rw[c]at this;cases this
   |some y=>rw[c]at this;simp only[zA,zN]at this;exact absurd ⟨y,zz c,this⟩ b
def j5(l:List qd)(n:za):List za:=match yC n l with
 |some s=>s.cond.names
 |none=>[]
theorem nJ{l:List qd}(d:dK (l.map qd.name)){n m:za}(h:m∈j5 l n):yx l n=true/\wS l m∈wb l (wS l n)/\∃s∈l,m∈s.cond.names:=by
 unfold j5 at h;rcases Yh d n with⟨b,c,a,e⟩|⟨b,a⟩
 ·rw[a]at h;simp only at h;refine⟨b,?_,_,zk c,h⟩;unfold wb;rw[zj c];exact wo h
 ·rw[a]at h;cases h
theorem LI{l:List qd}(h:dK (l.map qd.name))(v:∀s∈l,∀n∈s.cond.names,yx l n=true):(∃s∈l,K8 (j5 l) s.cond.names s.name)↔∃i:Nat,Q5 (fun a b=>b∈wb l a) i i:=by
 constructor
 ·rintro⟨s,hs,x⟩;obtain⟨i,hi⟩:=Kd hs;have d:∀n,K8 (j5 l) s.cond.names n->Q5 (fun a b=>b∈wb l a) i (wS l n):=by
   intro n k
   induction k with
   |here o=>exact .one (by unfold wb;rw[hi];exact wo o)
   |there _ p q=>exact .tail q (nJ h p).2.1
  have:=d _ x;rw[(zb4 h hi).1]at this;exact⟨i,this⟩
 ·rintro⟨i,hi⟩;obtain⟨b,p,_⟩:=hi.head;have f:i<l.length:=by
   refine Nat.lt_of_not_le fun r=>?_
   rw[sb r]at p;cases p
  have d:∀j,Q5 (fun a b=>b∈wb l a) i j->∃n,K8 (j5 l) l[i].cond.names n/\wS l n=j/\yx l n=true:=by
   intro j g
   induction g with
   |one e=>unfold wb at e;rw[zj f]at e;obtain⟨n,k,rfl⟩:=qp.1 e;exact⟨n,.here k,rfl,v _ (zk f) n k⟩
   |tail _ e q=>
    obtain⟨n,t,rfl,u⟩:=q;rcases Yh h n with⟨_,g,c,w⟩|⟨c,_⟩
    ·unfold wb at e;rw[zj g]at e;obtain⟨m,o,rfl⟩:=qp.1 e;exact⟨m,.there t (by unfold j5;rw[c];exact o),rfl,v _ (zk g) m o⟩
    ·rw[u]at c;cases c
  obtain⟨n,t,y,u⟩:=d i hi;rcases Yh h n with⟨_,g,c,w⟩|⟨c,_⟩
  ·refine⟨l[i],zk f,?_⟩;have:l[i].name=n:=by rw[<-w];congr 1;simp only[y]
   rw[this];exact t
  ·rw[u]at c;cases c
noncomputable abbrev Crck:Ctx:=zW prog [(146,zi false [] (FS xv))]
theorem ia(l:List za)(h:Qh l<=zx):zt Crck f107 [.sl 1 (zH l)]=some (int (vV l)):=by
 have D:=Qy l;have z:=fun s (hs:s∈l)=>da hs
 unfold zx at h;refine zn rfl ?_;unfold vV;by_cases o:(1000:Int)<l.length
 ·rw[zf o];simp[o,f107]
 rw[zc o];simp[o];refine zT (fun k U Y Z=>U 0=.sl 1 (zH l)/\U 8=.sl 1 (zH l)/\U 9=int l.length/\U 10=int k/\J2 none l=J2 (Jh l k) (l.drop k)) l.length
  ⟨by simp,by simp,by simp,by simp,by simp[Jh]⟩ ?_
 rintro k U Y Z E ⟨f,g,i,c,a⟩;by_cases b:k<l.length
 ·have F:=qH k;obtain⟨s,hs⟩:=jj (l[k]);have d:s.length<=zx:=by have:=z s (by rw[<-hs];exact zk b);unfold zx;omega
  rw[mQ b,hs]at a;have m:Jh l (k+1)=some s:=by simp[Jh,b,hs]
  cases e:xv s
  ·rw[e,zc (by simp)]at a;simp[f,g,i,c,b,hs,d,e,a,f107]
  rw[e,zf rfl]at a;by_cases A:k=0
  ·subst A;have B:=wX 1;simp only[Jh,kP,qI,zO,wx]at a;simp[f,g,i,c,b,hs,d,e,B];exact⟨by omega,by rw[a,m];simp⟩
  ·obtain⟨j,rfl⟩:∃j,k=j+1:=⟨k-1,by omega⟩;have q:j<l.length:=by omega
   have t:IntKind.i64.wrap ((j:Int)+1-1)=(j:Int):=by rw[wQ (by omega) (by omega)];omega
   have n:=wX (j:Int);have u:((j:Int)+1).toNat=j+1:=by omega
   have v:0<(j:Int)+1:=by omega
   have w:0<=(j:Int)+1:=by omega
   have x:(j:Int)+1<l.length:=by omega
   have C:=wX ((j:Int)+1+1);have y:(Op.bytesLess s l[j]||s==l[j])=gM s l[j]:=rfl;have r:Jh l (j+1)=some l[j]:=by simp[Jh,q]
   simp only[r,kP]at a;cases p:gM s l[j]
   ·rw[p,zc (by simp)]at a;simp[f,g,i,c,b,q,hs,d,e,t,n,u,v,w,x,y,p,C];exact⟨by omega,by rw[a,m]⟩
   ·rw[p,zf rfl]at a;simp[f,g,i,c,b,q,hs,d,e,t,n,u,v,w,x,y,p,a,f107]
 ·obtain rfl:k=l.length:=by omega
  rw[zq]at a;have a:J2 none l=0:=by rw[a];rfl
  simp[f,g,i,c,a,f107]
theorem eX:zg prog 107 (zi false [] (Tl (fun l=>int (vV l)) fun l=>Qh l<=zx)):=
 Z2 (qc mixed ⟨tF,trivial⟩:AM.Good Crck _) func107 false [] fun l a=>⟨zE (ze 1) (by decide),_,ia l a,qq _⟩
def oI:qd:=⟨[],[],[],.mk 0 [] 0 [] [] [] []⟩
def F1(r:Option qd):qd:=r.getD oI
def J7(r:Option qd):O:=.wq [.agg (F1 r).V,q8 r.isSome]
noncomputable def LJ (out:List qd->za->O) (b:List qd->za->Prop):zb->Option O:=qu (α:=List qd×za) (fun a=>[.sl 10 (a.1.map qd.V),str a.2]) (fun a=>b a.1 a.2) (fun a=>out a.1 a.2)
theorem eY(out:List qd->za->O)(c:List qd->za->Prop)(l:List qd)(s:za)(Y:Hp)(Z:Nat)(h:c l s):zi false [] (LJ out c) [.sl 10 (l.map qd.V),str s] Y Z=some (out l s,Y,Z):=
 Js (l,s) _ _ (by simp) (fun a b e=>by obtain⟨g,i⟩:=a;obtain⟨j,k⟩:=b;simp only[zl,zM]at e;obtain⟨d,f⟩:=e;rw[Za d,wR f]) h (.inr rfl)
theorem Db{l:List qd}{k:Nat}(h:k<l.length)(s:za):yC s (l.drop k)=if l[k].name=s then some l[k]else yC s (l.drop (k+1)):=by rw[zh h,yC]
theorem O9:qg (.agg [str [],.nil,.nil,int 0,str [],int 0,.nil,str [],str [],.nil]) (.agg oI.V):=by rw[wE];exact qP.agg (.cons (.refl _) (.cons (.YV (.inl ⟨rfl,rfl⟩)) (.cons (.YV (.inl ⟨rfl,rfl⟩)) (.cons (.refl _) (.cons (.refl _) (.cons (.refl _) (.cons (.YV (.inl ⟨rfl,rfl⟩)) (.cons (.refl _) (.cons (.refl _) (.cons (.YV (.inl ⟨rfl,rfl⟩)) .nil))))))))))
theorem ib(l:List qd)(s:za)(h:l.length<=zx):∃o,zt C0 f33 [.sl 10 (l.map qd.V),str s]=some o/\qg o (J7 (yC s l)):=by
 unfold zx at h;refine wW rfl ?_;simp;refine zT (fun k U Y Z=>U 1=str s/\U 4=.ref 0 0 0/\U 8=.sl 10 (l.map qd.V)/\U 9=int l.length/\U 10=int k/\1<=Z/\Y 0=some ⟨56,10,false,[[str [],.nil,.nil,int 0,str [],int 0,.nil,str [],str [],.nil]]⟩/\yC s l=yC s (l.drop k)) l.length
  ⟨by simp,by simp,by simp,by simp,by simp,by simp,by simp[zS,qn],by simp⟩ ?_
 rintro k U Y Z r ⟨f,g,i,j,a,p,m,b⟩;have n1:¬0=Z:=by omega
 have c:¬Z=0:=by omega
 by_cases e:k<l.length
 ·have q:=qH k;rw[Db e]at b;by_cases d:l[k].name=s
  ·rw[zf d]at b;have n:(l[k].name==s)=true:=by simpa using d
   rw[b];simp[f,g,i,j,a,e,n,n1,c,m,f33];exact⟨J7 (some l[k]),by simp[J7,F1,wE],.refl _⟩
  ·rw[zc d]at b;have n:=yq d;simp[f,g,i,j,a,e,n,n1,c,q]
   and_intros<;>first|omega|exact b|simp[n1,c,m]
 ·obtain rfl:k=l.length:=by omega
  rw[zq]at b;rw[b];simp[f,g,i,j,a,yC,m,zS,qn,f33];refine⟨.wq [.agg [str [],.nil,.nil,int 0,str [],int 0,.nil,str [],str [],.nil],q8 false],by simp,?_⟩;exact qP.wq (.cons O9 (.cons (.refl _) .nil))
theorem Q1:zg prog 33 (zi false [] (LJ (fun l s=>J7 (yC s l)) fun l _=>l.length<=zx)):=
 xl (fn:=f33) (qx (q:=[]) mixed trivial:AM.Good C0 _) (qE func33) false [] _ fun args r h w S vs a=>by obtain⟨⟨l,s⟩,rfl,b,rfl⟩:=zK h;obtain⟨c,d,e⟩:=ib l s b;exact⟨_,c,a,zE (ze 2) (by decide),d,e⟩
def LK(n:Int):Bool:=decide (48<=n)&&decide (n<=57)
theorem Pb(c:UInt8):LK c.toNat=Kv c:=by rw[qv];simp[LK,Kv,pr];omega
theorem Xg:zg prog 261 (zi false [] (RX LK)):=
 yj (fn:=f261) jY (qE func261) false [] _ fun args r h=>by obtain⟨a,rfl,rfl⟩:=tA h;exact⟨by simp[f261],_,zn rfl (by simp[f261,LK]),qq _⟩
noncomputable abbrev Crd:Ctx:=zW prog [(261,zi false [] (RX LK))]
theorem zci:AM.Good Crd (fun g=>[261].contains g):=qx mixed ⟨Xg,fun _=>zr _ _,trivial⟩
theorem ic(l:za)(h:l.length<=zx):zt Crd f285 [str l]=some (q8 (xE l)):=by
 refine zn rfl ?_;unfold zx at h;simp;refine zT (fun k U Y Z=>U 0=str l/\U 5=int l.length/\U 6=int k/\kO l=kO (l.drop k)) l.length ⟨by simp,by simp,by simp,by simp⟩ ?_;rintro k U Y Z j ⟨e,f,g,b⟩;by_cases a:k<l.length
 ·have i:=qH k;rw[dZ a]at b;have c:=Pb l[k];cases d:Kv l[k]
  ·have b:kO l=false:=by rw[b,d];rfl
   rw[d]at c;simp[e,f,g,a,b,c,xE,f285]
  ·rw[d]at c;simp[e,f,g,a,c,i];exact⟨a,by rw[b,d];rfl⟩
 ·obtain rfl:k=l.length:=by omega
  have b:kO l=true:=by rw[b,zq];rfl
  simp[e,f,g,b,xE,f285]
theorem eZ:zg prog 285 (zi false [] (FS xE)):=
 Z2 zci func285 false [] fun l Y=>⟨by simp[f285],_,ic l Y,qq _⟩
def Jj(l:za):Bool:=l.isEmpty||(l.headD 0==48&&!(l==[48]))
theorem LL(l:za):(!Jj l&&kO l)=yA l:=by
 cases l with
 |nil=>rfl
 |cons c l=>
  cases l with
  |nil=>
   by_cases h:c=48
   ·subst h;rfl
   ·simp[Jj,yA,h]
  |cons d l=>simp[Jj,yA]
theorem uM(l:za)(t:l.length<=zx):zt C0 f260 [str l]=some (q8 (yA l)):=by
 refine zn rfl ?_;unfold zx at t;rw[<-LL];cases j:Jj l
 case true=>
  cases l with
  |nil=>simp[Jj,f260]
  |cons c l=>
   simp only[Jj,List.isEmpty_cons,List.headD_cons,kK,zC,yH,yF,yy]at j;obtain⟨rfl,j⟩:=j;have o:l.isEmpty=false:=by cases l with
    |nil=>exact absurd rfl j
    |cons d l=>rfl
   simp[o,f260]
 case false=>
  have a:l≠[]:=fun e=>by subst e;simp[Jj]at j
  have u:0<l.length:=kZ.2 a;have m:=yq a;have s:((l[0].toNat:Int)==48&&!(l==[48]))=false:=by
   cases l with
   |nil=>exact absurd rfl a
   |cons c l=>
    have v:((c.toNat:Int)==48)=(c==48):=by rw[qv];simp[<-Qi];omega
    simp only[dG,v];simpa[Jj]using j
  have p:((l[0].toNat:Int)==48&&l != [48])=false:=s;simp[m,a,u,s,p];refine zT (fun k U Y Z=>U 0=str l/\U 16=int l.length/\U 17=int k/\kO l=kO (l.drop k)) l.length ⟨by simp,by simp,by simp,by simp⟩ ?_;rintro k U Y Z x ⟨q,g,h,f⟩;by_cases b:k<l.length
  ·have w:=qH k;rw[dZ b]at f;have r:=VM 48 57 l[k];simp only[ZG]at r;cases n:Kv l[k]
   ·have f:kO l=false:=by rw[f,n];rfl
    have i:pr 48 57 l[k]=false:=n;simp[q,g,h,b,f,r,i,f260]
   ·have i:pr 48 57 l[k]=true:=n;simp[q,g,h,b,r,i,w];exact⟨b,by rw[f,n];rfl⟩
  ·obtain rfl:k=l.length:=by omega
   have f:kO l=true:=by rw[f,zq];rfl
   simp[q,g,h,f,f260]
theorem aW:zg prog 260 (zi false [] (FS yA)):=
 Z2 jY func260 false [] fun l Y=>⟨by simp[f260],_,uM l Y,qq _⟩
def aj(c:UInt8):Bool:=pr 97 122 c||pr 65 90 c||c==45
theorem sz(c:UInt8):JR c=(aj c||Kv c):=by simp only[JR,aj,Kv];cases pr 97 122 c<;>cases pr 65 90 c<;>cases pr 48 57 c<;>simp
theorem TR(c:UInt8)(h:aj c=true):Kv c=false:=by
 cases hd:Kv c with
 |false=>rfl
 |true=>
  simp only[aj,Kv,pr,qF,zC,qi,yH]at h hd;rcases h with(h|h)|rfl
  ·omega
  ·omega
  ·simp at hd
theorem LM(l:za)(h:l.all JR=true):(xb l.length 1 20&&(!(l.all fun c=>!aj c)||yA l))=!w9 l:=by
 have e:(l.all fun c=>!aj c)=kO l:=by
  induction l with
  |nil=>rfl
  |cons c l d=>
   simp only[q9,zC]at h;have a:=h.1;rw[sz]at a;rw[q9,d h.2];show _=(Kv c&&kO l);cases b:aj c
   ·rw[b,kK]at a;rw[a];rfl
   ·rw[TR c b];rfl
 rw[e];unfold w9 dY;rw[h];cases l with
 |nil=>rfl
 |cons c l=>rw[qv];simp[xb];omega
theorem F2(l:za)(h:l.all JR=false):w9 l=true:=by unfold w9 dY;rw[h];simp
noncomputable abbrev Crip:Ctx:=zW prog [(261,zi false [] (RX LK)),(187,zi false [] (F3 xb)),(260,zi false [] (FS yA))]
theorem TS:AM.Good Crip (fun g=>[261,187,260].contains g):=qx mixed ⟨Xg,fun _=>zr _ _,Zx,fun _=>zr _ _,aW,fun _=>zr _ _,trivial⟩
@[simp]theorem zdD:kN Crip 260:=jd (by rfl) (zr _ _)
theorem Dc(l:za)(q:l.length<=zx):zt Crip f231 [str l]=some (q8 (!w9 l)):=by
 refine zn rfl ?_;have f:=fun Y Z=>kA yA l Y Z q
 unfold zx at q;simp;refine zT (fun k U Y Z=>U 0=str l/\U 3=q8 ((l.take k).all fun c=>!aj c)/\U 8=int l.length/\U 9=int k/\l.all JR=(l.drop k).all JR) l.length ⟨by simp,by simp,by simp,by simp,by simp⟩ ?_;rintro k U Y Z t ⟨i,d,j,m,b⟩;by_cases a:k<l.length
 ·have r:=qH k;rw[rC a,sz]at b;have e:(decide ((97:Int)<=l[k].toNat)&&decide ((l[k].toNat:Int)<=122)||decide ((65:Int)<=l[k].toNat)&&decide ((l[k].toNat:Int)<=90)||((l[k].toNat:Int)==45))=aj l[k]:=by
   have s:((l[k].toNat:Int)==45)=(l[k]==45):=by rw[qv];simp[<-Qi];omega
   rw[s,qv];simp[aj,pr,<-Qi];omega
  have hd:=Pb l[k];have g:((l.take (k+1)).all fun c=>!aj c)=(((l.take k).all fun c=>!aj c)&&!aj l[k]):=by rw[ql a,List.all_append];simp
  obtain⟨T,p⟩:=jj ((l.take k).all fun c=>!aj c);rw[p]at d g;cases h:aj l[k]
  ·cases n:Kv l[k]
   ·rw[h,n]at b;have b:l.all JR=false:=b;have o:=F2 l b;rw[h]at e;rw[n]at hd;simp[i,d,j,m,a,e,hd,o,-List.all_eq_true,-List.all_eq_false,f231]
   ·rw[h,n]at b;rw[h]at e g;rw[n]at hd;simp[i,d,j,m,a,e,hd,r,-List.all_eq_true,-List.all_eq_false];exact⟨a,by rw[g];simp,b⟩
  ·rw[h]at b e g;simp[i,d,j,m,a,e,r,-List.all_eq_true,-List.all_eq_false];exact⟨a,by rw[g];simp,b⟩
 ·obtain rfl:k=l.length:=by omega
  have b:l.all JR=true:=by rw[b,zq];rfl
  have o:=LM l b;rw[wJ]at d;obtain⟨T,p⟩:=jj (l.all fun c=>!aj c);rw[p]at d o;simp[i,d,j,m,f,o,-List.all_eq_true,-List.all_eq_false,f231]
theorem uN:zg prog 231 (zi false [] (FS fun l=>!w9 l)):=
 Z2 TS func231 false [] fun l Y=>⟨by simp[f231],_,Dc l Y,qq _⟩
theorem uO(l:za):zt C0 f193 [str l]=some (q8 (yo l)):=by
 refine zn rfl ?_;have e:yo l=(l==[42]||l==[120]||l==[88]):=by unfold yo;cases l==[42]<;>cases l==[120]<;>cases l==[88]<;>rfl
 rw[e];cases a:(l==[42])
 ·cases b:(l==[120])
  ·simp[a,b,f193]
  ·simp[a,b,f193]
 ·simp[a,f193]
theorem pA:zg prog 193 (zi false [] (FS yo)):=
 Z2 jY func193 false [] fun l Y=>⟨by simp[f193],_,uO l,qq _⟩
noncomputable def FNm:zb->Option O:=qu (α:=za) (fun l=>[str l,int 6]) (fun l=>l.length<=zx) Jc
theorem Pc(l:za)(Y:Hp)(Z:Nat)(h:l.length<=zx):zi false [] FNm [str l,int 6] Y Z=some (.wq [int ((xO l).getD 0),q8 (xO l).isSome],Y,Z):=
 Js l _ _ rfl (fun a b e=>by simp only[zl,zM]at e;exact wR e) h (.inl rfl)
noncomputable abbrev Crnm:Ctx:=zW prog [(260,zi false [] (FS yA)),(210,zi false [] FAt)]
theorem TT:AM.Good Crnm (fun g=>[260].contains g):=qx mixed ⟨aW,fun _=>zr _ _,lY,by simp,trivial⟩
theorem uP(l:za)(f:l.length<=zx):zt Crnm f230 [str l,int 6]=some (Jc l):=by
 refine zn rfl ?_;have b:=fun Y Z=>kA yA l Y Z f
 cases a:yA l
 ·simp[b,a,Jc,xO,wc,f230]
 ·by_cases e:l.length<=6
  ·have c:¬((6:Int)<l.length):=by omega
   have g:=fun Y Z=>rD l Y Z (by omega) a
   simp[b,a,e,c,g,Jc,xO,wc,f230]
  ·have c:(6:Int)<l.length:=by omega
   have d:6<l.length:=by omega
   simp[b,a,e,d,c,Jc,xO,wc,f230]
theorem pB:zg prog 230 (zi false [] FNm):=
 Z2 TT func230 false [] fun l Y=>⟨by simp[f230],_,uP l Y,qq _⟩
noncomputable abbrev Crcp:Ctx:=zW prog [(285,zi false [] (FS xE)),(225,zi false [] (Qg tlP fun _ b=>lT b)),(37,zi false [] (NQ wA)),(38,zi false [] (IP gP)),(168,zi false [] MI)]
theorem TU:Gd Crcp:=qc mixed ⟨eZ,Yz,ZS,bp,VU,trivial⟩
theorem e8(a b:za)(g:a.length<=zx)(h:b.length<=zx):zt Crcp f277 [str a,str b]=some (int (wO a b)):=by
 refine zn rfl ?_;have c:=fun Y Z=>kA xE a Y Z g
 have d:=fun Y Z=>kA xE b Y Z h
 have j:=fun Y Z=>iB a Y Z g
 have tb:=fun Y Z=>iB b Y Z h
 have i:=uz;cases e:xE a<;>cases f:xE b
 ·simp[c,d,e,f,wO,i,f277]
 ·simp[c,d,e,f,wO,f277]
 ·simp[c,d,e,f,wO,f277]
 ·have k:∀(Y:Hp) (Z id:Nat),Y id=some ⟨3,1,true,[[int (wA (Lib.trimLeftB a 48).length (Lib.trimLeftB b 48).length)],[int (yB (Lib.trimLeftB a 48) (Lib.trimLeftB b 48))]]⟩->zi false [] MI [.own id 0 2] Y Z=some (int (Kz [wA (Lib.trimLeftB a 48).length (Lib.trimLeftB b 48).length,yB (Lib.trimLeftB a 48) (Lib.trimLeftB b 48)]),Y,Z):=fun Y Z id l=>cJ [_,_] Y Z id _ (by show 2<=zx;decide) l
  simp[c,d,j,tb,e,f,k,i,zp,zy,zo,wO,f277]
theorem dn:zg prog 277 (zi false [] (Qg (fun a b=>int (wO a b)) fun _ _=>True)):=
 yj (fn:=f277) TU (qE func277) false [] _ fun args r h=>by obtain⟨a,b,rfl,c,d,_,rfl⟩:=kB h;exact⟨by simp[f277],_,e8 a b c d,qq _⟩
noncomputable abbrev Crcv:Ctx:=zW prog [(37,zi false [] (NQ wA)),(168,zi false [] MI),(277,zi false [] (Qg (fun a b=>int (wO a b)) fun _ _=>True))]
theorem TV:AM.Good Crcv (fun g=>[37,168,277].contains g):=qx mixed ⟨ZS,fun _=>zr _ _,VU,fun _=>zr _ _,dn,fun _=>zr _ _,trivial⟩
theorem Vp(v w:wN)(W:v.small)(X:w.small):zt Crcv f262 [.agg v.V,.agg w.V]=some (int (Zy v w)):=by
 obtain⟨a,b,c,p⟩:=v;obtain⟨t,u,x,f⟩:=w;obtain⟨Y1,Y2⟩:=W;obtain⟨y,z⟩:=X;simp only at Y1 Y2 y z;refine zn rfl ?_;obtain⟨o,S⟩:=jj (Kz [wA a t,wA b u,wA c x]);have j:∀(Y:Hp) (Z id:Nat),Y id=some ⟨3,1,true,[[int (wA a t)],[int (wA b u)],[int (wA c x)]]⟩->zi false [] MI [.own id 0 3] Y Z=some (int o,Y,Z):=fun Y Z id hh=>S ▸ cJ [_,_,_] Y Z id _ (by show 3<=zx;decide) hh
 have d:Zy ⟨a,b,c,p⟩ ⟨t,u,x,f⟩=if o=0 then(if p.length=0 then(if f.length=0 then 0 else 1)else if f.length=0 then -1 else w7 wO p f)else o:=by rw[<-S];rfl
 by_cases F:o=0
 case neg=>have G:=ZX F;simp[wN.V,j,zp,zy,zo,F,G,d,f262]
 subst F;have g:(zH p).length=p.length:=by simp[zH]
 have e:(zH f).length=f.length:=by simp[zH]
 by_cases A:p.length=0
 ·have s:wA f.length 0=if f.length=0 then 0 else 1:=by unfold wA;split<;>(try split)<;>(try split)<;>first|omega|rfl
  simp[wN.V,j,zp,zy,zo,A,d,g,e,s,f262]
 by_cases H:f.length=0
 ·have n:((p.length:Int)==0)=false:=by simpa using A
  have s:wA 0 p.length=-1:=by unfold wA;rw[zf (by omega)]
  simp[wN.V,j,zp,zy,zo,A,n,H,d,g,e,s,f262]
 have n:((p.length:Int)==0)=false:=by simpa using A
 have I:((f.length:Int)==0)=false:=by simpa using H
 obtain⟨m,hm,J,K,B⟩:=uA p.length f.length;unfold zx at Y1 y;have d:Zy ⟨a,b,c,p⟩ ⟨t,u,x,f⟩=w7 wO p f:=by rw[d];simp[A,H]
 rw[d];simp[wN.V,j,zp,zy,zo,n,I,g,e,hm];refine zT (fun k U Y Z=>U 2=.ref 0 0 0/\U 3=.ref 1 0 0/\Y 0=some ⟨148,4,false,[[int a,int b,int c,.sl 1 (zH p)]]⟩/\Y 1=some ⟨148,4,false,[[int t,int u,int x,.sl 1 (zH f)]]⟩/\U 51=int m/\U 52=int k/\w7 wO p f=w7 wO (p.drop k) (f.drop k)) m
  ⟨by simp,by simp,by simp,by simp,by simp,by simp,by simp⟩ ?_
 rintro k U Y Z hk ⟨L,M,N,P,q,r,l⟩;by_cases C:k<m
 ·have h:k<p.length:=by omega
  have i:k<f.length:=by omega
  have Q:=qH k;have s:=fun Y Z=>rK p[k] f[k] Y Z (Y2 _ (zk h)) (z _ (zk i))
  have T:=VP h;have D:=VP i;rw[zh h,zh i]at l;simp only[w7]at l;by_cases E:wO p[k] f[k]=0
  ·rw[zf E]at l;simp[L,M,q,r,N,P,C,h,i,g,e,T,D,s,E,Q];exact⟨by omega,l⟩
  ·rw[zc E]at l;have R:=ZX E;simp[L,M,q,r,N,P,C,h,i,g,e,T,D,s,R,l,f262]
 ·obtain rfl:k=m:=by omega
  rw[ny wO J K B]at l;simp[L,M,q,r,N,P,g,e,l,f262]
theorem KR:zg prog 262 (qA [.g kp,.g kp] (NT fun v w=>int (Zy v w))):=
 wT (fn:=f262) TV (qE func262) _ _ fun args r h=>by obtain⟨⟨v,w⟩,rfl,⟨a,b⟩,rfl⟩:=zK h;exact⟨by simp[f262],_,Vp v w a b,qg.refl _⟩
noncomputable abbrev Crcu:Ctx:=zW prog [(262,qA [.g kp,.g kp] (NT fun v w=>int (Zy v w)))]
theorem TW:Gd Crcu:=qc mixed ⟨KR,trivial⟩
theorem dp(x y:Cut)(l:x.v.small)(m:y.v.small):zt Crcu f235 [.agg x.V,.agg y.V]=some (int (wv x y)):=by
 obtain⟨⟨a,b,c,p⟩,f⟩:=x;obtain⟨⟨h,i,j,k⟩,f'⟩:=y;refine zn rfl ?_;have d:=fun Y Z=>tT ⟨a,b,c,p⟩ ⟨h,i,j,k⟩ Y Z l m
 simp only[wN.V]at d;by_cases e:Zy ⟨a,b,c,p⟩ ⟨h,i,j,k⟩=0
 ·cases f<;>cases f'<;>simp[Cut.V,d,e,wv,f235]
 ·have g:=yq e;simp[Cut.V,d,e,g,wv,f235]
theorem ZV:zg prog 235 (qA [.g jz,.g jz] (AP fun v w=>int (wv v w))):=
 wT (fn:=f235) TW (qE func235) _ _ fun args r h=>by obtain⟨⟨v,w⟩,rfl,⟨a,b⟩,rfl⟩:=zK h;exact⟨by simp[f235],_,dp v w a b,qg.refl _⟩
theorem LN{l:List qN}{c:Cut}{k:Nat}(h:k<l.length):yt (l.drop k) c=(vt l[k] c||yt (l.drop (k+1)) c):=by rw[zh h];rfl
noncomputable abbrev Crco:Ctx:=zW prog [(235,qA [.g jz,.g jz] (AP fun v w=>int (wv v w)))]
theorem TX:AM.Good Crco (fun g=>[235].contains g):=qx mixed ⟨ZV,fun _=>yR _ _,trivial⟩
theorem uQ(l:List qN)(c:Cut)(D:yK l)(B:c.v.small):zt Crco f199 [.sl 11 (z6 l),.agg c.V]=some (q8 (yt l c)):=by
 obtain⟨y,z⟩:=D;refine zn rfl ?_;unfold zx at y;have d:(z6 l).length=l.length:=by simp[z6]
 simp[d,Cut.V];refine zT (fun k U Y Z=>U 3=.ref 0 0 0/\1<=Z/\Y 0=some ⟨174,5,false,[c.V]⟩/\U 7=.sl 11 (z6 l)/\U 8=int l.length/\U 9=int k/\yt l c=yt (l.drop k) c) l.length
  ⟨by simp,by simp,by simp[Cut.V],by simp,by simp,by simp,by simp⟩ ?_
 rintro k U Y Z F ⟨j,E,m,n,o,p,g⟩;by_cases b:k<l.length
 ·have C:=qH k;obtain⟨s,hs⟩:=jj (l[k]);have q:s.small:=z s (by rw[<-hs];exact zk b);have e:∀h:k<(z6 l).length,(z6 l)[k]=s.V:=fun h=>by simp[z6,hs]
  have r:=fun Y Z=>Wr s.lo c Y Z q.1 B
  have t:=fun Y Z=>Wr c s.hi Y Z B q.2
  have w:¬0=Z:=by omega
  have n1:¬Z=0:=by omega
  rw[LN b,hs]at g;have f:vt s c=(decide (wv s.lo c<=0)&&(s.y7||decide (wv c s.hi<0))):=rfl;simp only[qN.V,Cut.V,qX,kj]at r t e m;cases x:vt s c
  ·rw[x,kK]at g;rw[x]at f;by_cases A:wv s.lo c<=0
   ·rw[DV A,jK]at f;have a:=f.symm;rw[wy]at a;simp[j,n,o,p,b,d,e,r,t,m,w,n1,A,a.1,a.2,C,-decide_eq_false_iff_not];exact⟨by omega,rfl,g⟩
   ·simp[j,n,o,p,b,d,e,r,t,m,w,n1,A,C];exact⟨by omega,rfl,g⟩
  ·rw[x,UM]at g;rw[x]at f;have a:=f.symm;simp only[zC,qi]at a;have u:=a.2;cases i:s.y7
   ·rw[i,kK,qi]at u;simp[j,n,o,p,b,d,e,r,t,m,w,n1,a.1,i,u,g,f199]
   ·simp[j,n,o,p,b,d,e,r,t,m,w,n1,a.1,i,g,f199]
 ·obtain rfl:k=l.length:=by omega
  have g:yt l c=false:=by rw[g,zq];rfl
  simp[j,n,o,p,g,f199]
theorem pC:zg prog 199 (qA [.s 11 jo,.g jz] (FRC fun l c=>q8 (yt l c))):=
 wT (fn:=f199) TX (qE func199) _ _ fun args r h=>by obtain⟨⟨l,c⟩,rfl,⟨a,b⟩,rfl⟩:=zK h;exact⟨by simp[f199],_,uQ l c a b,qg.refl _⟩
def QO(w:Int)(a b:Bool):Bool:=if w=0 then a||b else if w=1 then a&&b else a&&!b
def FTk:zb->Option O
 |[.v (.int .i64 w),.v (.bool a),.v (.bool b)]=>some (q8 (QO w a b))
 |_=>none
@[simp]theorem Xh(w:Int)(a b:Bool)(Y:Hp)(Z:Nat):zi false [] FTk [.v (.int .i64 w),.v (.bool a),.v (.bool b)] Y Z=some (q8 (QO w a b),Y,Z):=yk rfl rfl (.inl rfl)
theorem Dd:zg prog 198 (zi false [] FTk):=
 yj (fn:=f198) jY (qE func198) false [] _ fun args r h=>by
  have:∃w a b,args=[int w,q8 a,q8 b]/\r=q8 (QO w a b):=by
   unfold FTk at h;split at h
   ·injection h with h;exact⟨_,_,_,rfl,h.symm⟩
   ·cases h
  obtain⟨w,a,b,rfl,rfl⟩:=this;refine⟨by simp[f198],_,zn rfl ?_,qq _⟩;by_cases c:w=0
  ·subst c;simp[QO,f198]
  ·have d:=yq c;by_cases e:w=1
   ·subst e;simp[QO,f198]
   ·have f:=yq e;simp[c,d,e,f,QO,f198]
def jn(st:Part×Bool)(i:Nat)(t:za):Option (Part×Bool):=
 if yo t=true then some (st.1,true)else if st.2=false/\(xO t).isSome=true then some (st.1.put i ((xO t).getD 0),false)else none
def ja:Part×Bool->Nat->List za->Option (Part×Bool)
 |st,_,[]=>some st
 |st,i,t::l=>match jn st i t with
  |some q=>ja q (i+1) l
  |none=>none
def rdR(s:za):Option Part:=if 3<(qh (Lib.cut s [45]).1 [46]).length then none else
 match ja (wj,false) 0 (qh (Lib.cut s [45]).1 [46])with
 |none=>none
 |some st=>if(xm s).any w9=true then none else if((Lib.cut s [45]).2.2=false\/st.1.has=3)/\(xm s).length<=10 then some {st.1 with pre:=xm s}else none
def Qc(s:za):Option Part:=match rdR s with
 |some p=>if p.has=0 then none else some p
 |none=>none
theorem J8{t:za}(h:yo t=true):xO t=none:=by simp only[yo,qF,yH]at h;rcases h with(rfl|rfl)|rfl<;>rfl
theorem uR(p:Part)(i:Nat)(n:Int):(p.put i n).has=p.has+1/\(p.put i n).pre=p.pre:=by unfold Part.put;split<;>exact⟨rfl,rfl⟩
theorem e9:∀(l:List za) (p:Part) (i:Nat),p.has<i->i≠0->(ja (p,true) i l).map (·.1)=yf p i l/\∀st,ja (p,true) i l=some st->st.1=p
 |[],p,i,_,_=>⟨rfl,fun st h=>by simp only[ja]at h;injection h with h;rw[<-h]⟩
 |t::l,p,i,h,hi=>by
  have b:¬p.has=i:=by omega
  obtain⟨e,f⟩:=e9 l p (i+1) (by omega) (by omega);by_cases a:yo t=true
  ·have c:jn (p,true) i t=some (p,true):=by simp[jn,a]
   have d:wL p i t=some p:=by simp[wL,a,hi,J8 a]
   simp only[ja,yf,c,d];exact⟨e,f⟩
  ·have c:jn (p,true) i t=none:=by simp[jn,a]
   have d:wL p i t=none:=by simp[wL,a,b]
   simp only[ja,yf,c,d];exact⟨rfl,fun st h=>by cases h⟩
theorem De:∀(l:List za) (p:Part) (i:Nat),p.has=i->i≠0->(ja (p,false) i l).map (·.1)=yf p i l
 |[],p,i,_,_=>rfl
 |t::l,p,i,h,hi=>by
  by_cases a:yo t=true
  ·have b:jn (p,false) i t=some (p,true):=by simp[jn,a]
   have c:wL p i t=some p:=by simp[wL,a,hi,J8 a]
   simp only[ja,yf,b,c];exact(e9 l p (i+1) (by omega) (by omega)).1
  ·cases d:xO t with
   |none=>
    have b:jn (p,false) i t=none:=by simp[jn,a,d]
    have c:wL p i t=none:=by simp[wL,a,d]
    simp only[ja,yf,b,c];rfl
   |some n=>
    have b:jn (p,false) i t=some (p.put i n,false):=by simp[jn,a,d]
    have c:wL p i t=some (p.put i n):=by simp[wL,d,h]
    simp only[ja,yf,b,c];exact De l (p.put i n) (i+1) (by rw[(uR p i n).1];omega) (by omega)
theorem LO(t:za)(l:List za):(∃st,ja (wj,false) 0 (t::l)=some st/\((st.1.has=0/\yf wj 0 (t::l)=none)\/(1<=st.1.has/\yf wj 0 (t::l)=some st.1)))\/(ja (wj,false) 0 (t::l)=none/\yf wj 0 (t::l)=none):=by
 by_cases b:yo t=true
 ·have c:jn (wj,false) 0 t=some (wj,true):=by simp[jn,b]
  have a:wL wj 0 t=none:=by simp[wL,J8 b]
  simp only[ja,yf,c,a];cases d:ja (wj,true) 1 l with
  |none=>exact .inr ⟨by simp,trivial⟩
  |some st=>have:=(e9 l wj 1 (by show(0:Int)<1;omega) (by omega)).2 st d;exact .inl ⟨st,by simp,.inl ⟨by rw[this];rfl,trivial⟩⟩
 ·cases e:xO t with
  |none=>
   have c:jn (wj,false) 0 t=none:=by simp[jn,b,e]
   have a:wL wj 0 t=none:=by simp[wL,b,e]
   simp only[ja,yf,c,a];exact .inr ⟨trivial,trivial⟩
  |some n=>
   have c:jn (wj,false) 0 t=some (wj.put 0 n,false):=by simp[jn,b,e]
   have a:wL wj 0 t=some (wj.put 0 n):=by simp[wL,e,wj]
   have g:(wj.put 0 n).has=1:=by rw[(uR wj 0 n).1];rfl
   have hs:=De l (wj.put 0 n) 1 g (by omega);simp only[ja,yf,c,a];cases d:ja (wj.put 0 n,false) 1 l with
   |none=>rw[d]at hs;exact .inr ⟨by simp,by simpa using hs.symm⟩
   |some st=>
    rw[d]at hs;simp only[zA]at hs;refine .inl ⟨st,by simp,.inr ⟨?_,by simpa using hs.symm⟩⟩;have f:yf wj 0 (t::l)=some st.1:=by simp only[yf,a];simpa using hs.symm
    have:=(iH (t::l) wj st.1 0 f (by simp[wj])).2.2.2.2.2.1;exact this (by simp)
theorem zcj{s:za}(h:Lib.contains s [45]=false):Lib.cut s [45]=(s,[],false):=by unfold Lib.contains at h;rw[yW]at h;unfold Lib.cut;rw[zc h]
theorem TY{s:za}(h:Lib.contains s [45]=true):(Lib.cut s [45]).2.2=true:=by unfold Lib.contains at h;rw[qi]at h;unfold Lib.cut;rw[zf h]
theorem TZ(a b c:Int)(l:List za)(f:0<=a/\a<=999999)(g:0<=b/\b<=999999)(i:0<=c/\c<=999999):kq ⟨a,b,c,l⟩=0↔l.any w9=false/\l.length<=10:=by
 have e:xb a 0 999999=true/\xb b 0 999999=true/\xb c 0 999999=true:=by simp[xb];omega
 unfold kq;rw[zf e];simp only;by_cases d:10<l.length
 ·rw[zf d];constructor
  ·intro h;cases h
  ·rintro⟨_,h⟩;omega
 ·rw[zc d];cases j:l.any w9
  ·simp;omega
  ·simp
theorem iM(s:za):Qc s=if(zR s).2=true then some (zR s).1 else none:=by
 cases K:Lib.contains s [45]
 ·have o:=zcj K;have p:xm s=[]:=by unfold xm;rw[o];rfl
  unfold Qc rdR zR;simp only[K,zO,wx,o,p];by_cases x:3<(qh s [46]).length
  ·rw[zf x,zf x];rfl
  rw[zc x,zc x];obtain⟨t,l,C⟩:∃t l,qh s [46]=t::l:=by
   cases h:qh s [46]with
   |nil=>exact absurd h (rV _ _)
   |cons t l=>exact⟨t,l,rfl⟩
  rw[C];rcases LO t l with⟨st,D,⟨B,w⟩|⟨B,w⟩⟩|⟨D,w⟩
  ·rw[D,w];simp[B]
  ·have Y:st.1.pre=[]:=(iH (t::l) wj st.1 0 w (by simp[wj])).2.2.2.2.2.2;have P:({st.1 with pre:=[]}:Part)=st.1:=by obtain⟨⟨a,b,c,d,e⟩,f⟩:=st;simp only at Y;subst Y;rfl
   have Q:¬st.1.has=0:=by omega
   rw[D,w];simp[Q,P]
  ·rw[D,w];rfl
 ·have o:=TY K;unfold Qc rdR zR;rw[zf K,o];simp only[Bool.true_eq_false,false_or];obtain⟨l,C⟩:=jj (qh (Lib.cut s [45]).1 [46]);obtain⟨pre,p⟩:=jj (xm s);rw[C,p];have j:∀(m:List za) (st v:Part×Bool) (i:Nat),ja st i m=some v->v.1.has<=st.1.has+m.length:=by
   intro m
   induction m with
   |nil=>intro st v i h;simp only[ja]at h;injection h with h;rw[<-h];simp
   |cons t m R=>
    intro st v i h;simp only[ja]at h;cases hs:jn st i t with
    |none=>rw[hs]at h;cases h
    |some q=>
     rw[hs]at h;have D:=R q v (i+1) h;have B:q.1.has<=st.1.has+1:=by
      unfold jn at hs;split at hs
      ·injection hs with hs;rw[<-hs];simp only;omega
      ·split at hs
       ·injection hs with hs;rw[<-hs];simp only;rw[(uR _ _ _).1];omega
       ·cases hs
     simp only[z7];omega
  by_cases x:l.length=3
  ·obtain⟨u,r,k,rfl⟩:∃a b c,l=[a,b,c]:=zaw x;unfold l4;rw[C,p];simp only;have y:¬3<[u,r,k].length:=by simp
   rw[zc y];cases E:xO u with
   |none=>
    have F:∀st,ja (wj,false) 0 [u,r,k]=some st->st.1.has<=2:=by
     intro st h;simp only[ja]at h;cases hs:jn (wj,false) 0 u with
     |none=>rw[hs]at h;cases h
     |some q=>
      rw[hs]at h;have M:q.1.has=0:=by
       unfold jn at hs;split at hs
       ·injection hs with hs;rw[<-hs];rfl
       ·rw[E]at hs;simp at hs
      have:=j [r,k] q st 1 (by simpa[ja]using h);simp only[z7,xT]at this;omega
    cases g:ja (wj,false) 0 [u,r,k]with
    |none=>rfl
    |some st=>
     have B:=F st g;have n:¬(st.1.has=3/\pre.length<=10):=by omega
     simp only[zc n];cases pre.any w9<;>rfl
   |some a=>
    have S:yo u=false:=by
     cases h:yo u with
     |false=>rfl
     |true=>rw[J8 h]at E;cases E
    have L:jn (wj,false) 0 u=some (wj.put 0 a,false):=by simp[jn,S,E]
    cases G:xO r with
    |none=>
     have F:∀st,ja (wj,false) 0 [u,r,k]=some st->st.1.has<=2:=by
      intro st h;simp only[ja,L]at h;cases hs:jn (wj.put 0 a,false) (0+1) r with
      |none=>rw[hs]at h;cases h
      |some q=>
       rw[hs]at h;have M:q.1.has=1:=by
        unfold jn at hs;split at hs
        ·injection hs with hs;rw[<-hs];rfl
        ·rw[G]at hs;simp at hs
       have:=j [k] q st 2 (by simpa[ja]using h);simp only[z7,xT]at this;omega
     cases g:ja (wj,false) 0 [u,r,k]with
     |none=>rfl
     |some st=>
      have B:=F st g;have n:¬(st.1.has=3/\pre.length<=10):=by omega
      simp only[zc n];cases pre.any w9<;>rfl
    |some b=>
     have T:yo r=false:=by
      cases h:yo r with
      |false=>rfl
      |true=>rw[J8 h]at G;cases G
     have N:jn (wj.put 0 a,false) (0+1) r=some ((wj.put 0 a).put 1 b,false):=by simp[jn,T,G]
     cases H:xO k with
     |none=>
      have F:∀st,ja (wj,false) 0 [u,r,k]=some st->st.1.has<=2:=by
       intro st h;simp only[ja,L,N]at h;cases hs:jn ((wj.put 0 a).put 1 b,false) (0+1+1) k with
       |none=>rw[hs]at h;cases h
       |some q=>
        rw[hs]at h;have M:q.1.has=2:=by
         unfold jn at hs;split at hs
         ·injection hs with hs;rw[<-hs];rfl
         ·rw[H]at hs;simp at hs
        simp only at h;injection h with h
        rw[<-h];omega
      cases g:ja (wj,false) 0 [u,r,k]with
      |none=>rfl
      |some st=>
       have B:=F st g;have n:¬(st.1.has=3/\pre.length<=10):=by omega
       simp only[zc n];cases pre.any w9<;>rfl
     |some c=>
      have W:yo k=false:=by
       cases h:yo k with
       |false=>rfl
       |true=>rw[J8 h]at H;cases H
      have X:jn ((wj.put 0 a).put 1 b,false) (0+1+1) k=some (((wj.put 0 a).put 1 b).put 2 c,false):=by simp[jn,W,H]
      have g:ja (wj,false) 0 [u,r,k]=some (((wj.put 0 a).put 1 b).put 2 c,false):=by simp only[ja,L,N,X]
      rw[g];have I:=TZ a b c pre (KI E) (KI G) (KI H);by_cases J:kq ⟨a,b,c,pre⟩=0
      ·obtain⟨z,A⟩:=I.1 J;simp[J,z,A,wj,Part.put]
      ·have y:¬(pre.any w9=false/\pre.length<=10):=fun h=>J (I.2 h)
       cases z:pre.any w9
       ·have A:¬pre.length<=10:=fun h=>y ⟨z,h⟩
        simp[J,A]
       ·simp[J]
  ·have hd:l4 s=none:=by
    unfold l4;rw[C];split
    ·exact absurd rfl x
    ·rfl
   rw[hd];simp only[zO,wx];by_cases w:3<l.length
   ·rw[zf w]
   rw[zc w];cases g:ja (wj,false) 0 l with
   |none=>rfl
   |some st=>
    have h5:=j l (wj,false) st 0 g;have h6:st.1.has<=2:=by have:(wj:Part).has=0:=rfl;simp only[this]at h5;omega
    have n:¬(st.1.has=3/\pre.length<=10):=by omega
    simp only[zc n];cases pre.any w9<;>rfl
end Go.Q
namespace Go.AM
def bO(sh:Sh)(r y z:O)(x:O)(Y:Hp)(_:Nat):Prop:=∃a,(AM.freeze Y x).map (·.1)=some (.wq [a,y,z])/\sh.fix a=r
theorem pD{C:Ctx}{fn:Func}{code:Code}{args:zb}{sh:Sh}{r y z:O}(b:fn.body=some code)
  (h:Zw C code ⟨jL args,fun _=>none,0⟩ (Yx C.P fn (bO sh r y z))):∃a,zt C fn args=some a/\qg a (.wq [r,y,z]):=by
 obtain⟨x,Y',f,c,a,d,e⟩:=qz b h;exact⟨.wq [a,y,z],by unfold zt;simp only[c];exact d,e ▸ (qP.cons (Kt sh a) (.cons (qg.refl y) (.cons (qg.refl z) .nil))).wq⟩
end Go.AM
namespace Go.Q
def Vq(s:za):wN×Int×Bool:=if 3<(qh (Lib.cut s [45]).1 [46]).length then(ax,0,false)else
 match ja (wj,false) 0 (qh (Lib.cut s [45]).1 [46])with
 |none=>(ax,0,false)
 |some st=>if(xm s).any w9=true then(⟨st.1.n0,st.1.n1,st.1.n2,xm s⟩,0,false)else(⟨st.1.n0,st.1.n1,st.1.n2,xm s⟩,st.1.has,(!(Lib.cut s [45]).2.2||st.1.has==3)&&decide ((xm s).length<=10))
def F4(s:za):O:=.wq [.agg (Vq s).1.V,int (Vq s).2.1,q8 (Vq s).2.2]
theorem F5{st:Part×Bool}{k:Nat}{l:List za}(h:k<l.length):ja st k (l.drop k)=match jn st k l[k]with
  |some q=>ja q (k+1) (l.drop (k+1))
  |none=>none:=by
 rw[zh h];rfl
noncomputable abbrev Crrv:Ctx:=zW prog [(161,zi false [] (Qg oV fun _ _=>True)),(152,yh [] FSp),(230,zi false [] FNm),(231,zi false [] (FS fun l=>!w9 l))]
theorem T0:Gd Crrv:=qc mixed ⟨lS,Wn,pB,uN,trivial⟩
theorem dq(t:za)(ht:t.length+1<=zx):∃r0,zt Crrv f194 [str t]=some r0/\qg r0 (F4 t):=by
 refine pD (sh:=.g kp) (r:=.agg (Vq t).1.V) (y:=int (Vq t).2.1) (z:=q8 (Vq t).2.2) rfl ?_;have hcl:=NI t [45];have u:=fun Y Z=>lR t [45] Y Z (by omega) (by decide)
 have E:=fun Y Z=>ZP (Lib.cut t [45]).1 [46] Y Z (by omega) (by decide) (by decide)
 have v:=fun Y Z=>ZP (Lib.cut t [45]).2.1 [46] Y Z (by omega) (by decide) (by decide)
 have G:∀p∈qh (Lib.cut t [45]).1 [46],p.length<=zx:=fun p Y=>by have:=vf Y;omega
 have H:∀p∈qh (Lib.cut t [45]).2.1 [46],p.length<=zx:=fun p Y=>by have:=vf Y;omega
 have I:(qh (Lib.cut t [45]).2.1 [46]).length<=zx:=by have:=xZ (s:=(Lib.cut t [45]).2.1) (sep:=[46]) (by simp);omega
 have m:xm t=if(Lib.cut t [45]).2.2=true then qh (Lib.cut t [45]).2.1 [46]else[]:=rfl
 have a:Vq t=if 3<(qh (Lib.cut t [45]).1 [46]).length then(ax,0,false)else
   match ja (wj,false) 0 (qh (Lib.cut t [45]).1 [46])with
   |none=>(ax,0,false)
   |some st=>if(xm t).any w9=true then(⟨st.1.n0,st.1.n1,st.1.n2,xm t⟩,0,false)else(⟨st.1.n0,st.1.n1,st.1.n2,xm t⟩,st.1.has,(!(Lib.cut t [45]).2.2||st.1.has==3)&&decide ((xm t).length<=10)):=rfl
 obtain⟨l,hl⟩:=jj (qh (Lib.cut t [45]).1 [46]);obtain⟨n,w⟩:=jj (qh (Lib.cut t [45]).2.1 [46]);obtain⟨c1,c2,c3,hc⟩:∃c1 c2 c3,Lib.cut t [45]=(c1,c2,c3):=⟨_,_,_,rfl⟩;rw[hc]at u E v hl w m a G H I;simp only at u E v hl w m a G H I;rw[hl]at a G;rw[w]at m H I;simp only[hl,Ku]at E;simp only[w,Ku]at v;unfold zx at I;by_cases h3:3<l.length
 ·have Q:(3:Int)<l.length:=by omega
  rw[zf h3]at a;simp[u,E,h3,Q,F4,a,bO,ax,wN.V,f194]
 have Q:¬(3:Int)<l.length:=by omega
 rw[zc h3]at a;simp[u,E,h3,Q];refine zT (fun k U Y Z=>∃(p:Part) (op:Bool),p.pre=[]/\U 2=.ref 0 0 0/\U 3=int p.has/\U 4=q8 false/\U 6=str c2/\U 7=q8 c3/\U 8=.ref 1 0 0/\U 9=q8 op/\U 29=.own 2 0 l.length/\U 30=int l.length/\U 31=int k/\p.has<=k/\0<=p.has/\Z=3 /\
   Y 0=some ⟨148,4,false,[[int 0,int 0,int 0,.nil]]⟩/\Y 1=some ⟨164,3,false,[[int p.n0,int p.n1,int p.n2]]⟩/\Y 2=some ⟨9,1,true,zH l⟩/\ja (wj,false) 0 l=ja (p,op) k (l.drop k)) l.length
  ⟨wj,false,rfl,by simp,by simp[wj],by simp,by simp,by simp,by simp,by simp,by simp,by simp,by simp,by simp[wj],by simp[wj],by simp,by simp,by simp[wj],(by simp;rfl),by simp⟩ ?_
 rintro k U Y Z hk ⟨p,op,R,x,o,A,J,B,K,L,c,d,e,hh,hh0,hnx,C,F,M,q⟩;subst hnx;by_cases b:k<l.length
 ·have hn:=fun Y Z=>Pc l[k] Y Z (G _ (zk b))
  have hw:=qH k;have N:=wX (p.has+1);have i:(l[k]==[120]||l[k]==[88]||l[k]==[42])=yo l[k]:=rfl;have f:=VP b;have D:(zH l).length=l.length:=by simp[zH]
  rw[F5 b]at q;cases ho:yo l[k]
  ·rw[ho]at i;cases hv:(xO l[k]).isSome
   ·have hs:jn (p,op) k l[k]=none:=by simp[jn,ho,hv]
    rw[hs]at q;rw[q]at a;simp only at a;simp[x,o,A,J,B,K,L,c,d,e,C,F,M,b,D,f,hn,i,hv,F4,a,bO,ax,wN.V,f194]
   ·cases op
    ·have hs:jn (p,false) k l[k]=some (p.put k ((xO l[k]).getD 0),false):=by simp[jn,ho,hv]
     rw[hs]at q;simp only at q;obtain⟨n0,n1,n2,has,pre⟩:=p;simp only at R hh hh0 N F o;subst R;have hk3:k=0\/k=1\/k=2:=by omega
     rcases hk3 with rfl|rfl|rfl
     ·have j:(0:Int)<(l.length:Int):=by omega
      simp[x,o,A,J,B,K,L,c,d,e,C,F,M,b,j,D,f,hn,i,hv,hw,N];refine⟨by omega,_,?_,?_,?_,?_,?_,(by simpa using q)⟩<;>simp[Part.put]<;>omega
     ·have j:(1:Int)<(l.length:Int):=by omega
      simp[x,o,A,J,B,K,L,c,d,e,C,F,M,b,j,D,f,hn,i,hv,hw,N];refine⟨by omega,_,?_,?_,?_,?_,?_,(by simpa using q)⟩<;>simp[Part.put]<;>omega
     ·have j:(2:Int)<(l.length:Int):=by omega
      simp[x,o,A,J,B,K,L,c,d,e,C,F,M,b,j,D,f,hn,i,hv,hw,N];refine⟨by omega,_,?_,?_,?_,?_,?_,(by simpa using q)⟩<;>simp[Part.put]<;>omega
    ·have hs:jn (p,true) k l[k]=none:=by simp[jn,ho]
     rw[hs]at q;rw[q]at a;simp only at a;simp[x,o,A,J,B,K,L,c,d,e,C,F,M,b,D,f,hn,i,F4,a,bO,ax,wN.V,f194]
  ·have hs:jn (p,op) k l[k]=some (p,true):=by simp[jn,ho]
   rw[hs]at q;rw[ho]at i;simp[x,o,A,J,B,K,L,c,d,e,C,F,M,b,D,f,i,hw];exact⟨by omega,p,R,rfl,by omega,hh0,⟨rfl,rfl,rfl⟩,q⟩
 ·obtain rfl:k=l.length:=by omega
  rw[zq]at q;simp only[ja]at q;rw[q]at a;simp only at a;have hbe:((p.has:Int)==3)=(p.has==3):=rfl;cases c3
  ·rw[zc (by simp)]at m;rw[m]at a;simp at a;simp[x,o,A,J,B,K,L,c,d,e,C,F,M,zS,qn,F4,a,bO,wN.V,zH,f194]
  ·rw[zf rfl]at m;rw[m]at a;have P:(zH n).length=n.length:=by simp[zH]
   simp[x,o,A,J,B,K,L,c,d,e,C,F,M,v,zS,qn];refine zT (fun k U Y Z=>U 2=.ref 0 0 0/\U 3=int p.has/\U 4=q8 false/\U 7=q8 true/\U 75=.own 3 0 n.length/\U 76=int n.length/\U 77=int k/\Y 0=some ⟨148,4,false,[[int p.n0,int p.n1,int p.n2,.own 3 0 n.length]]⟩/\Y 3=some ⟨9,1,true,zH n⟩/\n.any w9=(n.drop k).any w9) n.length
    ⟨by simp[x],by simp[o],by simp[A],by simp[B],by simp,by simp,by simp,by simp,(by simp;rfl),by simp⟩ ?_
   clear x o A J B K L c d e C F M hk b hh U Y;rintro k U Y Z hk ⟨x,o,A,B,S,T,W,C,b3,X⟩;by_cases b:k<n.length
   ·have hw:=qH k;have f:=VP b;have hip:=fun Y Z=>kA (fun l=>!w9 l) n[k] Y Z (H _ (zk b))
    rw[zh b,jl]at X;cases hb:w9 n[k]
    ·rw[hb,kK]at X;simp[x,o,A,B,S,T,W,C,b3,b,P,f,hip,hb,hw];exact⟨by omega,X⟩
    ·rw[hb,UM]at X;rw[X,zf rfl]at a;simp[x,o,A,B,S,T,W,C,b3,b,P,f,hip,hb,F4,a,bO,wN.V,f194]
   ·obtain rfl:k=n.length:=by omega
    rw[zq,List.any_nil]at X;rw[X,zc (by simp)]at a;have hd:decide (n.length<=10)=decide ((n.length:Int)<=10):=by congr 1;exact propext ⟨fun h=>by omega,fun h=>by omega⟩
    rw[hd]at a;simp[x,o,A,B,S,T,W,C,b3,F4,a,bO,wN.V,f194]
theorem YQ:zg prog 194 (zi false [] (Vn F4)):=
 xl (fn:=f194) T0 (qE func194) false [] _ fun args r h w S vs a=>by obtain⟨l,rfl,Y,rfl⟩:=zK h;obtain⟨b,c,d⟩:=dq l Y;exact⟨_,b,a,by simp[f194],c,d⟩
theorem HC(s:za):Qc s=if(Vq s).2.2=true/\(Vq s).2.1≠0 then some ⟨(Vq s).1.a,(Vq s).1.b,(Vq s).1.c,(Vq s).2.1,(Vq s).1.pre⟩else none:=by
 unfold Qc rdR Vq;by_cases e:3<(qh (Lib.cut s [45]).1 [46]).length
 ·rw[zf e,zf e];simp
 rw[zc e,zc e];cases ja (wj,false) 0 (qh (Lib.cut s [45]).1 [46])with
 |none=>simp
 |some st=>
  simp only;cases h:(xm s).any w9
  ·simp only[zO,wx];by_cases f:((Lib.cut s [45]).2.2=false\/st.1.has=3)/\(xm s).length<=10
   ·rw[zf f];have d:((!(Lib.cut s [45]).2.2||st.1.has==3)&&decide ((xm s).length<=10))=true:=by simp only[zC,qF,yF,yH,qi];exact f
    simp only[d,true_and];by_cases g:st.1.has=0
    ·simp[g]
    ·simp[g]
   ·rw[zc f];have d:¬((!(Lib.cut s [45]).2.2||st.1.has==3)&&decide ((xm s).length<=10))=true:=by simp only[zC,qF,yF,yH,qi];exact f
    simp only[d,false_and,wx];simp
  ·simp
end Go.Q
