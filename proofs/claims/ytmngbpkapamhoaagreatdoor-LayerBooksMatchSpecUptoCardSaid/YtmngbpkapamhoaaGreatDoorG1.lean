/- Lemmas. -/
import Derived.Test.YtmngbpkapamhoaaGreatDoorG0
set_option maxRecDepth 8000
set_option maxHeartbeats 4000000
open Go Proofs Proofs.YtmngbpkapamhoaaGreatDoor Proofs.Tryz RowKit AM SpanLaw Q Zz
namespace Go.AM
variable{dr:Prop}
inductive O where
 |v (x:Value)
 |nil
 |agg (cs:List O)
 |w5 (cs:List O)
 |sl (s:Nat) (es:List (List O))
 |em
 |ptr (cs:List O)
 |own (id off n:Nat)
 |ref (id i j:Nat)
 |mp (id:Nat)
 |fn (f:Fn) (first captured:List O)
def lit:Value->Bool
 | .bool _|.int _ _|.string _|.nilFunc|.pointer none|.nilIface|.map none|.slice (some _) 0 0=>true
 |_=>false
def O.yk:O->Bool
 | .agg _|.w5 _=>false
 |_=>true
inductive ya (w:World) (S:Nat->Prop):O->Value->Prop
 |v {x:Value}:lit x=true->ya w S (.v x) x
 |nil:ya w S .nil (.slice none 0 0)
 |em {ad:Addr} {cap:Nat}:cap<=maxLen->ya w S .em (.slice (some ad) 0 cap)
 |agg {cs:List O} {us:Array Value}:cs.length=us.size->(∀(j:Nat) (pv:O) (u:Value),cs[j]?=some pv->us[j]?=some u->ya w S pv u)->ya w S (.agg cs) (.agg us)
 |w5 {cs:List O} {us:Array Value}:cs.length=us.size->(∀(j:Nat) (pv:O) (u:Value),cs[j]?=some pv->us[j]?=some u->ya w S pv u)->ya w S (.w5 cs) (.tuple us)
 |sl {es:List (List O)} {A:Option Addr} {cap s:Nat} (us:Nat->Nat->Value):(A=none->cap=0)->es.length<=cap->cap<=maxLen->(∀c∈es,c.length=s) ->
   (∀(i j:Nat) (c:List O) (pv:O),es[i]?=some c->c[j]?=some pv->∃ad,A=some ad/\S ad.block/\w.cell? (ad.add (i*s+j))=some (us i j)/\(us i j).oneCell'=true) ->
   (∀(i j:Nat) (c:List O) (pv:O),es[i]?=some c->c[j]?=some pv->ya w S pv (us i j))->ya w S (.sl s es) (.slice A es.length cap)
 |ptr {cs:List O} {ad:Addr} (us:Nat->Value):(∀(j:Nat) (pv:O),cs[j]?=some pv->S ad.block/\w.cell? (ad.add j)=some (us j)) ->
   (∀(j:Nat) (pv:O),cs[j]?=some pv->ya w S pv (us j))->ya w S (.ptr cs) (.pointer (some ad))
 |fn {f:Fn} {xs ys:List O} {us ts:Array Value}:xs.length=us.size->ys.length=ts.size->(∀(j:Nat) (pv:O) (u:Value),xs[j]?=some pv->us[j]?=some u->ya w S pv u) ->
   (∀(j:Nat) (pv:O) (u:Value),ys[j]?=some pv->ts[j]?=some u->ya w S pv u)->ya w S (.fn f xs ys) (.func f us ts)
structure GI where
 g:Nat
 z:Nat
 s:Nat
inductive qw (w:World) (S:Nat->Prop) (G:Nat->GI) (Z:Nat):O->Value->Prop
 |c {pv:O} {x:Value}:ya w S pv x->qw w S G Z pv x
 |own {id off n cap:Nat}:id<Z->n<=cap->cap<=maxLen->(off+cap)*(G id).s=(G id).z->0<(G id).s->qw w S G Z (.own id off n) (.slice (some ⟨(G id).g,off*(G id).s,none⟩) n cap)
 |ref {id i j:Nat}:id<Z->0<(G id).s->qw w S G Z (.ref id i j) (.pointer (some ⟨(G id).g,i*(G id).s+j,none⟩))
 |mp {id:Nat}:id<Z->(G id).s=0->qw w S G Z (.mp id) (.map (some (G id).g))
 |agg {cs:List O} {us:Array Value}:cs.length=us.size->(∀(j:Nat) (pv:O) (u:Value),cs[j]?=some pv->us[j]?=some u->qw w S G Z pv u)->qw w S G Z (.agg cs) (.agg us)
 |w5 {cs:List O} {us:Array Value}:cs.length=us.size->(∀(j:Nat) (pv:O) (u:Value),cs[j]?=some pv->us[j]?=some u->qw w S G Z pv u)->qw w S G Z (.w5 cs) (.tuple us)
 |fn {f:Fn} {xs ys:List O} {us ts:Array Value}:xs.length=us.size->ys.length=ts.size->(∀(j:Nat) (pv:O) (u:Value),xs[j]?=some pv->us[j]?=some u->qw w S G Z pv u) ->
   (∀(j:Nat) (pv:O) (u:Value),ys[j]?=some pv->ts[j]?=some u->qw w S G Z pv u)->qw w S G Z (.fn f xs ys) (.func f us ts)
theorem Wm(a:Addr)(n:Nat):(a.add n).block=a.block:=by unfold Addr.add;split<;>rfl
theorem dI(a:Addr)(i j:Nat):(a.add i).add j=a.add (i+j):=by unfold Addr.add;by_cases hi:i=0<;>by_cases b:j=0<;>simp[hi,b,na]
theorem ya.mono{w w':World}{S S':Nat->Prop}{d:O}{x:Value}(h:ya w S d x)(g:∀b,S b->S' b/\w'.heap[b]?=w.heap[b]?):ya w' S' d x:=by
 induction h with
 |v h=>exact .v h
 |nil=>exact .nil
 |em h=>exact .em h
 |agg k _ a=>exact .agg k a
 |w5 k _ a=>exact .w5 k a
 |sl us p f l q r _ a=>refine .sl us p f l q (fun i j c d hi m=>?_) a;obtain⟨ad,e,hs,n,o⟩:=r i j c d hi m;refine⟨ad,e,(g _ hs).1,?_,o⟩;rw[<-n];apply aE;rw[Wm];exact(g _ hs).2
 |ptr us f _ a=>refine .ptr us (fun j d m=>?_) a;obtain⟨hs,n⟩:=f j d m;refine⟨(g _ hs).1,?_⟩;rw[<-n];apply aE;rw[Wm];exact(g _ hs).2
 |fn f l _ _ s t=>exact .fn f l s t
theorem qw.mono{w w':World}{S S':Nat->Prop}{G G':Nat->GI}{Z Z':Nat}{i:O}{x:Value}(h:qw w S G Z i x)(l:∀b,S b->S' b/\w'.heap[b]?=w.heap[b]?)
  (p:Z<=Z') (e:∀id,id<Z->G' id=G id):qw w' S' G' Z' i x:=by
 induction h with
 |c h=>exact .c (h.mono l)
 |own d a m j k=>rw[<-e _ d]at j k⊢;exact .own (by omega) a m j k
 |ref d a=>rw[<-e _ d]at a⊢;exact .ref (by omega) a
 |mp d a=>rw[<-e _ d]at a⊢;exact .mp (by omega) a
 |agg f _ g=>exact .agg f g
 |w5 f _ g=>exact .w5 f g
 |fn d a _ _ n o=>exact .fn d a n o
theorem ya.V5{w:World}{S:Nat->Prop}{a:O}{x:Value}(h:ya w S a x)(b:a.yk=true):x.oneCell'=true:=by
 cases h with
 |v h=>cases x<;>simp_all[lit,Value.oneCell']
 |agg=>simp[O.yk]at b
 |w5=>simp[O.yk]at b
 |_=>rfl
theorem qw.V5{w:World}{S:Nat->Prop}{G:Nat->GI}{Z:Nat}{b:O}{x:Value}(h:qw w S G Z b x)(a:b.yk=true):x.oneCell'=true:=by
 cases h with
 |c h=>exact h.V5 a
 |agg=>simp[O.yk]at a
 |w5=>simp[O.yk]at a
 |_=>rfl
structure Blk where
 e:TypeId
 s:Nat
 arr:Bool
 es:List (List O)
abbrev Hp:=Nat->Option Blk
def qq{α:Type}(f:Nat->α)(k:Nat)(x:α):Nat->α:=fun i=>if i=k then x else f i
@[simp]theorem wU{α:Type}(f:Nat->α)(k:Nat)(x:α):qq f k x k=x:=by simp[qq]
theorem zD{α:Type}(f:Nat->α)(k i:Nat)(x:α)(h:i≠k):qq f k x i=f i:=by simp[qq,h]
def jM(w:World)(S:Nat->Prop)(G:Nat->GI)(Z:Nat)(a:Bool)(b:O)(u:Value):Prop:=
 (a=true->ya w S b u)/\qw w S G Z b u/\u.oneCell'=true
structure Gu (P:Program) (w:World) (S:Nat->Prop) (G:Nat->GI) (Z:Nat) (gi:GI) (b:Blk):Prop where
 size:(P.info? b.e).map (·.size)=some gi.s
 len:∀c∈b.es,c.length=gi.s
 fit:b.es.length*gi.s<=gi.z
 row:∃cur:Array Value,w.heap[gi.g]?=some (.cells cur b.e (0,0))/\cur.size=gi.z /\
  ∀(i j:Nat) (c:List O) (pv:O),b.es[i]?=some c->c[j]?=some pv->∃u,cur[i*gi.s+j]?=some u/\jM w S G Z b.arr pv u
def fT(w:World)(S:Nat->Prop)(c:List O)(e:MapEntry):Prop:=∃(k:Value) (a:O),c=[.v k,a]/\e.key=k/\lit k=true/\ya w S a e.val
def Stamped(en:Array MapEntry)(a:Nat):Prop:=(∀x∈en.toList,x.born<a)/\(en.toList.map (·.born)).Nodup
structure zfM (w:World) (S:Nat->Prop) (gi:GI) (b:Blk):Prop where
 row:∃(en:Array MapEntry) (clock:Nat),w.heap[gi.g]?=some (.map en clock)/\en.size=b.es.length/\∀(i:Nat) (c:List O) (e:MapEntry),b.es[i]?=some c->en[i]?=some e->fT w S c e
 zd0:∃(en:Array MapEntry) (clock:Nat),w.heap[gi.g]?=some (.map en clock)/\Stamped en clock
structure xc (P:Program) (w:World) (S:Nat->Prop) (G:Nat->GI) (Z:Nat) (gi:GI) (b:Blk):Prop where
 bs:b.s=gi.s
 cel:0<gi.s->Gu P w S G Z gi b
 AD:gi.s=0->zfM w S gi b
theorem xc.size{P:Program}{w:World}{S:Nat->Prop}{G:Nat->GI}{Z:Nat}{a:GI}{b:Blk}(h:xc P w S G Z a b)(c:0<a.s):(P.info? b.e).map (·.size)=some a.s:=(h.cel c).size
theorem xc.len{P:Program}{w:World}{S:Nat->Prop}{G:Nat->GI}{Z:Nat}{a:GI}{b:Blk}(h:xc P w S G Z a b)(d:0<a.s):∀c∈b.es,c.length=a.s:=(h.cel d).len
theorem xc.fit{P:Program}{w:World}{S:Nat->Prop}{G:Nat->GI}{Z:Nat}{a:GI}{b:Blk}(h:xc P w S G Z a b)(c:0<a.s):b.es.length*a.s<=a.z:=(h.cel c).fit
theorem xc.row{P:Program}{w:World}{S:Nat->Prop}{G:Nat->GI}{Z:Nat}{a:GI}{b:Blk}(h:xc P w S G Z a b)(f:0<a.s):∃cur:Array Value,w.heap[a.g]?=some (.cells cur b.e (0,0))/\cur.size=a.z /\
  ∀(i j:Nat) (c:List O) (d:O),b.es[i]?=some c->c[j]?=some d->∃u,cur[i*a.s+j]?=some u/\jM w S G Z b.arr d u:=(h.cel f).row
theorem xc.xp{P:Program}{w:World}{S:Nat->Prop}{G:Nat->GI}{Z:Nat}{a:GI}{b:Blk}(d:0<a.s)(c:b.s=a.s)(h:Gu P w S G Z a b):xc P w S G Z a b:=
 ⟨c,fun _=>h,fun e=>by omega⟩
def PR(P:Program)(g:Nat):Prop:=g<P.globals.size/\∃zero t,((begin P (fun _ _=>0) default).world.heap[g]?).bind Obj.row?=some (zero,t)/\zero.size=1/\P.buildable t=true/\P.cellTypes P.depth t=some [t]/\P.underlying t=some (.int .i64)
def Jh:List (Nat×IntKind×List Int):=[]++[(1,.u64,Lib.pow10Tab)]
def Dc(w:World)(S:Nat->Prop)(t:Nat×IntKind×List Int):Prop:=S t.1/\∃ty a,w.heap[t.1]?=some (.cells (t.2.2.map fun z=>Value.int t.2.1 z).toArray ty a)
def MH(P:Program)(w:World)(S:Nat->Prop):Prop:=(∀g,PR P g->S g/\∃m,w.cell? ⟨g,0,none⟩=some (.int .i64 m))/\∀t∈Jh,Dc w S t
theorem MH.mono{P:Program}{w w':World}{S S':Nat->Prop}(h:MH P w S)(c:∀b,S b->S' b/\w'.heap[b]?=w.heap[b]?):MH P w' S':=by
 refine⟨fun g e=>?_,fun t f=>?_⟩
 ·obtain⟨a,m,d⟩:=h.1 g e;refine⟨(c g a).1,m,?_⟩;rw[<-d];exact aE (c g a).2
 ·obtain⟨a,ty,i,d⟩:=h.2 t f;exact⟨(c _ a).1,ty,i,(c _ a).2.trans d⟩
theorem Lw{w:World}{a:Addr}{v:Value}(h:w.cell? a=some v):a.block<w.heap.size:=by
 unfold World.cell? at h;split at h
 ·rename_i b;exact(zM.1 b).1
 ·cases h
theorem MH.U7{P:Program}{w:World}(h:w.ShapedOpen P)(j:∀t∈Jh,Dc w (fun b=>b<w.heap.size) t):MH P w (fun b=>b<w.heap.size):=by
 refine⟨?_,j⟩;rintro g ⟨k,zero,t,l,s,m,n,o⟩;obtain⟨cs,p,hs,q⟩:=h.1 g zero t k l;obtain⟨ts,d,_,e⟩:=q m;rw[n]at d;cases d;have i:0<cs.size:=by omega
 obtain⟨u,f,c⟩:=e 0 cs[0] (by simp[i]);have:u=t:=by simpa using f.symm
 subst this;have a:w.cell? ⟨g,0,none⟩=some cs[0]:=by simp[World.cell?,p,i]
 refine⟨Lw a,?_⟩;rw[a];unfold Cell.ok at c;rw[o]at c;cases r:cs[0]<;>rw[r]at c<;>simp_all
structure Inv (P:Program) (w:World) (S:Nat->Prop) (G:Nat->GI) (Y:Hp) (Z:Nat):Prop where
 st:∀b,S b->b<w.heap.size
 top:∀id b,Y id=some b->id<Z
 live:∀id b,Y id=some b->xc P w S G Z (G id) b
 apart:∀id b,Y id=some b->¬S (G id).g
 inj:∀id id' b b',Y id=some b->Y id'=some b'->(G id).g=(G id').g->id=id'
 fS:MH P w S
theorem xc.lt{P:Program}{w:World}{S:Nat->Prop}{G:Nat->GI}{Z:Nat}{a:GI}{b:Blk}(h:xc P w S G Z a b):a.g<w.heap.size:=by
 rcases Nat.eq_zero_or_pos a.s with c|c
 ·obtain⟨en,d,e,_⟩:=(h.AD c).row;exact(zM.1 e).1
 ·obtain⟨cur,e,_⟩:=h.row c;exact(zM.1 e).1
theorem jM.mono{w w':World}{S S':Nat->Prop}{G G':Nat->GI}{Z Z':Nat}{a:Bool}{c:O}{u:Value}(h:jM w S G Z a c u)(d:∀b,S b->S' b/\w'.heap[b]?=w.heap[b]?)
  (e:Z<=Z') (f:∀id,id<Z->G' id=G id):jM w' S' G' Z' a c u:=
 ⟨fun g=>(h.1 g).mono d,h.2.1.mono d e f,h.2.2⟩
theorem xc.mono{P:Program}{w w':World}{S S':Nat->Prop}{G G':Nat->GI}{Z Z':Nat}{m:GI}{b:Blk}(h:xc P w S G Z m b)(q:∀b,S b->S' b/\w'.heap[b]?=w.heap[b]?)
  (r:Z<=Z') (s:∀id,id<Z->G' id=G id) (n:w'.heap[m.g]?=w.heap[m.g]?):xc P w' S' G' Z' m b:=by
 refine⟨h.bs,fun d=>⟨h.size d,h.len d,h.fit d,?_⟩,fun d=>⟨?_,?_⟩⟩
 ·obtain⟨cur,f,l,o⟩:=h.row d;refine⟨cur,n.trans f,l,fun i j c p hi t=>?_⟩;obtain⟨u,v,x⟩:=o i j c p hi t;exact⟨u,v,x.mono q r s⟩
 ·obtain⟨en,a,f,l,o⟩:=(h.AD d).row;refine⟨en,a,n.trans f,l,fun i c e hi y=>?_⟩;obtain⟨k,p,z,A,B,C⟩:=o i c e hi y;exact⟨k,p,z,A,B,C.mono q⟩
 ·obtain⟨en,a,f,l⟩:=(h.AD d).zd0;exact⟨en,a,n.trans f,l⟩
structure Fr (dr:Prop) (w:World) (L:Nat->Prop) (w':World):Prop where
 os:w'.os=w.os
 tape:w'.tape=w.tape
 output:w'.output=w.output
 size:w.heap.size<=w'.heap.size
 drawn:dr->w.drawn<=w'.drawn
 block:∀k,k<w.heap.size->¬L k->w'.heap[k]?=w.heap[k]?
theorem Fr.refl(w:World)(L:Nat->Prop):Fr dr w L w:=⟨rfl,rfl,rfl,zl _,fun _=>zl _,fun _ _ _=>rfl⟩
theorem Fr.trans{w w' c:World}{L:Nat->Prop}(h:Fr dr w L w'){f:Nat->Prop}(a:Fr dr w' f c)(i:∀b,b<w.heap.size->f b->L b):Fr dr w L c:=
 ⟨a.os.trans h.os,a.tape.trans h.tape,a.output.trans h.output,zI h.size a.size,fun d=>zI (h.drawn d) (a.drawn d),fun k e g=>(a.block k (ja e h.size) (fun j=>g (i k e j))).trans (h.block k e g)⟩
theorem Fr.lax{d:Prop}{w w':World}{L:Nat->Prop}(h:Fr d w L w')(hd:dr->d):Fr dr w L w':=⟨h.os,h.tape,h.output,h.size,fun e=>h.drawn (hd e),h.block⟩
theorem Fr.drew(w:World)(L:Nat->Prop):Fr dr w L w.drew:=⟨rfl,rfl,rfl,zl _,fun _=>yd _,fun _ _ _=>rfl⟩
structure St where
 σ:Nat->O
 Y:Hp
 Z:Nat
def lX(D:Nat):Deferred:={target:=.collected D,args:=#[]}
def Marks(c:Nat)(w:World)(S:Nat->Prop)(Y:Hp)(G:Nat->GI)(ds:List Deferred):Prop:=c<=w.heap.size/\∃a:List Nat,ds=a.map lX/\a.Nodup/\∀D∈a,c<=D/\w.heap[D]?=some (.deferred (some []))/\¬S D/\∀id b,Y id=some b->(G id).g≠D
theorem Marks.nil{a:Nat}{w:World}{S:Nat->Prop}{Y:Hp}{G:Nat->GI}(h:a<=w.heap.size):Marks a w S Y G []:=⟨h,[],rfl,by simp,by simp⟩
structure Q8 (dr:Prop) (P:Program) (w0:World) (S0 L:Nat->Prop) (N Z0:Nat) (G0:Nat->GI) (n0:Nat) (st:St) (S:Nat->Prop) (G:Nat->GI) (a:Act) (w:World):Prop where
 inv:Inv P w S G st.Y st.Z
 xZ:∀t,qw w S G st.Z (st.σ t) (a.tmps.getD t undef)
 size:a.tmps.size=N
 defers:Marks n0 w S st.Y G a.defers
 s0:∀b,S0 b->S b
 s1:∀b,S b->S0 b\/L b\/w0.heap.size<=b
 own:∀id b,st.Y id=some b->L (G id).g\/w0.heap.size<=(G id).g
 fr:Fr dr w0 L w
 up:Z0<=st.Z
 loc:∀id,id<Z0->G id=G0 id
def mF(dr:Prop)(P:Program)(b:World)(c L:Nat->Prop)(N Z0:Nat)(d:Nat->GI)(e:Nat)(st:St)(a:Act)(w:World):Prop:=∃S G,Q8 dr P b c L N Z0 d e st S G a w
theorem Xb{α:Type}{x:Option α}{a b:α}(h:x=some a)(e:a=b:=by kernel_rfl):x=some b:=h.trans (zo some e)
theorem wZ{α:Sort _}(a:α):∃x,a=x:=⟨_,rfl⟩
theorem vX{a:Int}(h:¬a=0):(a != 0)=true:=by simpa using h
theorem jN{α:Type}[BEq α][LawfulBEq α]{a b:α}(h:¬a=b):(a==b)=false:=by simpa using h
abbrev zb:=List O
abbrev Spec:=zb->Hp->Nat->Option (O×Hp×Nat)
abbrev QG:=zb->Hp->Option (zb×Hp)
structure Ctx where
 P:Program
 Γ:FuncId->Option Spec
 dyn:Nat->List (Tmp×Tmp):=fun _=>[]
 PJ:Nat->List Tmp:=fun _=>[]
 bk:FuncId->Bool:=fun _=>false
 fz:Nat->List Tmp:=fun _=>[]
 it:FuncId->Option QG:=fun _=>none
def Aq(st:St)(a b:Tmp):Prop:=∀id i j,st.σ a=.ref id i j->∃id' i' j' blk,st.σ b=.ref id' i' j'/\id≠id'/\st.Y id'=some blk/\blk.arr=false
def Yr(D:List (Tmp×Tmp))(st:St):Prop:=∀p∈D,Aq st p.1 p.2
def O.YM:O->Bool
 | .v _|.nil|.em|.sl _ _|.ptr _=>true
 |_=>false
def O.shut:O->Bool
 | .agg cs=>cs.all O.YM
 |x=>x.YM
def O.Kc:O->Bool
 | .w5 _=>true
 |x=>x.shut
abbrev zB:Nat:=1000000
def zc5(L:List Tmp)(st:St):Prop:=∀s∈L,(∀id o n,st.σ s≠.own id o n)/\∀id i j,st.σ s=.ref id i j->id<st.Z/\∃blk,st.Y id=some blk/\blk.arr=false
def QH(L:List Tmp)(st:St):Prop:=∀s∈L,((∀id o n,st.σ s≠.own id o n)/\∀id i j,st.σ s=.ref id i j->id<st.Z/\∃blk,st.Y id=some blk/\blk.arr=false)/\(zB<=s->(st.σ (s-zB)).Kc=true)
def fU:Value->Option O
 | .slice none 0 0=>some .nil
 | .bool b=>some (.v (.bool b))
 | .int k n=>some (.v (.int k n))
 | .string s=>some (.v (.string s))
 | .nilFunc=>some (.v .nilFunc)
 | .pointer none=>some (.v (.pointer none))
 | .nilIface=>some (.v .nilIface)
 | .map none=>some (.v (.map none))
 |_=>none
def xp:List Value->Option zb
 |[]=>some []
 |x::l=>match fU x,xp l with
  |some p,some r=>some (p::r)
  |_,_=>none
def mG:Value->Option O
 | .agg cs=>(xp cs.toList).map .agg
 |x=>fU x
def get(σ:Nat->O):Operand->Option O
 | .tmp t=>some (σ t)
 | .const x=>mG x
 | .func f=>some (.fn (.func f) [] [])
 | .global _=>none
def qE(P:Program)(t:TypeId):Option Nat:=(P.info? t).map (·.size)
def kD(P:Program)(t:TypeId):Option Nat:=(P.info? t).map (·.bytes)
def y8(P:Program)(t:TypeId):Option zb:=((P.info? t).bind (·.zero)).bind fun z=>xp z.cells.toList
def ye(P:Program)(t:TypeId):Option Bool:=(P.underlying t).map fun
 | .struct _|.array _ _=>true
 |_=>false
def yp(P:Program)(t:TypeId):Option TypeId:=match P.underlying t with
 |some (.slice e)=>some e
 |_=>none
def qY(P:Program)(t:TypeId)(f:Nat):Option (Nat×Nat×Bool):=match P.underlying t with
 |some (.struct b)=>match b[f]? with
  |some x=>match qE P x.type,ye P x.type with
   |some n,some a=>some (x.offset,n,a)
   |_,_=>none
  |none=>none
 |_=>none
def O.cells:O->zb
 | .agg cs=>cs
 |x=>[x]
def qM(P:Program)(t:TypeId)(cs:zb):Option O:=
 match ye P t,qE P t with
 |some true,some n=>if n<=cs.length then some (.agg (cs.take n))else none
 |some false,some _=>cs[0]?
 |_,_=>none
def O.kq:O->Bool
 | .own _ _ _=>true
 |_=>false
def O.noOwn:O->Bool
 | .agg cs=>!cs.any O.kq
 | .own _ _ _=>false
 |_=>true
def wI(Y:Hp):O->Option (O×Hp)
 | .own id off n=>match Y id with
  |some b=>if b.arr=true/\off+n<=b.es.length then some (.sl b.s ((b.es.drop off).take n),qq Y id none)else none
  |none=>none
 | .v x=>some (.v x,Y)
 | .nil=>some (.nil,Y)
 | .sl s es=>some (.sl s es,Y)
 | .em=>some (.em,Y)
 | .ptr cs=>some (.ptr cs,Y)
 | .fn f xs ys=>if xs.all O.shut=true/\ys.all O.shut=true then some (.fn f xs ys,Y)else none
 |_=>none
def wJ(Y:Hp):zb->Option (zb×Hp)
 |[]=>some ([],Y)
 |x::l=>match wI Y x with
  |some (y,Y1)=>match wJ Y1 l with
   |some (r,Y2)=>some (y::r,Y2)
   |none=>none
  |none=>none
def qt(Y:Hp):O->Option (O×Hp)
 | .agg cs=>match wJ Y cs with
  |some (l,h)=>some (.agg l,h)
  |none=>none
 |x=>wI Y x
def zC(Y:Hp):zb->Option (zb×Hp)
 |[]=>some ([],Y)
 |x::l=>match qt Y x with
  |some (y,Y1)=>match zC Y1 l with
   |some (r,Y2)=>some (y::r,Y2)
   |none=>none
  |none=>none
def freeze(Y:Hp):O->Option (O×Hp)
 | .w5 cs=>match zC Y cs with
  |some (l,h)=>some (.w5 l,h)
  |none=>none
 |x=>qt Y x
def view(Y:Hp)(n:Nat):O->Option (List zb)
 | .nil=>some []
 | .em=>some []
 | .sl s es=>if s=n then some es else none
 | .own id off k=>match Y id with
  |some b=>if b.arr=true/\b.s=n/\off+k<=b.es.length then some ((b.es.drop off).take k)else none
  |none=>none
 |_=>none
def PS(op:BinOp)(k:IntKind)(a b:Int):Option O:=
 match op with
 | .add=>some (.v (.int k (k.wrap (a+b))))
 | .sub=>some (.v (.int k (k.wrap (a-b))))
 | .mul=>some (.v (.int k (k.wrap (a*b))))
 | .quo=>if b=0 then none else some (.v (.int k (k.wrap (a.tdiv b))))
 | .rem=>if b=0 then none else some (.v (.int k (a.tmod b)))
 | .eql=>some (.v (.bool (a==b)))
 | .neq=>some (.v (.bool (a != b)))
 | .lss=>some (.v (.bool (decide (a<b))))
 | .leq=>some (.v (.bool (decide (a<=b))))
 | .gtr=>some (.v (.bool (decide (a>b))))
 | .geq=>some (.v (.bool (decide (a>=b))))
 | .and=>some (.v (.int k (k.wrap (BitVec.ofInt k.bits a &&& BitVec.ofInt k.bits b).toNat)))
 | .or=>some (.v (.int k (k.wrap (BitVec.ofInt k.bits a||| BitVec.ofInt k.bits b).toNat)))
 | .xor=>some (.v (.int k (k.wrap (BitVec.ofInt k.bits a ^^^ BitVec.ofInt k.bits b).toNat)))
 | .andNot=>some (.v (.int k (k.wrap (BitVec.ofInt k.bits a &&& ~~~ BitVec.ofInt k.bits b).toNat)))
 | .shr=>if b<0 then none else some (.v (.int k (a.fdiv (2 ^ (min b.toNat k.bits)))))
 | .shl=>if b<0 then none else some (.v (.int k (k.wrap (a*2 ^ (min b.toNat k.bits)))))
def PT(op:BinOp)(a b:ByteArray):Option O:=
 match op with
 | .add=>if a.size+b.size<=maxLen then some (.v (.string (a++b)))else none
 | .eql=>some (.v (.bool (a.toList==b.toList)))
 | .neq=>some (.v (.bool (!(a.toList==b.toList))))
 | .lss=>some (.v (.bool (Op.bytesLess a.toList b.toList)))
 | .leq=>some (.v (.bool (Op.bytesLess a.toList b.toList||a.toList==b.toList)))
 | .gtr=>some (.v (.bool (!(Op.bytesLess a.toList b.toList||a.toList==b.toList))))
 | .geq=>some (.v (.bool (!(Op.bytesLess a.toList b.toList))))
 |_=>none
def ym:List Nat->zb->zb->Option Bool
 |[],_,_=>some true
 | 0::c,.v (.int k a)::xs,.v (.int d b)::ys=>if k=d then(ym c xs ys).map ((a==b)&&·)else none
 | 1::c,.v (.bool a)::xs,.v (.bool b)::ys=>(ym c xs ys).map ((a==b)&&·)
 | 2::c,.v (.string a)::xs,.v (.string b)::ys=>(ym c xs ys).map ((a==b)&&·)
 |_,_,_=>none
def MR(P:Program)(t:TypeId):Option Nat:=match P.underlying t with
 |some (.int _)=>some 0
 |some .bool=>some 1
 |some .string=>some 2
 |_=>none
def tx(P:Program):Nat->List Field->Option (List Nat)
 |_,[]=>some []
 |i,f::a=>if f.offset=i/\f.name≠ "_" then match MR P f.type,tx P (i+1) a with
   |some k,some b=>some (k::b)
   |_,_=>none
  else none
def subA(P:Program)(t:TypeId):Option (List Nat):=if P.stoodInHeld t=true then none else match P.underlying t with
 |some (.struct gs)=>match tx P 0 gs.toList with
  |some a=>if qE P t=some a.length then some a else none
  |none=>none
 |_=>none
def tz(P:Program):Nat->List Field->Option (List Nat)
 |_,[]=>some []
 |i,f::b=>if f.offset=i/\f.name≠ "_" then match MR P f.type with
   |some k=>match tz P (i+1) b with
    |some a=>some (k::a)
    |none=>none
   |none=>match subA P f.type with
    |some c=>match tz P (i+c.length) b with
     |some a=>some (c++a)
     |none=>none
    |none=>none
  else none
def Dd(P:Program)(t:TypeId):Option (List Nat):=
 if P.stoodInHeld t=true\/P.eqGuardType P.depth t=true then none else
 match P.underlying t with
 |some (.struct a)=>tz P 0 a.toList
 |_=>none
def Vh:O->Option Bool
 | .nil=>some true
 | .em=>some false
 | .own _ _ _=>some false
 | .sl _ (_::_)=>some false
 |_=>none
def Qi(P:Program)(op:BinOp)(t:TypeId):O->O->Option O
 | .v (.int k a),.v (.int d b)=>if k=d then PS op k a b else none
 | .v (.string a),.v (.string b)=>PT op a b
 | .v (.bool a),.v (.bool b)=>match op,P.underlying t with
  | .eql,some .bool=>some (.v (.bool (a==b)))
  | .neq,some .bool=>some (.v (.bool (!(a==b))))
  |_,_=>none
 | .agg xs,.agg ys=>match Dd P t with
  |some c=>match op with
   | .eql=>(ym c xs ys).map fun r=>.v (.bool r)
   | .neq=>(ym c xs ys).map fun r=>.v (.bool !r)
   |_=>none
  |none=>none
 |p,.nil=>match yp P t,Vh p,op with
  |some _,some r,.eql=>some (.v (.bool r))
  |some _,some r,.neq=>some (.v (.bool !r))
  |_,_,_=>none
 |_,_=>none
def G6(P:Program)(t:TypeId):Bool:=match P.underlying t with
 |some (.interface _)=>true
 |_=>false
def isK:Operand->Bool
 | .const _=>true
 |_=>false
def Lx(P:Program)(op:BinOp)(t:TypeId):Option O:=if G6 P t=true then match op with
 | .eql=>some (.v (.bool true))
 | .neq=>some (.v (.bool false))
 |_=>none
 else none
def Xy(c:Bool)(P:Program)(op:BinOp)(t:TypeId)(p q:O):Option O:=match c,q,p with
 |true,.v .nilIface,.v .nilIface=>Lx P op t
 |_,q,p=>Qi P op t p q
@[simp]theorem zgM(P:Program)(op:BinOp)(t:TypeId)(p q:O):Xy false P op t p q=Qi P op t p q:=rfl
@[simp]theorem zi0(t:Tmp):isK (.tmp t)=false:=rfl
@[simp]theorem zfO(v:Value):isK (.const v)=true:=rfl
@[simp]theorem zgN(f:FuncId):isK (.func f)=false:=rfl
@[simp]theorem zgO(c:Bool)(P:Program)(op:BinOp)(t:TypeId)(p:O)(k:IntKind)(n:Int):Xy c P op t p (.v (.int k n))=Qi P op t p (.v (.int k n)):=by cases c<;>rfl
@[simp]theorem zgP(c:Bool)(P:Program)(op:BinOp)(t:TypeId)(p:O)(s:ByteArray):Xy c P op t p (.v (.string s))=Qi P op t p (.v (.string s)):=by cases c<;>rfl
@[simp]theorem zfP(c:Bool)(P:Program)(op:BinOp)(t:TypeId)(p:O)(b:Bool):Xy c P op t p (.v (.bool b))=Qi P op t p (.v (.bool b)):=by cases c<;>rfl
@[simp]theorem zgQ(c:Bool)(P:Program)(op:BinOp)(t:TypeId)(p:O):Xy c P op t p .nil=Qi P op t p .nil:=by cases c<;>rfl
@[simp]theorem zfQ(P:Program)(op:BinOp)(t:TypeId):Xy true P op t (.v .nilIface) (.v .nilIface)=Lx P op t:=rfl
def ga(op:UnOp):O->Option O
 | .v (.bool b)=>match op with
  | .not=>some (.v (.bool !b))
  |_=>none
 | .v (.int k n)=>match op with
  | .neg=>some (.v (.int k (k.wrap (0-n))))
  |_=>none
 |_=>none
def bQ(P:Program)(a dst:TypeId):O->Option O
 | .v (.int _ n)=>match P.underlying a,P.underlying dst with
  |some _,some (.int k)=>some (.v (.int k (k.wrap n)))
  |_,_=>none
 | .v (.string s)=>match P.underlying a,P.underlying dst with
  |some _,some .string=>some (.v (.string s))
  |_,_=>none
 |_=>none
def vD(a:Nat):Option (Option O)->Option Nat
 |none=>some a
 |some (some (.v (.int _ i)))=>if 0<=i then some i.toNat else none
 |_=>none
def jO(P:Program)(Y:Hp)(t:TypeId)(x:O)(lo hi:Option (Option O)):Option O:=
 match P.underlying t,x with
 |some .string,.v (.string s)=>match vD 0 lo,vD s.size hi with
  |some l,some h=>if l<=h/\h<=s.size then some (.v (.string (s.extract l h)))else none
  |_,_=>none
 |some (.slice e),.sl s es=>match qE P e,vD 0 lo,vD es.length hi with
  |some n,some l,some h=>if s=n/\l<=h/\h<=es.length then some (.sl s ((es.drop l).take (h-l)))else none
  |_,_,_=>none
 |some (.slice e),.nil=>match qE P e,vD 0 lo,vD 0 hi with
  |some _,some l,some h=>if l=0/\h=0 then some .nil else none
  |_,_,_=>none
 |some (.slice e),.own id off n=>match qE P e,vD 0 lo,vD n hi with
  |some m,some l,some h=>match Y id with
   |some b=>if b.s=m/\l<=h/\h<=n then some (if l=0 then .own id off h else if h=l then .sl m []else .own id (off+l) (h-l))else none
   |none=>none
  |_,_,_=>none
 |_,_=>none
def aG(k:IntKind)(x:Int):zb->Option O
 |[]=>some (.v (.int k x))
 | .v (.int a y)::l=>if k=a then aG k (if y<x then y else x) l else none
 |_=>none
def PU:zb->Option O
 | .v (.int k x)::l=>aG k x l
 |_=>none
def aH(k:IntKind)(x:Int):zb->Option O
 |[]=>some (.v (.int k x))
 | .v (.int a y)::l=>if k=a then aH k (if y>x then y else x) l else none
 |_=>none
def PW:zb->Option O
 | .v (.int k x)::l=>aH k x l
 |_=>none
def Vi(P:Program)(t:TypeId):O->Option O
 | .v (.string s)=>match P.underlying t with
  |some .string=>some (.v (.int .i64 s.size))
  |_=>none
 | .v (.slice (some _) 0 0)=>(yp P t).map fun _=>.v (.int .i64 0)
 | .sl _ es=>(yp P t).map fun _=>.v (.int .i64 es.length)
 | .nil=>(yp P t).map fun _=>.v (.int .i64 0)
 | .em=>(yp P t).map fun _=>.v (.int .i64 0)
 | .own _ _ n=>(yp P t).map fun _=>.v (.int .i64 n)
 |_=>none
def js(cs:zb)(off:Nat):zb->zb
 |[]=>cs
 |x::l=>js (cs.set off x) (off+1) l
def qS(a:Nat->Option (Nat×Nat))(cs:zb):List (Nat×O)->Option zb
 |[]=>some cs
 |(i,x)::rest=>match a i with
  |some (off,n)=>if x.cells.length=n/\off+n<=cs.length/\x.cells.all O.yk=true then qS a (js cs off x.cells) rest else none
  |none=>none
def yH{α:Type}:List (Option α)->Option (List α)
 |[]=>some []
 |some x::l=>(yH l).map (x::·)
 |none::_=>none
def vY(a:Operand->Option O):List (Nat×Operand)->Option (List (Nat×O))
 |[]=>some []
 |(i,x)::l=>match a x,vY a l with
  |some p,some r=>some ((i,p)::r)
  |_,_=>none
def ZG(P:Program)(t:TypeId):Option (List (Nat×Nat)):=match P.underlying t with
 |some (.struct a)=>a.toList.mapM (fun f=>(P.info? f.type).map fun i=>(f.offset,i.size))
 |_=>none
def qv(P:Program)(t:TypeId)(a:List (Nat×O)):Option O:=
 match ZG P t,y8 P t with
 |some b,some z=>(qS (fun i=>b[i]?) z a).map .agg
 |none,some z=>match P.underlying t with
  |some (.array _ e)=>match qE P e with
   |some n=>(qS (fun i=>some (i*n,n)) z a).map .agg
   |none=>none
  |_=>none
 |_,_=>none
def zr(Y:Hp):List (Nat×O)->Option (List (Nat×O)×Hp)
 |[]=>some ([],Y)
 |(i,x)::l=>match qt Y x with
  |some (y,Y1)=>match zr Y1 l with
   |some (r,Y2)=>some ((i,y)::r,Y2)
   |none=>none
  |none=>none
def zJ(n:Nat)(es:List zb):List (Nat×O)->Option (List zb)
 |[]=>some es
 |(i,x)::l=>if x.cells.length=n/\i<es.length/\x.cells.all O.yk=true then zJ n (es.set i x.cells) l else none
def zt(P:Program)(Y:Hp)(Z:Nat)(t:TypeId)(len:Nat)(a:List (Nat×O)):Option (O×Hp×Nat):=
 match yp P t with
 |some e=>match qE P e,y8 P e,zr Y a with
  |some n,some z,some (b,Y1)=>if 0<n/\z.length=n/\len*n<=16777216 then
    match zJ n (List.replicate len z) b with
    |some es=>some (.own Z 0 len,qq Y1 Z (some ⟨e,n,true,es⟩),Z+1)
    |none=>none
   else none
  |_,_,_=>none
 |none=>none
def Wn(P:Program)(Y:Hp)(Z:Nat)(t:TypeId):O->O->Option (O×Hp×Nat)
 | .v (.int _ l),.v (.int _ c)=>match yp P t with
  |some e=>match qE P e,kD P e,y8 P e with
   |some n,some by_,some z=>if 0<n/\z.length=n/\0<=l/\l<=c/\c.toNat<=maxLen/\c.toNat*by_<=140737488355328 then
     some (.own Z 0 l.toNat,qq Y Z (some ⟨e,n,true,List.replicate l.toNat z⟩),Z+1)
    else none
   |_,_,_=>none
  |none=>none
 |_,_=>none
def PX(P:Program)(u:TypeId):Bool:=match P.underlying u with
 |some .string=>true
 |_=>false
def De(P:Program)(e:TypeId):Bool:=match P.info? e with
 |some i=>match i.zero with
  |some (.int .u8 z)=>z==0&&i.size==1&&i.bytes==1
  |_=>false
 |none=>false
def nf(P:Program)(Y:Hp)(n:Nat)(e t u:TypeId):O->Option (List zb)
 | .v (.string b)=>if PX P u=true/\De P e=true then some (b.data.toList.map fun c=>[.v (.int .u8 c.toNat)])else none
 |x=>if u=t then view Y n x else none
def jb(P:Program)(Y:Hp)(Z:Nat)(t u:TypeId)(s x:O):Option (O×Hp×Nat):=
 match yp P t with
 |some e=>match qE P e,kD P e,y8 P e with
  |some n,some by_,some z=>match nf P Y n e t u x with
   |some xs=>match s with
    | .nil=>
     if 0<n/\z.length=n/\xs.length<=maxLen/\xs.length*by_<=140737488355328 then
      if xs.length=0 then some (.nil,Y,Z)
      else some (.own Z 0 xs.length,qq Y Z (some ⟨e,n,true,xs⟩),Z+1)
     else none
    | .own id 0 k=>match Y id with
     |some b=>if b.arr=true/\b.e=e/\k=b.es.length/\0<n/\z.length=n/\k+xs.length<=maxLen/\(k+xs.length)*by_<=140737488355328 then
       some (.own Z 0 (k+xs.length),qq (qq Y id none) Z (some ⟨e,n,true,b.es++xs⟩),Z+1)
      else none
     |none=>none
    |_=>none
   |none=>none
  |_,_,_=>none
 |none=>none
def Ly(P:Program)(Y:Hp)(Z:Nat)(t:TypeId)(d x:O):Option (O×Hp×Nat):=
 match yp P t,d with
 |some e,.own id off k=>match Y id,qE P e with
  |some b,some n=>match view Y n x with
   |some xs=>if b.arr=true/\b.e=e/\off+k<=b.es.length/\0<n then
     some (.v (.int .i64 (min xs.length k:Nat)),qq Y id (some ⟨b.e,b.s,true,b.es.take off++xs.take (min xs.length k)++b.es.drop (off+min xs.length k)⟩),Z)
    else none
   |none=>none
  |_,_=>none
 |_,_=>none
def fV(P:Program)(Y:Hp)(Z:Nat)(t:TypeId)(x:O):Option (O×Hp×Nat):=
 match yp P t,x with
 |some e,.own id off k=>match Y id,qE P e,y8 P e with
  |some b,some n,some z=>if(0<n/\z.length=n)/\b.arr=true/\b.e=e/\off+k<=b.es.length/\0<k then
    some (.w5 [],qq Y id (some ⟨b.e,b.s,true,b.es.take off++List.replicate k z++b.es.drop (off+k)⟩),Z)
   else none
  |_,_,_=>none
 |_,_=>none
def Ze(P:Program)(Y:Hp)(t:TypeId):O->Option O
 | .ptr cs=>qM P t cs
 | .ref id i j=>match Y id with
  |some b=>match b.es[i]? with
   |some c=>qM P t (c.drop j)
   |none=>none
  |none=>none
 |_=>none
def Qj(P:Program)(Y:Hp)(t:TypeId)(a x:O):Option Hp:=
 match a with
 | .ref id i j=>match Y id with
  |some d=>match(if d.arr=true then qt Y x else some (x,Y))with
   |some (y,Y1)=>match Y1 id,qE P t with
    |some b,some n=>match b.es[i]? with
     |some c=>if y.cells.length=n/\j+n<=c.length/\y.cells.all O.yk=true then
       some (qq Y1 id (some ⟨b.e,b.s,b.arr,b.es.set i (js c j y.cells)⟩))else none
     |none=>none
    |_,_=>none
   |none=>none
  |none=>none
 |_=>none
def jv(P:Program)(t:TypeId)(f:Nat):O->Option O
 | .ptr cs=>match qY P t f with
  |some (o,n,_)=>if n=0 then none else some (.ptr (cs.drop o))
  |none=>none
 | .ref id i j=>match qY P t f with
  |some (o,n,_)=>if n=0 then none else some (.ref id i (j+o))
  |none=>none
 |_=>none
def Qw(P:Program)(t:TypeId)(f:Nat):O->Option O
 | .agg cs=>match qY P t f with
  |some (o,n,true)=>if o+n<=cs.length then some (.agg ((cs.drop o).take n))else none
  |some (o,_,false)=>cs[o]?
  |none=>none
 |_=>none
def Df(P:Program)(t:TypeId):Option (Nat×TypeId):=match P.underlying t with
 |some (.array n e)=>some (n,e)
 |_=>none
def ZH(P:Program)(t:TypeId)(i:Int)(x:O):Option O:=
 match Df P t with
 |some (m,e)=>match qE P e with
  |some n=>if 0<=i/\i<m then match x with
    | .ptr cs=>some (.ptr (cs.drop (i.toNat*n)))
    | .ref id a b=>some (.ref id a (b+i.toNat*n))
    |_=>none
   else none
  |none=>none
 |none=>none
def qW(P:Program)(Y:Hp)(t:TypeId):O->O->Option O
 |x,.v (.int _ i)=>match yp P t with
  |some e=>match qE P e,x with
   |some n,.sl s es=>if s=n/\0<n/\0<=i then(es[i.toNat]?).map .ptr else none
   |some n,.own id off k=>match Y id with
    |some b=>if b.e=e/\0<n/\0<=i/\i.toNat<k then some (.ref id (off+i.toNat) 0)else none
    |none=>none
   |_,_=>none
  |none=>ZH P t i x
 |_,_=>none
def Wo(P:Program)(t:TypeId):O->O->Option O
 | .v (.string s),.v (.int _ i)=>match P.underlying t with
  |some .string=>if 0<=i then match s[i.toNat]? with
    |some b=>some (.v (.int .u8 b.toNat))
    |none=>none
   else none
  |_=>none
 |_,_=>none
def dJ(P:Program)(t:TypeId):Option (Option IntKind×TypeId):=match P.underlying t with
 |some (.map b a)=>match P.underlying b with
  |some (.int k)=>some (some k,a)
  |some .string=>some (none,a)
  |_=>none
 |_=>none
def iH:Option IntKind->Value->Bool
 |some k,.int a _=>a==k
 |none,.string _=>true
 |_,_=>false
def YN:Value->Value->Option Bool
 | .int k a,.int c b=>if k=c then some (a==b)else none
 | .string a,.string b=>some (a.toList==b.toList)
 |_,_=>none
def KB(k:Value):List zb->Nat->Option (Option (Nat×O))
 |[],_=>some none
 |[.v a,v]::l,i=>match YN k a with
  |some true=>some (some (i,v))
  |some false=>KB k l (i+1)
  |none=>none
 |_::_,_=>none
def dK(P:Program)(t:TypeId):Option O:=((P.info? t).bind (·.zero)).bind mG
def Dg(Y:Hp):O->Option (List zb)
 | .mp id=>match Y id with
  |some b=>if b.s=0 then some b.es else none
  |none=>none
 | .v (.map none)=>some []
 |_=>none
def JM(P:Program)(Y:Hp)(t:TypeId)(x a:O)(b:Bool):Option O:=
 match dJ P t,Dg Y x,a with
 |some (c,d),some es,.v k=>if iH c k=true then match KB k es 0 with
   |some (some (_,v))=>some (if b=true then .w5 [v,.v (.bool true)]else v)
   |some none=>(dK P d).map fun z=>if b=true then .w5 [z,.v (.bool false)]else z
   |none=>none
  else none
 |_,_,_=>none
def JN(P:Program)(Y:Hp)(t:TypeId)(x a y:O):Option Hp:=
 match dJ P t,x,a with
 |some (c,_),.mp id,.v k=>if iH c k=true then match qt Y y with
   |some (z,Y1)=>match Y1 id with
    |some b=>if b.s=0 then match KB k b.es 0 with
      |some (some (i,_))=>some (qq Y1 id (some ⟨b.e,b.s,b.arr,b.es.set i [.v k,z]⟩))
      |some none=>some (qq Y1 id (some ⟨b.e,b.s,b.arr,b.es++[[.v k,z]]⟩))
      |none=>none
     else none
    |none=>none
   |none=>none
  else none
 |_,_,_=>none
def yQ(P:Program)(Y:Hp)(Z:Nat)(ts:Array TypeId)(b:Builtin)(xs:zb):Option (O×Hp×Nat):=
 match b with
 | .len=>match xs,ts[0]? with
  |[x],some t=>(Vi P t x).map fun y=>(y,Y,Z)
  |_,_=>none
 | .min=>(PU xs).map fun y=>(y,Y,Z)
 | .max=>(PW xs).map fun y=>(y,Y,Z)
 | .append=>match xs,ts[0]?,ts[1]? with
  |[s,x],some t,some u=>jb P Y Z t u s x
  |_,_,_=>none
 | .copy=>match xs,ts[0]? with
  |[d,x],some t=>Ly P Y Z t d x
  |_,_=>none
 | .clear=>match xs,ts[0]? with
  |[x],some t=>fV P Y Z t x
  |_,_=>none
 |_=>none
def kg(C:Ctx)(Y:Hp)(Z:Nat)(f:Option O)(xs:zb):Option (O×Hp×Nat):=
 match f with
 |some (.fn (.func g) first a)=>match C.Γ g with
  |some b=>b (first++xs++a) Y Z
  |none=>none
 |_=>none
def Zp(C:Ctx)(a:Operand->Option O)(Y:Hp)(Z:Nat)(c:Call):Option (O×Hp×Nat):=
 match yH (c.args.toList.map a)with
 |some xs=>match c.callee with
  | .builtin b=>yQ C.P Y Z c.argTypes b xs
  | .value f=>kg C Y Z (a f) xs
  | .invoke _ _=>none
 |none=>none
def qb(C:Ctx)(d:Operand->Option O)(Y:Hp)(Z:Nat)(o:Op):Option (O×Hp×Nat):=
 match o with
 | .move x=>(d x).map fun y=>(y,Y,Z)
 | .assign x=>(d x).map fun y=>(y,Y,Z)
 | .pick c a b=>match d c with
  |some (.v (.bool true))=>(d a).map fun y=>(y,Y,Z)
  |some (.v (.bool false))=>(d b).map fun y=>(y,Y,Z)
  |_=>none
 | .alloc t=>match qE C.P t,y8 C.P t with
  |some n,some z=>if 0<n/\z.length=n then some (.ref Z 0 0,qq Y Z (some ⟨t,n,false,[z]⟩),Z+1)else none
  |_,_=>none
 | .box t x=>match qE C.P t,d x with
  |some n,some y=>if 0<n/\y.cells.length=n/\y.cells.all O.yk=true then some (.ref Z 0 0,qq Y Z (some ⟨t,n,false,[y.cells]⟩),Z+1)else none
  |_,_=>none
 | .build t e=>match vY d e.toList with
  |some s=>(qv C.P t s).map fun y=>(y,Y,Z)
  |none=>none
 | .buildSlice t len e=>match vY d e.toList with
  |some s=>zt C.P Y Z t len s
  |none=>none
 | .load t a=>match d a with
  |some p=>(Ze C.P Y t p).map fun y=>(y,Y,Z)
  |none=>none
 | .store t a x=>match d a,d x with
  |some p,some y=>(Qj C.P Y t p y).map fun h=>(.w5 [],h,Z)
  |_,_=>none
 | .nilCheck x=>match d x with
  |some (.ref id i j)=>some (.ref id i j,Y,Z)
  |some (.ptr cs)=>some (.ptr cs,Y,Z)
  |_=>none
 | .binOp op t x y _=>match d x,d y with
  |some p,some q=>(Xy (isK y) C.P op t p q).map fun r=>(r,Y,Z)
  |_,_=>none
 | .unOp op _ x=>match d x with
  |some p=>(ga op p).map fun r=>(r,Y,Z)
  |none=>none
 | .convert u dst x=>match d x with
  |some p=>(bQ C.P u dst p).map fun r=>(r,Y,Z)
  |none=>none
 | .makeFunc f first g=>match yH (first.toList.map d),yH (g.toList.map d)with
  |some xs,some ys=>some (.fn f xs ys,Y,Z)
  |_,_=>none
 | .makeSlice t l c=>match d l,d c with
  |some p,some q=>Wn C.P Y Z t p q
  |_,_=>none
 | .slice t x lo hi none=>match d x with
  |some p=>(jO C.P Y t p (lo.map d) (hi.map d)).map fun r=>(r,Y,Z)
  |none=>none
 | .fieldAddr t x f=>match d x with
  |some p=>(jv C.P t f p).map fun r=>(r,Y,Z)
  |none=>none
 | .field t x f=>match d x with
  |some p=>(Qw C.P t f p).map fun r=>(r,Y,Z)
  |none=>none
 | .indexAddr t x i=>match d x,d i with
  |some p,some q=>(qW C.P Y t p q).map fun r=>(r,Y,Z)
  |_,_=>none
 | .index t x i=>match d x,d i with
  |some p,some q=>(Wo C.P t p q).map fun r=>(r,Y,Z)
  |_,_=>none
 | .extract x i=>match d x with
  |some (.w5 vs)=>(vs[i]?).map fun r=>(r,Y,Z)
  |_=>none
 | .call c=>Zp C d Y Z c
 | .makeMap t none=>match dJ C.P t with
  |some _=>some (.mp Z,qq Y Z (some ⟨t,0,false,[]⟩),Z+1)
  |none=>none
 | .lookup t x i w=>match d x,d i with
  |some p,some q=>(JM C.P Y t p q w).map fun r=>(r,Y,Z)
  |_,_=>none
 | .mapUpdate t m k x=>match d m,d k,d x with
  |some p,some q,some y=>(JN C.P Y t p q y).map fun h=>(.w5 [],h,Z)
  |_,_,_=>none
 | .insert t m k x=>match d m,d k,d x with
  |some p,some q,some y=>(JN C.P Y t p q y).map fun h=>(.w5 [],h,Z)
  |_,_,_=>none
 |_=>none
def put(σ:Nat->O)(dst:Option Tmp)(x:O):Nat->O:=
 match dst with
 |some d=>qq σ d x
 |none=>σ
def Wq(a:Array Oper)(σ:Nat->O)(j:Nat):Option Bool:=
 match(a[j]?).bind (·.dst)with
 |some d=>match σ d with
  | .v (.bool b)=>some b
  |_=>none
 |none=>none
def jd(C:Ctx)(a:Array Oper)(o:Oper)(st:St):Option St:=
 if Region.wanted o (Wq a st.σ)=true then
  match qb C (get st.σ) st.Y st.Z o.op with
  |some (x,Y,Z)=>some ⟨put st.σ o.dst x,Y,Z⟩
  |none=>none
 else some ⟨put st.σ o.dst (.w5 []),st.Y,st.Z⟩
def xS(C:Ctx)(a:Array Oper):List Oper->St->Option St
 |[],st=>some st
 |o::l,st=>match jd C a o st with
  |some b=>xS C a l b
  |none=>none
def iter(f:St->Option (Exit×St)):Nat->St->Option (Exit×St)
 | 0,_=>none
 |n+1,st=>match f st with
  |some (.normal,a)=>iter f n a
  |r=>r
open Classical in
noncomputable def bR (f:St->Option (Exit×St)) (st:St):Option (Exit×St):=
 if h:∃n,(iter f n st).isSome=true then iter f (Classical.choose h) st else none
def CT:List Tmp->St->Option St
 |[],st=>some st
 |t::l,st=>match qt st.Y (st.σ t)with
  |some (y,Y1)=>CT l ⟨qq st.σ t y,Y1,st.Z⟩
  |none=>none
def Vj(b c:St->Option (Exit×St))(σ:Nat->O)(p:Tmp):zb->Hp->Nat->Option (Exit×Hp×Nat)
 |[],Y,Z=>some (.normal,Y,Z)
 |x::xs,Y,Z=>match b ⟨qq σ p x,Y,Z⟩with
  |some (.normal,d)=>match c d with
   |some (.normal,a)=>Vj b c σ p xs a.Y a.Z
   |some (.ret,a)=>some (.ret,a.Y,a.Z)
   |some (.exit i,a)=>some (.exit i,a.Y,a.Z)
   |_=>none
  |_=>none
open Classical in
noncomputable def wA (C:Ctx):Code->St->Option (Exit×St)
 | .skip,st=>some (.normal,st)
 | .region id j _,k=>match CT (C.fz id) k with
  |some st=>if Yr (C.dyn id) st/\QH (C.PJ id) st then match xS C j j.toList st with
   |some d=>some (.normal,d)
   |none=>none
   else none
  |none=>none
 | .seq a b,st=>match wA C a st with
  |some (.normal,d)=>wA C b d
  |r=>r
 | .cond c x y,st=>match get st.σ c with
  |some (.v (.bool true))=>wA C x st
  |some (.v (.bool false))=>wA C y st
  |_=>none
 | .block id h,st=>match wA C h st with
  |some (.exit i,d)=>if i=id then some (.normal,d)else some (.exit i,d)
  |r=>r
 | .loop h,st=>bR (wA C h) st
 | .exit id,st=>some (.exit id,st)
 | .ret,st=>some (.ret,st)
 | .label _,st=>some (.normal,st)
 | .rangeFunc f m a b,st=>match m.toList,get st.σ f with
  |[p],some (.fn (.func g) [] cap)=>match C.it g with
   |some it=>match it cap st.Y with
    |some (xs,Y1)=>match Vj (wA C a) (wA C b) st.σ p xs Y1 st.Z with
     |some (e,Y2,l)=>some (e,⟨st.σ,Y2,l⟩)
     |none=>none
    |none=>none
   |none=>none
  |_,_=>none
 |_,_=>none
def YO(P:Program)(st:St):ResultVar->Option O
 | .tmp t=>some (st.σ t)
 | .cell a t=>Ze P st.Y t (st.σ a)
def Zq(P:Program)(fn:Func)(st:St):Option O:=
 match yH (fn.results.toList.map (YO P st))with
 |some [x]=>some x
 |some xs=>some (.w5 xs)
 |none=>none
def vn(args:zb):Nat->O:=fun t=>(args[t]?).getD (.w5 [])
noncomputable def yR (C:Ctx) (fn:Func) (args:zb) (Y:Hp) (Z:Nat):Option (O×Hp×Nat):=
 match fn.body with
 |some code=>match wA C code ⟨vn args,Y,Z⟩with
  |some (.normal,st)=>(Zq C.P fn st).map fun x=>(x,st.Y,st.Z)
  |some (.ret,st)=>(Zq C.P fn st).map fun x=>(x,st.Y,st.Z)
  |_=>none
 |none=>none
noncomputable def zv (C:Ctx) (fn:Func) (args:zb):Option O:=
 match yR C fn args (fun _=>none) 0 with
 |some (x,Y,_)=>(freeze Y x).map (·.1)
 |none=>none
theorem tA(f:St->Option (Exit×St)):∀(n k:Nat) (st:St) (r:Exit×St),iter f n st=some r->iter f (n+k) st=some r:=by
 intro n
 induction n with
 |zero=>intro k st r h;simp[iter]at h
 |succ n b=>
  intro k st r h;rw[show n+1+k=(n+k)+1 from by omega];simp only[iter]at h⊢;split at h
  ·rename_i a c;simp only[b k a r h]
  ·simpa using h
theorem Kf{f:St->Option (Exit×St)}{n:Nat}{st:St}{r:Exit×St}(h:iter f n st=some r):bR f st=some r:=by have c:∃n,(iter f n st).isSome=true:=⟨n,by simp[h]⟩;unfold bR;rw[zcP c];have e:=jX c;obtain⟨g,d⟩:=Option.isSome_iff_exists.1 e;rw[d];have a:=tA f _ (Classical.choose c) st r h;have b:=tA f _ n st g d;rw[Q5]at b;rw[a]at b;exact b.symm
theorem WI{f:St->Option (Exit×St)}{st:St}{r:Exit×St}(h:bR f st=some r):∃n,iter f n st=some r:=by
 unfold bR at h;split at h
 ·exact⟨_,h⟩
 ·cases h
theorem Ar(f:St->Option (Exit×St))(st:St):bR f st=match f st with
  |some (.normal,a)=>bR f a
  |r=>r:=by
 cases d:f st with
 |none=>
  simp only[];cases c:bR f st with
  |none=>rfl
  |some r=>
   obtain⟨n,b⟩:=WI c;cases n with
   |zero=>simp[iter]at b
   |succ n=>simp[iter,d]at b
 |some p=>
  obtain⟨e,a⟩:=p;by_cases h:e=.normal
  ·subst h;simp only[];cases c:bR f a with
   |some r=>obtain⟨n,b⟩:=WI c;exact Kf (n:=n+1) (by simp[iter,d,b])
   |none=>
    cases g:bR f st with
    |none=>rfl
    |some r=>
     obtain⟨n,b⟩:=WI g;cases n with
     |zero=>simp[iter]at b
     |succ n=>simp only[iter,d]at b;rw[Kf b]at c;cases c
  ·have i:iter f 1 st=some (e,a):=by simp only[iter,d];cases e<;>simp_all
   rw[Kf i];cases e<;>simp_all
variable{dr:Prop}
def ke(Y:Hp)(G:Nat->GI)(b:Nat):Prop:=∃id blk,Y id=some blk/\(G id).g=b
structure kW (dr:Prop) (P:Program) (Y:Hp) (Z:Nat) (S:Nat->Prop) (G:Nat->GI) (w:World) (Y':Hp) (Z':Nat) (S':Nat->Prop) (G':Nat->GI) (w':World):Prop where
 inv:Inv P w' S' G' Y' Z'
 up:Z<=Z'
 loc:∀id,id<Z->G' id=G id
 keep:∀b,S b->S' b
 from_:∀b,S' b->S b\/ke Y G b\/w.heap.size<=b
 own:∀id blk,Y' id=some blk->ke Y G (G' id).g\/w.heap.size<=(G' id).g
 fr:Fr dr w (ke Y G) w'
theorem kW.same{P:Program}{Y Y':Hp}{Z Z':Nat}{S S':Nat->Prop}{G G':Nat->GI}{w w':World}(h:kW dr P Y Z S G w Y' Z' S' G' w')(hi:Inv P w S G Y Z) :
  ∀b,S b->S' b/\w'.heap[b]?=w.heap[b]?:=fun b a=>
 ⟨h.keep b a,h.fr.block b (hi.st b a) fun⟨id,blk,hid,e⟩=>hi.apart id blk hid (e ▸ a)⟩
theorem kW.refl{P:Program}{Y:Hp}{Z:Nat}{S:Nat->Prop}{G:Nat->GI}{w:World}(h:Inv P w S G Y Z):kW dr P Y Z S G w Y Z S G w:=
 ⟨h,zl _,fun _ _=>rfl,fun _ h=>h,fun _ h=>.inl h,fun id blk a=>.inl ⟨id,blk,a,rfl⟩,Fr.refl _ _⟩
theorem kW.trans{P:Program}{Y Y' a:Hp}{Z Z' c:Nat}{S S' f:Nat->Prop}{G G' g:Nat->GI}{w w' i:World}
  (h:kW dr P Y Z S G w Y' Z' S' G' w') (k:kW dr P Y' Z' S' G' w' a c f g i):kW dr P Y Z S G w a c f g i:=by
 have j:∀b,ke Y' G' b->ke Y G b\/w.heap.size<=b:=by rintro b ⟨id,blk,h1,rfl⟩;exact h.own id blk h1
 refine⟨k.inv,zI h.up k.up,fun id hid=>(k.loc id (ja hid h.up)).trans (h.loc id hid),fun b d=>k.keep b (h.keep b d),fun b d=>?_,fun id blk d=>?_,?_⟩
 ·rcases k.from_ b d with h1|h1|h1
  ·exact h.from_ b h1
  ·rcases j b h1 with e|e
   ·exact .inr (.inl e)
   ·exact .inr (.inr e)
  ·exact .inr (.inr (zI h.fr.size h1))
 ·rcases k.own id blk d with h1|h1
  ·exact j _ h1
  ·exact .inr (zI h.fr.size h1)
 ·refine h.fr.trans k.fr fun b d h1=>?_
  rcases j b h1 with e|e
  ·exact e
  ·omega
theorem Inv.same{P:Program}{w w':World}{S:Nat->Prop}{G:Nat->GI}{Y:Hp}{Z:Nat}(h:Inv P w S G Y Z)(c:w'.heap=w.heap):Inv P w' S G Y Z:=by
 have d:∀b,S b->S b/\w'.heap[b]?=w.heap[b]?:=fun b a=>⟨a,by rw[c]⟩
 exact⟨fun b a=>by rw[c];exact h.st b a,h.top,fun id b a=>(h.live id b a).mono d (zl _) (fun _ _=>rfl) (by rw[c]),h.apart,h.inj,h.fS.mono d⟩
theorem kW.drew{P:Program}{Y:Hp}{Z:Nat}{S:Nat->Prop}{G:Nat->GI}{w:World}(h:Inv P w S G Y Z):kW dr P Y Z S G w Y Z S G w.drew:=
 ⟨h.same rfl,zl _,fun _ _=>rfl,fun _ h=>h,fun _ h=>.inl h,fun id blk a=>.inl ⟨id,blk,a,rfl⟩,Fr.drew _ _⟩
theorem kW.alloc{P:Program}{Y:Hp}{Z:Nat}{S:Nat->Prop}{G:Nat->GI}{w:World}(h:Inv P w S G Y Z)(cur:Array Value)(e:TypeId)(p:Bool)(es:List zb)(s:Nat)(A:0<s)
  (B:(P.info? e).map (·.size)=some s) (t:∀c∈es,c.length=s) (v:es.length*s<=cur.size)
  (x:∀(i j:Nat) (c:zb) (y:O),es[i]?=some c->c[j]?=some y->∃u,cur[i*s+j]?=some u/\jM w S G Z p y u) :
  kW dr P Y Z S G w (qq Y Z (some ⟨e,s,p,es⟩)) (Z+1) S (qq G Z ⟨w.heap.size,cur.size,s⟩) (w.alloc (.cells cur e)):=by
 have l:∀b,b<w.heap.size->(w.alloc (.cells cur e)).heap[b]?=w.heap[b]?:=fun b a=>Below.heap_alloc w _ b a
 have C:∀b,S b->S b/\(w.alloc (.cells cur e)).heap[b]?=w.heap[b]?:=fun b a=>⟨a,l b (h.st b a)⟩
 have o:∀id,id<Z->qq G Z ⟨w.heap.size,cur.size,s⟩ id=G id:=fun id hid=>zD _ _ _ _ (by omega)
 have d:∀id,id≠Z->qq Y Z (some ⟨e,s,p,es⟩) id=Y id:=fun id hid=>zD _ _ _ _ hid
 have m:(w.alloc (.cells cur e)).heap.size=w.heap.size+1:=by show(w.heap.push _).size=_;simp
 have q:∀id b,Y id=some b->(G id).g<w.heap.size:=fun id b a=>(h.live id b a).lt
 refine⟨⟨fun b a=>by rw[m];have:=h.st b a;omega,fun id b a=>?_,fun id b a=>?_,fun id b a=>?_,fun id id' b z a f r=>?_,h.fS.mono C⟩,by omega,o,fun _ a=>a,fun _ a=>.inl a,fun id b a=>?_,⟨rfl,rfl,rfl,by rw[m];omega,fun _=>zl _,fun k D _=>l k D⟩⟩
 ·by_cases hid:id=Z
  ·omega
  ·rw[d id hid]at a;have:=h.top id b a;omega
 ·by_cases hid:id=Z
  ·subst hid;simp only[wU]at a⊢;injection a with a
   subst a;refine .xp A rfl ⟨B,t,v,cur,heap_alloc_new w _,rfl,fun i j c y hi E=>?_⟩;obtain⟨u,F,H⟩:=x i j c y hi E;exact⟨u,F,H.mono C (by omega) o⟩
  ·rw[d id hid]at a;have I:=h.top id b a;rw[o id I];exact(h.live id b a).mono C (by omega) o (l _ (q id b a))
 ·by_cases hid:id=Z
  ·subst hid;simp only[wU];intro hs;have:=h.st _ hs;omega
  ·rw[d id hid]at a;rw[o id (h.top id b a)];exact h.apart id b a
 ·by_cases hid:id=Z<;>by_cases n:id'=Z
  ·omega
  ·subst hid;rw[d id' n]at f;rw[o id' (h.top id' z f)]at r;have:=q id' z f;simp at r;omega
  ·subst n;rw[d id hid]at a;rw[o id (h.top id b a)]at r;have:=q id b a;simp at r;omega
  ·rw[d id hid]at a;rw[d id' n]at f;rw[o id (h.top id b a),o id' (h.top id' z f)]at r;exact h.inj id id' b z a f r
 ·by_cases hid:id=Z
  ·subst hid;simp
  ·rw[d id hid]at a;rw[o id (h.top id b a)];exact .inl ⟨id,b,a,rfl⟩
theorem kW.set{P:Program}{Y:Hp}{Z:Nat}{S:Nat->Prop}{G:Nat->GI}{w:World}(h:Inv P w S G Y Z){id:Nat}{b:Blk}(hid:Y id=some b)(n:0<(G id).s)(f:Array Value)(es:List zb)
  (F:f.size=(G id).z) (o:∀c∈es,c.length=(G id).s) (p:es.length*(G id).s<=(G id).z)
  (q:∀(i j:Nat) (c:zb) (t:O),es[i]?=some c->c[j]?=some t->∃u,f[i*(G id).s+j]?=some u/\jM w S G Z b.arr t u) :
  kW dr P Y Z S G w (qq Y id (some ⟨b.e,b.s,b.arr,es⟩)) Z S G (w.setRow (G id).g f):=by
 have l:∀k,k≠(G id).g->(w.setRow (G id).g f).heap[k]?=w.heap[k]?:=fun k d=>setRow_other w _ k _ d
 have v:∀b,S b->S b/\(w.setRow (G id).g f).heap[b]?=w.heap[b]?:=fun k d=>⟨d,l k fun e=>h.apart id b hid (e ▸ d)⟩
 have m:∀k,k≠id->qq Y id (some ⟨b.e,b.s,b.arr,es⟩) k=Y k:=fun k d=>zD _ _ _ _ d
 obtain⟨cur,r,H,_⟩:=(h.live id b hid).row n;refine⟨⟨fun k d=>by rw[setRow_size];exact h.st k d,fun k c d=>?_,fun k c d=>?_,fun k c d=>?_,fun k D c x d y I=>?_,h.fS.mono v⟩,zl _,fun _ _=>rfl,fun _ A=>A,fun _ A=>.inl A,fun k c d=>?_,⟨rfl,rfl,rfl,by simp,fun _=>zl _,fun k _ J=>l k fun e=>J ⟨id,b,hid,e.symm⟩⟩⟩
 ·by_cases a:k=id
  ·subst a;exact h.top _ b hid
  ·rw[m k a]at d;exact h.top k c d
 ·by_cases a:k=id
  ·subst a;simp only[wU]at d;injection d with d
   subst d;refine .xp n (h.live _ b hid).bs ⟨(h.live _ b hid).size n,o,p,f,setRow_heap w _ cur _ _ _ r,F,fun i j c t hi K=>?_⟩;obtain⟨u,B,C⟩:=q i j c t hi K;exact⟨u,B,C.mono v (zl _) (fun _ _=>rfl)⟩
  ·rw[m k a]at d;exact(h.live k c d).mono v (zl _) (fun _ _=>rfl) (l _ fun e=>a (h.inj k id c b d hid e))
 ·by_cases a:k=id
  ·subst a;exact h.apart _ b hid
  ·rw[m k a]at d;exact h.apart k c d
 ·have E:∀k c,qq Y id (some ⟨b.e,b.s,b.arr,es⟩) k=some c->∃x,Y k=some x:=by
   intro k c d;by_cases a:k=id
   ·subst a;exact⟨b,hid⟩
   ·rw[m k a]at d;exact⟨c,d⟩
  obtain⟨L,B⟩:=E k c d;obtain⟨M,C⟩:=E D x y;exact h.inj k D L M B C I
 ·by_cases a:k=id
  ·subst a;exact .inl ⟨_,b,hid,rfl⟩
  ·rw[m k a]at d;exact .inl ⟨k,c,d,rfl⟩
theorem kW.kill{P:Program}{Y:Hp}{Z:Nat}{S:Nat->Prop}{G:Nat->GI}{w:World}(h:Inv P w S G Y Z){id:Nat}{b:Blk}(hid:Y id=some b) :
  kW dr P Y Z S G w (qq Y id none) Z (fun k=>S k\/k=(G id).g) G w:=by
 have i:∀k,S k->(S k\/k=(G id).g)/\w.heap[k]?=w.heap[k]?:=fun k a=>⟨.inl a,rfl⟩
 have d:∀k c,qq Y id none k=some c->k≠id/\Y k=some c:=by
  intro k c a;by_cases e:k=id
  ·subst e;simp at a
  ·rw[zD _ _ _ _ e]at a;exact⟨e,a⟩
 refine⟨⟨fun k a=>?_,fun k c a=>h.top k c (d k c a).2,fun k c a=>(h.live k c (d k c a).2).mono i (zl _) (fun _ _=>rfl) rfl,fun k c a=>?_,fun k j c l a f he=>h.inj k j c l (d k c a).2 (d j l f).2 he,h.fS.mono i⟩,
  zl _,fun _ _=>rfl,fun _ m=>.inl m,fun k a=>?_,fun k c a=>.inl ⟨k,c,(d k c a).2,rfl⟩,Fr.refl _ _⟩
 ·rcases a with a|rfl
  ·exact h.st k a
  ·exact(h.live id b hid).lt
 ·rintro (hs|he)
  ·exact h.apart k c (d k c a).2 hs
  ·exact(d k c a).1 (h.inj k id c b (d k c a).2 hid he)
 ·rcases a with a|rfl
  ·exact .inl a
  ·exact .inr (.inl ⟨id,b,hid,rfl⟩)
theorem G7{P:Program}{Y:Hp}{Z:Nat}{S:Nat->Prop}{G:Nat->GI}{w:World}(h:Inv P w S G Y Z){id off n cap:Nat}{b:Blk}(hid:Y id=some b)(m:0<(G id).s)(o:b.arr=true)(L:off+n<=b.es.length)
  (C:n<=cap) (p:cap<=maxLen) (S':Nat->Prop) (D:∀k,S k->S' k) (E:S' (G id).g) :
  ya w S' (.sl b.s ((b.es.drop off).take n)) (.slice (some ⟨(G id).g,off*(G id).s,none⟩) n cap):=by
 have y:=h.live id b hid;obtain⟨cur,F,M,H⟩:=y.row m;have I:((b.es.drop off).take n).length=n:=by simp;omega
 have q:∀(i:Nat) (c:zb),((b.es.drop off).take n)[i]?=some c->b.es[off+i]?=some c:=by
  intro i c hi;rw[qI]at hi;split at hi
  ·rwa [q8]at hi
  ·cases hi
 have l:∀(i j:Nat),∃u,∀(c:zb) (a:O),((b.es.drop off).take n)[i]?=some c->c[j]?=some a->cur[(off+i)*(G id).s+j]?=some u/\jM w S G Z b.arr a u:=by
  intro i j;by_cases v:∃c a,((b.es.drop off).take n)[i]?=some c/\c[j]?=some a
  ·obtain⟨c,a,hi,f⟩:=v;obtain⟨u,x,r⟩:=H (off+i) j c a (q i c hi) f;refine⟨u,fun N J d e=>?_⟩;rw[hi]at d;injection d with d;subst d;rw[f]at e;injection e with e;subst e;exact⟨x,r⟩
  ·exact⟨undef,fun c a hi f=>(v ⟨c,a,hi,f⟩).elim⟩
 rw[y.bs];have z:ya w S' (.sl (G id).s ((b.es.drop off).take n)) (.slice (some ⟨(G id).g,off*(G id).s,none⟩) ((b.es.drop off).take n).length cap):=by
  refine .sl (s:=(G id).s) (fun i j=>Classical.choose (l i j)) (by simp) (by omega) p (fun c v=>y.len m c (Yl _ _ (V2 _ _ v))) (fun i j c a hi f=>?_) (fun i j c a hi f=>?_)
  ·obtain⟨x,r⟩:=jX (l i j) c a hi f;refine⟨_,rfl,E,?_,r.2.2⟩;have t:(⟨(G id).g,off*(G id).s,none⟩:Addr).add (i*(G id).s+j)=⟨(G id).g,(off+i)*(G id).s+j,none⟩:=by
    unfold Addr.add;split
    ·rename_i Q;have A:i*(G id).s=0:=by omega
     have B:j=0:=by omega
     simp[wo,A,B]
    ·simp[wo];omega
   rw[t,zdY w _ _ cur _ _ F];exact x
  ·obtain⟨x,r⟩:=jX (l i j) c a hi f;exact(r.1 o).mono fun k K=>⟨D k K,rfl⟩
 rwa [I]at z
theorem Marks.step{P:Program}{i:Nat}{Y Y':Hp}{Z Z':Nat}{S S':Nat->Prop}{G G':Nat->GI}{w w':World}{ds:List Deferred}(h:Marks i w S Y G ds)(k:kW dr P Y Z S G w Y' Z' S' G' w'):Marks i w' S' Y' G' ds:=by
 obtain⟨d,l,e,m,n⟩:=h;refine⟨zI d k.fr.size,l,e,m,fun D hd=>?_⟩;obtain⟨o,j,c,f⟩:=n D hd;have g:D<w.heap.size:=(zM.1 j).1;refine⟨o,(k.fr.block D g fun⟨id,b,a,e⟩=>f id b a e).trans j,fun hs=>?_,fun id b a e=>?_⟩
 ·rcases k.from_ D hs with h|⟨id,b,a,e⟩|h
  ·exact c h
  ·exact f id b a e
  ·omega
 rcases k.own id b a with⟨id',p,c,q⟩|c
 ·exact f id' p c (q.trans e)
 ·omega
theorem Q8.step{P:Program}{g:World}{j L:Nat->Prop}{N Z0:Nat}{l:Nat->GI}{m:Nat}{st:St}{S S':Nat->Prop}{G G':Nat->GI}{a:Act}{w w':World}{Y':Hp}{Z':Nat}{x:O}{u:Value}{dst:Option Tmp}
  (h:Q8 dr P g j L N Z0 l m st S G a w) (k:kW dr P st.Y st.Z S G w Y' Z' S' G' w') (n:qw w' S' G' Z' x u) (hd:∀d,dst=some d->d<N) :
  Q8 dr P g j L N Z0 l m ⟨put st.σ dst x,Y',Z'⟩ S' G' (a.put dst u) w':=by
 have o:=k.same h.inv;have i:∀b,ke st.Y G b->L b\/g.heap.size<=b:=by rintro b ⟨id,blk,h1,rfl⟩;exact h.own id blk h1
 refine⟨k.inv,fun t=>?_,?_,?_,fun b f=>k.keep b (h.s0 b f),fun b f=>?_,fun id blk f=>?_,?_,zI h.up k.up,fun id hid=>(k.loc id (ja hid h.up)).trans (h.loc id hid)⟩
 ·have c:qw w' S' G' Z' (st.σ t) (a.tmps.getD t undef):=(h.xZ t).mono o k.up k.loc;cases dst with
  |none=>exact c
  |some d=>
   show qw w' S' G' Z' (qq st.σ d x t) ((a.tmps.setIfInBounds d u).getD t undef);by_cases e:t=d
   ·subst e;have:t<a.tmps.size:=by rw[h.size];exact hd t rfl
    simpa[qq,this]using n
   ·have p:¬d=t:=fun h=>e h.symm
    simp only[qq,e,wF];have:(a.tmps.setIfInBounds d u).getD t undef=a.tmps.getD t undef:=by simp[qL p]
    rw[this];exact c
 ·cases dst with
  |none=>exact h.size
  |some d=>show(a.tmps.setIfInBounds d u).size=N;simp[h.size]
 ·cases dst<;>exact h.defers.step k
 ·rcases k.from_ b f with h1|h1|h1
  ·exact h.s1 b h1
  ·rcases i b h1 with h2|h2
   ·exact .inr (.inl h2)
   ·exact .inr (.inr h2)
  ·exact .inr (.inr (zI h.fr.size h1))
 ·rcases k.own id blk f with h1|h1
  ·exact i _ h1
  ·exact .inr (zI h.fr.size h1)
 ·refine h.fr.trans k.fr fun b f h1=>?_
  rcases i b h1 with h2|h2
  ·exact h2
  ·omega
variable{dr:Prop}
section
variable{P:Program}{w:World}{S:Nat->Prop}{G:Nat->GI}{Y:Hp}{Z:Nat}
theorem ya.yi{x u:Value}(h:ya w S (.v x) u):u=x/\lit x=true:=by cases h;exact⟨rfl,‹_›⟩
theorem qw.yi{x u:Value}(h:qw w S G Z (.v x) u):u=x/\lit x=true:=by
 cases h with
 |c h=>exact h.yi
theorem qw.xQ{u:Value}(h:qw w S G Z .nil u):u=.slice none 0 0:=by
 cases h with
 |c h=>cases h;rfl
theorem qw.rX{u:Value}(h:qw w S G Z .em u):∃ad cap,u=.slice (some ad) 0 cap/\cap<=maxLen:=by
 cases h with
 |c h=>cases h;exact⟨_,_,rfl,‹_›⟩
theorem qw.dF{s:Nat}{es:List zb}{u:Value}(h:qw w S G Z (.sl s es) u):ya w S (.sl s es) u:=by
 cases h with
 |c h=>exact h
theorem qw.V6{cs:zb}{u:Value}(h:qw w S G Z (.ptr cs) u):ya w S (.ptr cs) u:=by
 cases h with
 |c h=>exact h
theorem qw.vf{id off n:Nat}{u:Value}(h:qw w S G Z (.own id off n) u):∃cap,id<Z/\n<=cap/\cap<=maxLen/\(off+cap)*(G id).s=(G id).z/\u=.slice (some ⟨(G id).g,off*(G id).s,none⟩) n cap:=by
 cases h with
 |c h=>cases h
 |own a b d e _=>exact⟨_,a,b,d,e,rfl⟩
theorem qw.vy{id off n:Nat}{u:Value}(h:qw w S G Z (.own id off n) u):0<(G id).s:=by
 cases h with
 |c h=>cases h
 |own _ _ _ _ a=>exact a
theorem qw.xq{id i j:Nat}{u:Value}(h:qw w S G Z (.ref id i j) u):id<Z/\u=.pointer (some ⟨(G id).g,i*(G id).s+j,none⟩):=by
 cases h with
 |c h=>cases h
 |ref a _=>exact⟨a,rfl⟩
theorem qw.WV{id i j:Nat}{u:Value}(h:qw w S G Z (.ref id i j) u):0<(G id).s:=by
 cases h with
 |c h=>cases h
 |ref _ a=>exact a
theorem qw.U8{id:Nat}{u:Value}(h:qw w S G Z (.mp id) u):id<Z/\(G id).s=0/\u=.map (some (G id).g):=by
 cases h with
 |c h=>cases h
 |mp a b=>exact⟨a,b,rfl⟩
theorem qw.WW{cs:zb}{u:Value}(h:qw w S G Z (.agg cs) u):∃us:Array Value,u=.agg us/\cs.length=us.size/\∀(j:Nat) (d:O) (x:Value),cs[j]?=some d->us[j]?=some x->qw w S G Z d x:=by
 cases h with
 |c h=>cases h with
  |agg e f=>exact⟨_,rfl,e,fun j d x a b=>.c (f j d x a b)⟩
 |agg e f=>exact⟨_,rfl,e,f⟩
theorem qw.MI{cs:zb}{u:Value}(h:qw w S G Z (.w5 cs) u):∃us:Array Value,u=.tuple us/\cs.length=us.size/\∀(j:Nat) (d:O) (x:Value),cs[j]?=some d->us[j]?=some x->qw w S G Z d x:=by
 cases h with
 |c h=>cases h with
  |w5 e f=>exact⟨_,rfl,e,fun j d x a b=>.c (f j d x a b)⟩
 |w5 e f=>exact⟨_,rfl,e,f⟩
theorem qw.CU{f:Fn}{xs ys:zb}{u:Value}(h:qw w S G Z (.fn f xs ys) u):∃us ts:Array Value,u=.func f us ts/\xs.length=us.size/\ys.length=ts.size /\
  (∀(j:Nat) (d:O) (x:Value),xs[j]?=some d->us[j]?=some x->qw w S G Z d x)/\∀(j:Nat) (d:O) (x:Value),ys[j]?=some d->ts[j]?=some x->qw w S G Z d x:=by
 cases h with
 |c h=>cases h with
  |fn e g i k=>exact⟨_,_,rfl,e,g,fun j d x a b=>.c (i j d x a b),fun j d x a b=>.c (k j d x a b)⟩
 |fn e g i k=>exact⟨_,_,rfl,e,g,i,k⟩
theorem kx:qw w S G Z (.w5 []) undef:=.c (.w5 rfl (by simp))
theorem nh{x:Value}{a:O}(h:fU x=some a):ya w S a x/\x.oneCell'=true/\a.yk=true:=by
 unfold fU at h;split at h<;>first
  |(injection h with h;subst h;exact⟨.nil,rfl,rfl⟩)
  |(injection h with h;subst h;exact⟨.v rfl,rfl,rfl⟩)
  |cases h
theorem jI:∀{l:List Value} {r:zb},xp l=some r->r.length=l.length/\(∀(j:Nat) (a:O) (u:Value),r[j]?=some a->l[j]?=some u->ya w S a u/\u.oneCell'=true/\a.yk=true)
 |[],r,h=>by simp[xp]at h;subst h;simp
 |x::l,r,h=>by
  simp only[xp]at h;split at h
  ·rename_i p q Y d;injection h with h
   subst h;obtain⟨e,f⟩:=jI d;refine⟨by simp[e],fun j a u b c=>?_⟩;cases j with
   |zero=>simp at b c;subst b;subst c;exact nh Y
   |succ j=>exact f j a u (by simpa using b) (by simpa using c)
  ·cases h
theorem iI{x:Value}{a:O}(h:mG x=some a):ya w S a x:=by
 unfold mG at h;split at h
 ·rename_i cs;cases b:xp cs.toList with
  |none=>simp[b]at h
  |some r=>simp[b]at h;subst h;obtain⟨c,d⟩:=jI (w:=w) (S:=S) b;exact .agg (by simpa using c) (fun j a u e f=>(d j a u e (by simpa using f)).1)
 ·exact(nh h).1
theorem WJ{σ:Nat->O}{a:Act}(hs:∀t,qw w S G Z (σ t) (a.tmps.getD t undef)){y:Operand}{b:O}(h:get σ y=some b):qw w S G Z b (a.eval y):=by
 cases y with
 |tmp t=>simp[get]at h;subst h;exact hs t
 |const x=>exact .c (iI h)
 |global g=>simp[get]at h
 |func f=>simp[get]at h;subst h;exact .c (.fn rfl rfl (by simp) (by simp))
theorem fW{y:O}{u:Value}(h:qw w S G Z y u)(a:y.cells.all O.yk=true):y.cells.length=u.cells.size/\∀(j:Nat) (d:O) (c:Value),y.cells[j]?=some d->u.cells[j]?=some c->qw w S G Z d c/\c.oneCell'=true:=by
 by_cases e:∃cs,y=.agg cs
 ·obtain⟨cs,rfl⟩:=e;obtain⟨us,rfl,k,l⟩:=h.WW;refine⟨k,fun j d c b f=>?_⟩;have g:=l j d c b f;refine⟨g,g.V5 ?_⟩;simp only[O.cells]at a b;exact ql.1 a d (zN b)
 ·have m:y.cells=[y]:=by cases y<;>first|rfl|exact(e ⟨_,rfl⟩).elim
  rw[m]at a⊢;have hi:y.yk=true:=by simpa using a
  have i:=h.V5 hi;have f:u.cells=#[u]:=by cases u<;>first|rfl|simp[Value.oneCell']at i
  rw[f];refine⟨rfl,fun j d c b a=>?_⟩;cases j with
  |zero=>simp at b a;subst b;subst a;exact⟨h,i⟩
  |succ j=>simp at b
def Q9(dr:Prop)(P:Program)(w:World)(Y:Hp)(Z:Nat)(S:Nat->Prop)(G:Nat->GI)(x:O)(Y':Hp)(Z':Nat)(r:Result Value):Prop:=
 ∃v w' S' G',r=.ok v w'/\kW dr P Y Z S G w Y' Z' S' G' w'/\qw w' S' G' Z' x v
theorem qH(hi:Inv P w S G Y Z){x:O}{v:Value}{r:Result Value}(a:r=.ok v w)(b:qw w S G Z x v):Q9 dr P w Y Z S G x Y Z r:=⟨v,w,S,G,a,.refl hi,b⟩
theorem YP{t:TypeId}{n:Nat}(h:qE P t=some n):∃i,P.info? t=some i/\i.size=n:=by
 unfold qE at h;cases hi:P.info? t with
 |none=>simp[hi]at h
 |some i=>exact⟨i,rfl,by simpa[hi]using h⟩
theorem yA{t:TypeId}{n:Nat}(h:qE P t=some n)(w:World):(sizeOf t).run P w=.ok n w:=by obtain⟨i,hi,rfl⟩:=YP h;simp[sizeOf,typeInfo,hi]
theorem x0{t:TypeId}{b:Bool}(h:ye P t=some b)(w:World):(isAgg t).run P w=.ok b w:=by
 unfold ye at h;cases a:P.underlying t with
 |none=>simp[a]at h
 |some d=>simp[a]at h;subst h;unfold isAgg;rw[xA,zK a w];cases d<;>rfl
theorem QI{t:TypeId}{z:zb}(h:y8 P t=some z):∃i v,P.info? t=some i/\i.zero=some v/\xp v.cells.toList=some z:=by
 unfold y8 at h;cases hi:P.info? t with
 |none=>simp[hi]at h
 |some i=>
  cases a:i.zero with
  |none=>simp[hi,a]at h
  |some v=>exact⟨i,v,rfl,a,by simpa[hi,a]using h⟩
theorem WK{t:TypeId}{i:TypeInfo}{v:Value}(hi:P.info? t=some i)(a:i.zero=some v)(w:World):(zeroValue t).run P w=.ok v w:=by simp[zeroValue,typeInfo,hi,a]
theorem G8(hi:Inv P w S G Y Z){t:TypeId}{n:Nat}{z:zb}(hs:qE P t=some n)(m:y8 P t=some z)(f:0<n)(d:z.length=n) :
  Q9 dr P w Y Z S G (.ref Z 0 0) (qq Y Z (some ⟨t,n,false,[z]⟩)) (Z+1) ((Instr.alloc t true (.tuple #[])).run P w):=by
 obtain⟨i,v,o,p,q⟩:=QI m;obtain⟨r,s⟩:=jI (w:=w) (S:=S) q;have e:(P.info? t).map (·.size)=some n:=hs;have a:v.cells.size=n:=by rw[<-d,r];simp
 have k:=kW.alloc (dr:=dr) hi v.cells t false [z] n f e (by simp[d]) (by simp[a]) (fun i j c u hi g=>by
  cases i with
  |succ i=>simp at hi
  |zero=>
   simp at hi;subst hi;have b:j<v.cells.size:=by rw[a,<-d];exact(zk.1 g).1
   refine⟨v.cells[j],by simp[b],?_⟩;have l:=s j u v.cells[j] g (by simp[b]);exact⟨fun h=>(by cases h),.c l.1,l.2.1⟩)
 refine⟨.pointer (some ⟨w.heap.size,0,none⟩),_,_,_,?_,k,?_⟩
 ·simp[Instr.alloc,WK o p,newVar,newRow]
 ·have:=qw.ref (w:=w.alloc (.cells v.cells t)) (S:=S) (G:=qq G Z ⟨w.heap.size,v.cells.size,n⟩) (Z:=Z+1) (id:=Z) (i:=0) (j:=0) (by omega) (by simpa using f);simpa using this
theorem PY(hi:Inv P w S G Y Z){t:TypeId}{n:Nat}{y:O}{u:Value}(hs:qE P t=some n)(m:qw w S G Z y u)(d:0<n)(e:y.cells.length=n)(o:y.cells.all O.yk=true) :
  Q9 dr P w Y Z S G (.ref Z 0 0) (qq Y Z (some ⟨t,n,false,[y.cells]⟩)) (Z+1) ((Instr.box t u).run P w):=by
 obtain⟨f,p⟩:=fW m o;have b:u.cells.size=n:=by rw[<-f,e]
 have k:=kW.alloc (dr:=dr) hi u.cells t false [y.cells] n d hs (by simp[e]) (by simp[b]) (fun i j c q hi g=>by
  cases i with
  |succ i=>simp at hi
  |zero=>
   simp at hi;subst hi;have a:j<u.cells.size:=by rw[<-f];exact(zk.1 g).1
   refine⟨u.cells[j],by simp[a],?_⟩;have l:=p j q u.cells[j] g (by simp[a]);exact⟨fun h=>(by cases h),l.1,l.2⟩)
 refine⟨.pointer (some ⟨w.heap.size,0,none⟩),_,_,_,?_,k,?_⟩
 ·simp[Instr.box,newVar,newRow]
 ·have:=qw.ref (w:=w.alloc (.cells u.cells t)) (S:=S) (G:=qq G Z ⟨w.heap.size,u.cells.size,n⟩) (Z:=Z+1) (id:=Z) (i:=0) (j:=0) (by omega) (by simpa using d);simpa using this
theorem aI{t:TypeId}{cs:zb}{x:O}(h:qM P t cs=some x)(ad:Addr)(us:Nat->Value)(d:∀(j:Nat) (c:O),cs[j]?=some c->w.cell? (ad.add j)=some (us j)/\qw w S G Z c (us j)) :
  ∃v,(loadVar t ad).run P w=.ok v w/\qw w S G Z x v:=by
 unfold qM at h;split at h
 ·rename_i n e hs;split at h
  ·rename_i g;injection h with h
   subst h;have i:(loadCells ad n).run P w=.ok ((List.range n).map us).toArray w:=by
    have:=run_loadCells_list (P:=P) w ad ((List.range n).map us) (fun j v a=>by
     have b:j<n:=by simpa using(zk.1 a).1
     have Y:=d j (cs[j]'(by omega)) (zq (by omega));rw[Y.1];rw[qz,kJ b]at a;simpa using a)
    simpa using this
   refine⟨.agg ((List.range n).map us).toArray,?_,.agg ?_ ?_⟩
   ·simp[loadVar,x0 e,yA hs,i]
   ·simp;omega
   ·intro j c u a f;rw[qI]at a;split at a
    ·rename_i b;have:=(d j c a).2;simp[b]at f;rwa [<-f]
    ·cases a
  ·cases h
 ·rename_i n e hs;have:=d 0 x h;refine⟨us 0,?_,this.2⟩;have k:ad.add 0=ad:=rfl;rw[k]at this;simp[loadVar,x0 e,this.1]
 ·cases h
theorem tB(hi:Inv P w S G Y Z){t:TypeId}{p x:O}{u:Value}(h:Ze P Y t p=some x)(Y':qw w S G Z p u):Q9 dr P w Y Z S G x Y Z ((Instr.loadAt t u).run P w):=by
 unfold Ze at h;split at h
 ·rename_i cs;cases Y'.V6 with
  |ptr us f o=>obtain⟨v,l,m⟩:=aI (G:=G) (Z:=Z) (w:=w) (S:=S) h _ us (fun j d q=>⟨(f j d q).2,.c (o j d q)⟩);exact qH hi (v:=v) (by simp[Instr.loadAt,Instr.sureAddr,l]) m
 ·rename_i id i j;have n:=Y'.WV;obtain⟨hid,rfl⟩:=Y'.xq;split at h
  ·rename_i b y;split at h
   ·rename_i c z;obtain⟨cur,f,o,A⟩:=(hi.live id b y).row n;have a:∀k:Nat,w.cell? ((⟨(G id).g,i*(G id).s+j,none⟩:Addr).add k)=cur[i*(G id).s+j+k]?:=by intro k;rw[ko,zdY w _ _ cur _ _ f]
    obtain⟨v,l,m⟩:=aI (G:=G) (Z:=Z) (w:=w) (S:=S) h ⟨(G id).g,i*(G id).s+j,none⟩ (fun k=>(cur[i*(G id).s+j+k]?).getD undef) (fun k d r=>by
     rw[q8]at r;obtain⟨u,B,C⟩:=A i (j+k) c d z r;rw[a];have e:i*(G id).s+j+k=i*(G id).s+(j+k):=by omega
     rw[e,B];exact⟨rfl,C.2.1⟩)
    exact qH hi (v:=v) (by simp[Instr.loadAt,Instr.sureAddr,l]) m
   ·cases h
  ·cases h
 ·cases h
end
variable{dr:Prop}
section
variable{P:Program}{w:World}{S:Nat->Prop}{G:Nat->GI}{Y:Hp}{Z:Nat}
def Zip{α a:Type}(R:α->a->Prop)(xs:List α)(us:List a):Prop:=xs.length=us.length/\∀(j:Nat) (x:α) (u:a),xs[j]?=some x->us[j]?=some u->R x u
theorem Zip.nil{α a:Type}{R:α->a->Prop}:Zip R [] ([]:List a):=⟨rfl,by simp⟩
theorem Zip.cons{α a:Type}{R:α->a->Prop}{x:α}{u:a}{xs:List α}{us:List a}(h:R x u)(t:Zip R xs us):Zip R (x::xs) (u::us):=by
 refine⟨by simp[t.1],fun j y v b c=>?_⟩;cases j with
 |zero=>simp at b c;subst b;subst c;exact h
 |succ j=>exact t.2 j y v (by simpa using b) (by simpa using c)
theorem Zip.y9{α b:Type}{R:α->b->Prop}{x:α}{xs:List α}{us:List b}(h:Zip R (x::xs) us):∃u a,us=u::a/\R x u/\Zip R xs a:=by
 cases us with
 |nil=>have:=h.1;simp at this
 |cons u a=>refine⟨u,a,rfl,h.2 0 x u rfl rfl,by have:=h.1;simpa using this,fun j y v c d=>h.2 (j+1) y v (by simpa using c) (by simpa using d)⟩
theorem Zip.Yq{α a:Type}{R:α->a->Prop}{us:List a}(h:Zip R ([]:List α) us):us=[]:=wx h.1.symm
theorem Zip.imp{α c:Type}{R d:α->c->Prop}{xs:List α}{us:List c}(h:Zip R xs us)(e:∀x u,R x u->d x u):Zip d xs us:=⟨h.1,fun j x u a b=>e x u (h.2 j x u a b)⟩
theorem vL{h:Hp}{i k:Nat}{b:Blk}(a:qq h i none k=some b):h k=some b:=by
 unfold qq at a;split at a
 ·cases a
 ·exact a
theorem tC{x:O}{u:Value}(h:qw w S G Z x u)(hs:x.YM=true):ya w S x u:=by
 cases x with
 |v y=>obtain⟨rfl,a⟩:=h.yi;exact .v a
 |nil=>rw[h.xQ];exact .nil
 |em=>obtain⟨ad,cap,rfl,b⟩:=h.rX;exact .em b
 |sl s es=>exact h.dF
 |ptr cs=>exact h.V6
 |_=>simp[O.YM]at hs
theorem Dh{x:O}{u:Value}(h:qw w S G Z x u)(hs:x.shut=true):ya w S x u:=by
 cases x with
 |agg cs=>obtain⟨us,rfl,d,e⟩:=h.WW;exact .agg d fun j c y a b=>tC (e j c y a b) (ql.1 hs c (zN a))
 |_=>exact tC h hs
theorem KC(hi:Inv P w S G Y Z){x y:O}{Y1:Hp}{u:Value}(h:wI Y x=some (y,Y1))(d:qw w S G Z x u) :
  ∃S',kW dr P Y Z S G w Y1 Z S' G w/\ya w S' y u/\(x.kq=false->S'=S):=by
 have c:∀{l:O} {Y':Hp},some (x,Y)=some (l,Y')->ya w S x u->∃S',kW dr P Y Z S G w Y' Z S' G w/\ya w S' l u/\(x.kq=false->S'=S):=by
  intro l Y' e s;injection e with e
  injection e with t z;subst t;subst z;exact⟨S,.refl hi,s,fun _=>rfl⟩
 unfold wI at h;split at h
 ·rename_i id off n;split at h
  ·rename_i b q;split at h
   ·rename_i g;injection h with h
    injection h with m o;subst m;subst o;obtain⟨cap,r,p,A,E,rfl⟩:=d.vf;exact⟨_,kW.kill hi q,G7 hi q d.vy g.1 g.2 p A _ (fun k B=>.inl B) (.inr rfl),fun h=>by simp[O.kq]at h⟩
   ·cases h
  ·cases h
 ·obtain⟨rfl,C⟩:=d.yi;exact c h (.v C)
 ·have:=d.xQ;subst this;exact c h .nil
 ·exact c h d.dF
 ·obtain⟨ad,cap,rfl,D⟩:=d.rX;exact c h (.em D)
 ·exact c h d.V6
 ·rename_i f xs ys;split at h
  ·rename_i g;obtain⟨us,ts,rfl,m,o,r,p⟩:=d.CU;exact c h (.fn m o (fun j i y a b=>Dh (r j i y a b) (ql.1 g.1 i (zN a))) (fun j i y a b=>Dh (p j i y a b) (ql.1 g.2 i (zN a))))
  ·cases h
 ·cases h
theorem JO{Y Y1:Hp}{x y:O}(h:wI Y x=some (y,Y1)):y.yk=true:=by
 unfold wI at h;split at h<;>(try (split at h))<;>(try (split at h))<;>first
  |(injection h with h;injection h with a b;subst a;rfl)
  |cases h
theorem JP:∀{xs ys:zb} {Y Y1:Hp} {S:Nat->Prop} {us:List Value} (_:Inv P w S G Y Z),wJ Y xs=some (ys,Y1)->Zip (qw w S G Z) xs us ->
  ∃S',kW dr P Y Z S G w Y1 Z S' G w/\Zip (ya w S') ys us/\ys.all O.yk=true/\(xs.any O.kq=false->S'=S)
 |[],ys,Y,Y1,S,us,hi,h,b=>by
  simp only[wJ]at h;injection h with h
  injection h with e f;subst e;subst f;rw[b.Yq];exact⟨S,.refl hi,.nil,rfl,fun _=>rfl⟩
 |x::l,ys,Y,Y1,S,us,hi,h,b=>by
  simp only[wJ]at h;split at h
  ·rename_i y e g;split at h
   ·rename_i r f j;injection h with h
    injection h with k m;subst k;subst m;obtain⟨u,n,rfl,o,c⟩:=b.y9;obtain⟨p,a,q,n1⟩:=KC (dr:=dr) hi g o;have s:=a.same hi;obtain⟨t,i,v,z,A⟩:=JP (S:=p) a.inv j (c.imp fun x u B=>B.mono s (zl _) (fun _ _=>rfl));refine⟨t,a.trans i,.cons (q.mono (i.same a.inv)) v,by simp[z,JO g],fun d=>?_⟩;simp only[wX,wP]at d;rw[A d.2,n1 d.1]
   ·cases h
  ·cases h
theorem vH(hi:Inv P w S G Y Z){x y:O}{Y1:Hp}{u:Value}(h:qt Y x=some (y,Y1))(f:qw w S G Z x u) :
  ∃S',kW dr P Y Z S G w Y1 Z S' G w/\ya w S' y u/\y.cells.all O.yk=true/\(x.noOwn=true->S'=S):=by
 unfold qt at h;split at h
 ·rename_i cs;split at h
  ·rename_i l Y2 g;injection h with h
   injection h with i m;subst i;subst m;obtain⟨us,rfl,n,o⟩:=f.WW;obtain⟨S',k,z,p,d⟩:=JP (us:=us.toList) hi g ⟨by simpa using n,fun j e x a b=>o j e x a (by simpa using b)⟩;exact⟨S',k,.agg (by have:=z.1;simpa using this) (fun j e x a b=>z.2 j e x a (by simpa using b)),p,fun h=>d (by simpa[O.noOwn]using h)⟩
  ·cases h
 ·obtain⟨S',k,c,d⟩:=KC hi h f;refine⟨S',k,c,?_,fun q=>d ?_⟩
  ·have:=JO h;cases y<;>simp_all[O.cells,O.yk]
  ·cases x<;>simp_all[O.noOwn,O.kq]
theorem jJ:∀{xs ys:zb} {Y Y1:Hp} {S:Nat->Prop} {us:List Value} (_:Inv P w S G Y Z),zC Y xs=some (ys,Y1)->Zip (qw w S G Z) xs us ->
  ∃S',kW dr P Y Z S G w Y1 Z S' G w/\Zip (ya w S') ys us/\(xs.all O.noOwn=true->S'=S)
 |[],ys,Y,Y1,S,us,hi,h,b=>by
  simp only[zC]at h;injection h with h
  injection h with e f;subst e;subst f;rw[b.Yq];exact⟨S,.refl hi,.nil,fun _=>rfl⟩
 |x::l,ys,Y,Y1,S,us,hi,h,b=>by
  simp only[zC]at h;split at h
  ·rename_i y e i;split at h
   ·rename_i r f j;injection h with h
    injection h with k m;subst k;subst m;obtain⟨u,n,rfl,o,c⟩:=b.y9;obtain⟨p,a,q,_,n1⟩:=vH (dr:=dr) hi i o;have s:=a.same hi;obtain⟨t,g,v,z⟩:=jJ (S:=p) a.inv j (c.imp fun x u A=>A.mono s (zl _) (fun _ _=>rfl));refine⟨t,a.trans g,.cons (q.mono (g.same a.inv)) v,fun d=>?_⟩;simp only[wi,zE]at d;rw[z d.2,n1 d.1]
   ·cases h
  ·cases h
theorem YQ(hi:Inv P w S G Y Z){x y:O}{Y1:Hp}{u:Value}(h:freeze Y x=some (y,Y1))(e:qw w S G Z x u) :
  ∃S',kW dr P Y Z S G w Y1 Z S' G w/\ya w S' y u:=by
 unfold freeze at h;split at h
 ·rename_i cs;split at h
  ·rename_i l Y2 f;injection h with h
   injection h with g i;subst g;subst i;obtain⟨us,rfl,m,n⟩:=e.MI;obtain⟨S',k,z,_⟩:=jJ (us:=us.toList) hi f ⟨by simpa using m,fun j d x a b=>n j d x a (by simpa using b)⟩;exact⟨S',k,.w5 (by have:=z.1;simpa using this) (fun j d x a b=>z.2 j d x a (by simpa using b))⟩
  ·cases h
 ·obtain⟨S',k,c,_⟩:=vH hi h e;exact⟨S',k,c⟩
theorem Ys:∀(l cs:zb) (off:Nat),(js cs off l).length=cs.length
 |[],cs,off=>rfl
 |x::l,cs,off=>by simp[js,Ys l]
theorem Vk:∀(l cs:zb) (off k:Nat),off+l.length<=cs.length->(js cs off l)[k]?=if off<=k/\k<off+l.length then l[k-off]? else cs[k]?
 |[],cs,off,k,_=>by simp[js];omega
 |x::l,cs,off,k,h=>by
  simp only[zx]at h;have b:=Vk l (cs.set off x) (off+1) k (by simp;omega);simp only[js];rw[b];by_cases a:off+1<=k/\k<off+1+l.length
  ·rw[zd a,zd ⟨by omega,by simp;omega⟩];obtain⟨d,rfl⟩:∃d,k=off+1+d:=⟨k-(off+1),by omega⟩;rw[show off+1+d-(off+1)=d from by omega,show off+1+d-off=d+1 from by omega];simp
  ·rw[ze a];by_cases c:k=off
   ·subst c;rw[zd ⟨by omega,by simp⟩,ZN (by omega)];simp
   ·rw[ze (by simp;omega),jB (by omega)]
theorem vZ{α:Type}(l vs:List α)(o k:Nat)(h:o+vs.length<=l.length):(l.take o++vs++l.drop (o+vs.length))[k]?=if o<=k/\k<o+vs.length then vs[k-o]? else l[k]?:=by
 have a:(l.take o).length=o:=by simp;omega
 rw[qG];by_cases b:k<o
 ·rw[ze (by omega),qh (by omega),qI,zd b]
 ·rw[zY (by omega),a];by_cases c:k<o+vs.length
  ·rw[zd ⟨by omega,c⟩,qh (by omega)]
  ·rw[ze (by omega),zY (by omega),q8];congr 1;omega
theorem WL{α:Type}(l vs:List α)(o:Nat)(h:o+vs.length<=l.length):(l.take o++vs++l.drop (o+vs.length)).length=l.length:=by simp;omega
theorem nj{s i j i':Nat}(c:j<s)(b:i'≠i)(a n:Nat)(d:a+n<=s):¬(i*s+a<=i'*s+j/\i'*s+j<i*s+a+n):=by
 rcases Nat.lt_or_gt_of_ne b with h|h
 ·have:(i'+1)*s<=i*s:=zT s h;rw[wo]at this;omega
 ·have:(i+1)*s<=i'*s:=zT s h;rw[wo]at this;omega
theorem kK{i j n s:Nat}(hi:i<n)(a:j<s):i*s+j<n*s:=by have:(i+1)*s<=n*s:=zT s hi;rw[wo]at this;omega
theorem As(hi:Inv P w S G Y Z){id i j:Nat}{b:Blk}{c ys:zb}{vs:List Value}(I:Y id=some b)(d:0<(G id).s)(A:b.es[i]?=some c)(M:ys.length=vs.length)(N:j+ys.length<=c.length)
  (J:∀(k:Nat) (o:O) (u:Value),ys[k]?=some o->vs[k]?=some u->jM w S G Z b.arr o u) :
  ∃w',(storeCells ⟨(G id).g,i*(G id).s+j,none⟩ vs).run P w=.ok () w'/\kW dr P Y Z S G w (qq Y id (some ⟨b.e,b.s,b.arr,b.es.set i (js c j ys)⟩)) Z S G w':=by
 have l:=hi.live id b I;obtain⟨cur,Q,R,K⟩:=l.row d;have B:c.length=(G id).s:=l.len d c (zN A);have p:i<b.es.length:=(zk.1 A).1;have m:i*(G id).s+j+vs.length<=cur.size:=by have:(i+1)*(G id).s<=b.es.length*(G id).s:=zT _ p;have:=l.fit d;rw[wo]at *;omega
 have C:∀v∈vs,v.oneCell'=true:=by
  intro v T;obtain⟨k,q⟩:=Va T;have D:k<ys.length:=by rw[M];exact(zk.1 q).1
  exact(J k ys[k] v (zq D) q).2.2
 have r:=run_storeCells_at P (G id).g (i*(G id).s+j) b.e vs 0 cur w Q (by simpa using m) C;simp only[vS]at r;have t:i*(G id).s+j+vs.length<=cur.toList.length:=by simpa using m
 refine⟨_,r,kW.set hi I d _ _ ?_ ?_ ?_ ?_⟩
 ·rw[j9,WL _ _ _ t];simpa using R
 ·intro z E;rcases QE E with h|h
  ·exact l.len d z h
  ·subst h;rw[Ys];exact B
 ·simpa using l.fit d
 ·intro i' j' z o a f;have L:i'<b.es.length:=by have:=(zk.1 a).1;simpa using this
  rw[List.getElem?_toArray,vZ _ _ _ _ t];by_cases n:i'=i
  ·subst n;rw[ZN p]at a;injection a with a
   subst a;rw[Vk _ _ _ _ N]at f;by_cases x:j<=j'/\j'<j+ys.length
   ·rw[zd x]at f;rw[zd ⟨by omega,by omega⟩];have q:j'-j<vs.length:=by omega
    refine⟨vs[j'-j],?_,J (j'-j) o _ f (zq q)⟩;rw[show i'*(G id).s+j'-(i'*(G id).s+j)=j'-j from by omega];exact zq q
   ·rw[ze x]at f;rw[ze (by omega)];obtain⟨u,F,H⟩:=K i' j' c o A f;exact⟨u,by simpa using F,H⟩
  ·rw[jB (fun e=>n e.symm)]at a;have y:j'<(G id).s:=by rw[<-l.len d z (zN a)];exact(zk.1 f).1
   rw[ze (nj y n j vs.length (by omega))];obtain⟨u,F,H⟩:=K i' j' z o a f;exact⟨u,by simpa using F,H⟩
theorem nk(hi:Inv P w S G Y Z){t:TypeId}{a x:O}{Y':Hp}{u v:Value}(h:Qj P Y t a x=some Y')(ha:qw w S G Z a u)(hx:qw w S G Z x v) :
  ∃w' S' G',(Instr.storeAt t u v).run P w=.ok () w'/\kW dr P Y Z S G w Y' Z S' G' w':=by
 unfold Qj at h;split at h
 ·rename_i id i j;have M:=ha.WV;obtain⟨hid,rfl⟩:=ha.xq;split at h
  ·rename_i N E;have F:∀(y:O) (Y1:Hp) (z:Nat->Prop),kW dr P Y Z S G w Y1 Z z G w->qw w z G Z y v->(N.arr=true->ya w z y v)->(∀b,Y1 id=some b->b.arr=N.arr) ->
     (match Y1 id,qE P t with
      |some b,some n=>match b.es[i]? with
       |some c=>if y.cells.length=n/\j+n<=c.length/\y.cells.all O.yk=true then some (qq Y1 id (some ⟨b.e,b.s,b.arr,b.es.set i (js c j y.cells)⟩))else none
       |none=>none
      |_,_=>none)=some Y'->∃w' S' G',(Instr.storeAt t (.pointer (some ⟨(G id).g,i*(G id).s+j,none⟩)) v).run P w=.ok () w'/\kW dr P Y Z S G w Y' Z S' G' w':=by
    intro y Y1 z K hy Q R h;split at h
    ·rename_i b n f hn;split at h
     ·rename_i c L;split at h
      ·rename_i A;obtain⟨T,U,W⟩:=A;injection h with h
       subst h;obtain⟨hl,X⟩:=fW hy W;have hsz:v.cells.size=n:=by rw[<-hl,T]
       obtain⟨w',Db,k2⟩:=As (P:=P) K.inv (ys:=y.cells) (vs:=v.cells.toList) (j:=j) f M L (by simpa using hl) (by rw[T];exact U) (fun k pv u D hu=>by
        have m:v.cells[k]?=some u:=by simpa using hu
        have h6:=X k pv u D m;refine⟨fun H=>?_,h6.1,h6.2⟩;rw[R b f]at H;have B:=Q H;by_cases I:∃cs,y=.agg cs
        ·obtain⟨cs,rfl⟩:=I;cases B with
         |agg g1 g2=>exact g2 k pv u D m
        ·have J:y.cells=[y]:=by cases y<;>first|rfl|exact(I ⟨_,rfl⟩).elim
         have ho:=B.V5 (by rw[J]at W;simpa using W);have hv1:v.cells=#[v]:=by cases v<;>first|rfl|simp[Value.oneCell']at ho
         rw[J]at D;rw[hv1]at m;cases k with
         |zero=>simp at D m;subst D;subst m;exact B
         |succ k=>simp at D)
       refine⟨w',z,G,?_,K.trans k2⟩;simp[Instr.storeAt,Instr.sureAddr,storeVar,yA hn,hsz,Db]
      ·cases h
     ·cases h
    ·cases h
   by_cases o:N.arr=true
   ·simp only[o,qV]at h;split at h
    ·rename_i y Y1 d;obtain⟨z,K,L,_,_⟩:=vH hi d hx;refine F y Y1 z K (.c L) (fun _=>L) (fun b f=>?_) h;have:∀b,Y1 id=some b->Y id=some b:=fun b f=>by
      have p:∀{x y:O} {h q:Hp} (_:wI h x=some (y,q)) (k:Nat) (b:Blk),q k=some b->h k=some b:=by
       intro x y h q d k b f;unfold wI at d;split at d<;>(try (split at d))<;>(try (split at d))<;>first
        |(injection d with d;injection d with T U;subst U
          first
           |exact f
           |exact vL f)
        |cases d
      have C:∀(xs ys:zb) (h q:Hp) (_:wJ h xs=some (ys,q)) (k:Nat) (b:Blk),q k=some b->h k=some b:=by
       intro xs
       induction xs with
       |nil=>intro ys h q d k b f;simp only[wJ]at d;injection d with d;injection d with _ e;subst e;exact f
       |cons x l ih=>
        intro ys h q d k b f;simp only[wJ]at d;split at d
        ·rename_i y h1 hc1;split at d
         ·rename_i r h2 X;injection d with d
          injection d with _ e;subst e;exact p hc1 k b (ih _ _ _ X k b f)
         ·cases d
        ·cases d
      unfold qt at d;split at d
      ·split at d
       ·rename_i l h2 hcs;injection d with d
        injection d with _ e;subst e;exact C _ _ _ _ hcs id b f
       ·cases d
      ·exact p d id b f
     have:=this b f;rw[E]at this;injection this with this
     rw[this]
    ·cases h
   ·simp only[o]at h;exact F x Y S (.refl hi) hx (fun h=>(o h).elim) (fun b f=>by rw[E]at f;injection f with f;rw[f]) h
  ·cases h
 ·cases h
end
variable{dr:Prop}
section
variable{P:Program}{w:World}{S:Nat->Prop}{G:Nat->GI}{Y:Hp}{Z:Nat}
theorem Xz{t:TypeId}{f o n:Nat}{b:Bool}(h:qY P t f=some (o,n,b)):∃(a:Array Field) (x:Field),P.underlying t=some (.struct a)/\a[f]?=some x/\x.offset=o/\qE P x.type=some n/\ye P x.type=some b:=by
 unfold qY at h;split at h
 ·rename_i a c;split at h
  ·rename_i x d;split at h
   ·rename_i l m e g;injection h with h
    injection h with i h;injection h with j k;subst i;subst j;subst k;exact⟨a,x,c,d,rfl,e,g⟩
   ·cases h
  ·cases h
 ·cases h
theorem np(hi:Inv P w S G Y Z){t:TypeId}{f:Nat}{p x:O}{u:Value}(h:jv P t f p=some x)(Y':qw w S G Z p u):Q9 dr P w Y Z S G x Y Z ((Instr.fieldAt t u f).run P w):=by
 have a:∀{o n:Nat} {g:Bool} {ad:Addr},qY P t f=some (o,n,g)->n≠0->(Instr.fieldAt t (.pointer (some ad)) f).run P w=.ok (.pointer (some (ad.add o))) w:=by intro o n g ad b d;obtain⟨v,x,m,q,rfl,hs,_⟩:=Xz b;simp[Instr.fieldAt,zK m,q,Instr.sureAddr,fieldPlace,yA hs,d]
 unfold jv at h;split at h
 ·rename_i cs;split at h
  ·rename_i o n g b;split at h
   ·cases h
   ·rename_i d;injection h with h
    subst h;cases Y'.V6 with
    |ptr us r s=>
     refine qH hi (a b d) (.c (.ptr (fun j=>us (o+j)) (fun j k e=>?_) (fun j k e=>?_)))
     ·rw[q8]at e;rw[Wm,dI];exact r _ k e
     ·rw[q8]at e;exact s _ k e
  ·cases h
 ·rename_i id i j;have l:=Y'.WV;obtain⟨hid,rfl⟩:=Y'.xq;split at h
  ·rename_i o n g b;split at h
   ·cases h
   ·rename_i d;injection h with h
    subst h;refine qH hi (a b d) ?_;rw[ko,na];exact .ref hid l
  ·cases h
 ·cases h
theorem G9(hi:Inv P w S G Y Z){t:TypeId}{f:Nat}{p x:O}{u:Value}(h:Qw P t f p=some x)(Y':qw w S G Z p u):Q9 dr P w Y Z S G x Y Z ((Instr.field t u f).run P w):=by
 unfold Qw at h;split at h
 ·rename_i cs;obtain⟨us,rfl,m,l⟩:=Y'.WW;split at h
  ·rename_i o n d;split at h
   ·rename_i q;injection h with h
    subst h;obtain⟨r,x,e,g,rfl,hs,i⟩:=Xz d;refine qH (v:=.agg (us.extract x.offset (x.offset+n))) hi ?_ (.agg ?_ ?_)
    ·simp[Instr.field,zK e,g,asAgg,part,x0 i,yA hs]
    ·simp;omega
    ·intro j s v a c;rw[qI]at a;split at a
     ·rw[q8]at a;rw[Array.getElem?_extract]at c;split at c
      ·exact l _ s v a c
      ·cases c
     ·cases a
   ·cases h
  ·rename_i o n d;obtain⟨r,y,e,g,rfl,hs,i⟩:=Xz d;have k:y.offset<us.size:=by rw[<-m];exact(zk.1 h).1
   have b:us[y.offset]?=some us[y.offset]:=by simp[k]
   refine qH (v:=us[y.offset]) hi ?_ (l _ x _ h b);simp[Instr.field,zK e,g,asAgg,part,x0 i,b]
  ·cases h
 ·cases h
theorem vI{t e:TypeId}(h:yp P t=some e):P.underlying t=some (.slice e):=by
 unfold yp at h;split at h
 ·injection h with h;subst h;assumption
 ·cases h
theorem PZ{t:TypeId}{m:Nat}{e:TypeId}(h:Df P t=some (m,e)):P.underlying t=some (.array m e):=by
 unfold Df at h;split at h
 ·injection h with h;injection h with a b;subst a;subst b;assumption
 ·cases h
theorem sd(hi:Inv P w S G Y Z){t:TypeId}{p x:O}{u:Value}{k:IntKind}{i:Int}(h:ZH P t i p=some x)(Y':qw w S G Z p u):Q9 dr P w Y Z S G x Y Z ((Instr.indexAt t u (.int k i)).run P w):=by
 unfold ZH at h;split at h
 ·rename_i m e z;have r:=PZ z;split at h
  ·rename_i n y;split at h
   ·rename_i A;obtain⟨d,f⟩:=A;split at h
    ·rename_i cs;injection h with h
     subst h;cases Y'.V6 with
     |ptr us B C=>
      rename_i ad;refine qH (v:=.pointer (some (ad.add (i.toNat*n)))) hi ?_ (.c (.ptr (fun j=>us (i.toNat*n+j)) (fun j o l=>?_) (fun j o l=>?_)))
      ·simp[Instr.indexAt,zK r,asIntOf,d,f,Instr.sureAddr,yA y]
      ·rw[q8]at l;rw[Wm,dI];exact B _ o l
      ·rw[q8]at l;exact C _ o l
    ·rename_i id a b;injection h with h
     subst h;have q:=Y'.WV;obtain⟨hid,rfl⟩:=Y'.xq;refine qH (v:=.pointer (some ((⟨(G id).g,a*(G id).s+b,none⟩:Addr).add (i.toNat*n)))) hi ?_ ?_
     ·simp[Instr.indexAt,zK r,asIntOf,d,f,Instr.sureAddr,yA y]
     ·rw[ko,na];exact .ref hid q
    ·cases h
   ·cases h
  ·cases h
 ·cases h
theorem nq(hi:Inv P w S G Y Z){t:TypeId}{p q x:O}{u v:Value}(h:qW P Y t p q=some x)(Y':qw w S G Z p u)(L:qw w S G Z q v):Q9 dr P w Y Z S G x Y Z ((Instr.indexAt t u v).run P w):=by
 unfold qW at h;split at h
 ·rename_i k i;obtain⟨rfl,_⟩:=L.yi;split at h
  ·rename_i e M;have I:=vI M;split at h
   ·rename_i n s es hs;split at h
    ·rename_i r;obtain⟨rfl,N,d⟩:=r;cases a:es[i.toNat]? with
     |none=>simp[a]at h
     |some c=>
      simp[a]at h;subst h;cases Y'.dF with
      |sl us h0 h1 h2 y z J=>
       rename_i A cap;have Q:=y c (zN a);have R:i.toNat<es.length:=(zk.1 a).1;have B:c[0]?=some (c[0]'(by omega)):=zq (by omega);obtain⟨ad,rfl,hS,_⟩:=z i.toNat 0 c _ a B;have f:i<es.length:=by omega
       refine qH (v:=.pointer (some (ad.add (i.toNat*s)))) hi ?_ (.c (.ptr (fun j=>us i.toNat j) (fun j C D=>?_) (fun j C D=>J i.toNat j c C a D)))
       ·simp[Instr.indexAt,zK I,asIntOf,d,f,yA hs]
       ·obtain⟨T,E,K,F,_⟩:=z i.toNat j c C a D;injection E with E;subst E;rw[Wm,dI];exact⟨K,F⟩
    ·cases h
   ·rename_i n id off m hs;split at h
    ·rename_i b U;split at h
     ·rename_i r;obtain⟨rfl,W,d,X⟩:=r;injection h with h
      subst h;have l:=Y'.vy;obtain⟨cap,y,z,J,K,rfl⟩:=Y'.vf;have H:(G id).s=n:=by
       have:=(hi.live id b U).size l;have F:(P.info? b.e).map (·.size)=some n:=hs;rw[F]at this;injection this with this
       exact this.symm
      have o:i<m:=by omega
      refine qH (v:=.pointer (some ((⟨(G id).g,off*(G id).s,none⟩:Addr).add (i.toNat*n)))) hi ?_ ?_
      ·simp[Instr.indexAt,zK I,asIntOf,d,o,yA hs]
      ·rw[ko,<-H,<-wo];have:=qw.ref (w:=w) (S:=S) (G:=G) (Z:=Z) (id:=id) (i:=off+i.toNat) (j:=0) y l;simpa using this
     ·cases h
    ·cases h
   ·cases h
  ·exact sd hi h Y'
 ·cases h
theorem Ha(hi:Inv P w S G Y Z){t:TypeId}{p q x:O}{u v:Value}(h:Wo P t p q=some x)(Y':qw w S G Z p u)(a:qw w S G Z q v):Q9 dr P w Y Z S G x Y Z ((Instr.index t u v).run P w):=by
 unfold Wo at h;split at h
 ·rename_i s k i;obtain⟨rfl,_⟩:=a.yi;obtain⟨rfl,_⟩:=Y'.yi;split at h
  ·rename_i d;split at h
   ·rename_i e;split at h
    ·rename_i b f;injection h with h
     subst h;refine qH (v:=.int .u8 b.toNat) hi ?_ (.c (.v rfl));simp[Instr.index,zK d,asIntOf,e,f]
    ·cases h
   ·cases h
  ·cases h
 ·cases h
theorem Au(hi:Inv P w S G Y Z){vs:zb}{x:O}{i:Nat}{u:Value}(h:vs[i]?=some x)(Y':qw w S G Z (.w5 vs) u):Q9 dr P w Y Z S G x Y Z ((Instr.extract u i).run P w):=by
 obtain⟨us,rfl,c,d⟩:=Y'.MI;have b:i<us.size:=by rw[<-c];exact(zk.1 h).1
 have a:us[i]?=some us[i]:=by simp[b]
 exact qH (v:=us[i]) hi (by simp[Instr.extract,a]) (d i x _ h a)
theorem Zf(x:Value)(h:lit x=true):qw w S G Z (.v x) x:=.c (.v h)
theorem P0{op:BinOp}{k:IntKind}{a b:Int}{x:O}(h:PS op k a b=some x)(t:TypeId)(w:World):∃v,x=.v v/\lit v=true/\(binOp op t (.int k a) (.int k b)).run P w=.ok v w:=by
 unfold PS at h;split at h<;>(try (split at h))<;>first
  |(injection h with h;subst h;exact⟨_,rfl,rfl,by simp[binOp,Op.intArith,Op.intDiv,Op.intCmp,Op.intBits,Op.shift, *]⟩)
  |cases h
theorem P1{op:BinOp}{a b:ByteArray}{x:O}(h:PT op a b=some x)(t:TypeId)(w:World):∃v,x=.v v/\lit v=true/\(binOp op t (.string a) (.string b)).run P w=.ok v w:=by
 have d:IntKind.i64.max=9223372036854775807:=by decide
 unfold PT at h;split at h
 ·split at h
  ·rename_i c;injection h with h
   subst h;refine⟨_,rfl,rfl,?_⟩;have e:(a.size:Int)+(b.size:Int)<=9223372036854775807:=by simp only[maxLen]at c;omega
   simp[binOp,Op.stringOp,e]
  ·cases h
 all_goals first
  |(injection h with h;subst h;exact⟨_,rfl,rfl,by simp[binOp,Op.stringOp]⟩)
  |cases h
theorem JQ{op:BinOp}{t:TypeId}{x y:Operand}{a b:Value}(h:lit a=true)(c:a≠.nilIface)(w:World):(eqGuard op t x y a b).run P w=.ok () w:=by unfold eqGuard;cases op<;>simp<;>(cases a<;>cases b<;>simp_all[lit])
theorem LA{t:TypeId}{k:Nat}(h:MR P t=some k):ye P t=some false:=by
 unfold MR at h;unfold ye;split at h<;>first
  |(rename_i a;rw[a];rfl)
  |cases h
theorem dL(w:World)(d:Nat)(B C:Array Value):∀(D:List Field) (k:Nat) (N:List Nat) (E F:zb) (r:Bool),tx P k D=some N->ym N E F=some r ->
  (∀(j:Nat) (t:O),E[j]?=some t->∃u,B[k+j]?=some u/\qw w S G Z t u)->(∀(j:Nat) (t:O),F[j]?=some t->∃u,C[k+j]?=some u/\qw w S G Z t u) ->
  (Op.eqFields (d+1) B C D).run P w=.ok r w
 |[],k,N,E,F,r,g,e,_,_=>by
  simp only[tx]at g;injection g with g
  subst g;simp only[ym]at e;injection e with e
  subst e;simp[Op.eqFields]
 |f::D,k,N,E,F,r,g,e,U,W=>by
  simp only[tx]at g;split at g
  ·rename_i z;split at g
   ·rename_i tg i H h2;injection g with g
    subst g;have A:∀(p q:O) (x y:zb) (b s:Bool),E=p::x->F=q::y->(∀u v,qw w S G Z p u->qw w S G Z q v->(Op.equalIn (d+1) f.type u v).run P w=.ok b w)->ym i x y=some s->r=(b&&s) ->
      (Op.eqFields (d+1) B C (f::D)).run P w=.ok r w:=by
     intro p q x y b s h e2 h3 h4 h5;subst h;subst e2;subst h5;obtain⟨u,I,Q⟩:=U 0 p rfl;obtain⟨v,J,R⟩:=W 0 q rfl;simp only[vS]at I J;have X:=LA H;have Y1:(part f.type B f.offset).run P w=.ok u w:=by simp[part,x0 X,z.1,I]
     have Y2:(part f.type C f.offset).run P w=.ok v w:=by simp[part,x0 X,z.1,J]
     have ih:=dL w d B C D (k+1) i x y s h2 h4 (fun j t T=>by have:=U (j+1) t (by simpa using T);rwa [show k+(j+1)=k+1+j from by omega]at this) (fun j t T=>by have:=W (j+1) t (by simpa using T);rwa [show k+(j+1)=k+1+j from by omega]at this);cases b<;>simp[Op.eqFields,z.2,Y1,Y2,h3 u v Q R,ih]
    unfold ym at e;unfold MR at H;split at e
    ·simp_all
    ·rename_i K kk a l kk' b m h;injection h with h n
     subst h;subst n;split at e
     ·rename_i hk;subst hk;cases c:ym i l m with
      |none=>simp[c]at e
      |some s=>
       simp[c]at e;refine A _ _ _ _ (a==b) s rfl rfl (fun u v L M=>?_) c e.symm;obtain⟨rfl,_⟩:=L.yi;obtain⟨rfl,_⟩:=M.yi;split at H<;>first
        |(rename_i o;simp[Op.equalIn,zK o];done)
        |simp_all
     ·cases e
    ·rename_i K a l b m h;injection h with h n
     subst h;subst n;cases c:ym i l m with
     |none=>simp[c]at e
     |some s=>
      simp[c]at e;refine A _ _ _ _ (a==b) s rfl rfl (fun u v L M=>?_) c e.symm;obtain⟨rfl,_⟩:=L.yi;obtain⟨rfl,_⟩:=M.yi;split at H<;>first
       |(rename_i o;simp[Op.equalIn,zK o];done)
       |simp_all
    ·rename_i K a l b m h;injection h with h n
     subst h;subst n;cases c:ym i l m with
     |none=>simp[c]at e
     |some s=>
      simp[c]at e;refine A _ _ _ _ (a==b) s rfl rfl (fun u v L M=>?_) c e.symm;obtain⟨rfl,_⟩:=L.yi;obtain⟨rfl,_⟩:=M.yi;split at H<;>first
       |(rename_i o;simp[Op.equalIn,zK o];done)
       |simp_all
    ·cases e
   ·cases g
  ·cases g
def eq1:Nat->O->O->Option Bool
 | 0,.v (.int k a),.v (.int c b)=>if k=c then some (a==b)else none
 | 1,.v (.bool a),.v (.bool b)=>some (a==b)
 | 2,.v (.string a),.v (.string b)=>some (a==b)
 |_,_,_=>none
theorem Vl(k:Nat)(a:List Nat)(b:zb):ym (k::a) [] b=none:=by unfold ym;split<;>first|rfl|simp_all
theorem Vm(k:Nat)(a:List Nat)(b:zb):ym (k::a) b []=none:=by unfold ym;split<;>first|rfl|simp_all
theorem YR(k:Nat)(c:List Nat)(p q:O)(d e:zb):ym (k::c) (p::d) (q::e)=(eq1 k p q).bind fun b=>(ym c d e).map (b&&·):=by
 match k with
 | 0=>
  cases p with
  |v x=>cases x with
   |int w a=>cases q with
    |v y=>cases y with
     |int w' b=>simp only[ym,eq1];split<;>rfl
     |_=>rfl
    |_=>rfl
   |_=>rfl
  |_=>rfl
 | 1=>
  cases p with
  |v x=>cases x with
   |bool a=>cases q with
    |v y=>cases y<;>rfl
    |_=>rfl
   |_=>rfl
  |_=>rfl
 | 2=>
  cases p with
  |v x=>cases x with
   |string a=>cases q with
    |v y=>cases y<;>rfl
    |_=>rfl
   |_=>rfl
  |_=>rfl
 |k+3=>rfl
theorem XA:∀(a c:List Nat) (d e:zb) (r:Bool),ym (a++c) d e=some r->∃f g,ym a d e=some f/\ym c (d.drop a.length) (e.drop a.length)=some g/\r=(f&&g)
 |[],c,d,e,r,h=>⟨true,r,rfl,h,rfl⟩
 |k::a,c,[],e,r,h=>by rw[wB,Vl]at h;cases h
 |k::a,c,p::d,[],r,h=>by rw[wB,Vm]at h;cases h
 |k::a,c,p::d,q::e,r,h=>by
  rw[wB,YR]at h;cases i:eq1 k p q with
  |none=>rw[i]at h;cases h
  |some b=>rw[i,qc]at h;obtain⟨j,l,rfl⟩:=fH.1 h;obtain⟨f,g,m,n,rfl⟩:=XA a c d e j l;exact⟨b&&f,g,by rw[YR,i,qc,m];rfl,n,by rw[Bool.and_assoc]⟩
theorem dM:∀(a:List Nat) (b c:zb),ym a (b.take a.length) (c.take a.length)=ym a b c
 |[],b,c=>by simp only[ym]
 |k::a,[],c=>by rw[List.take_nil,Vl,Vl]
 |k::a,p::b,[]=>by rw[List.take_nil,Vm,Vm]
 |k::a,p::b,q::c=>by rw[zx,yE,yE,YR,YR,dM a b c]
theorem P2{t:TypeId}{a:List Nat}(h:subA P t=some a):∃gs,P.underlying t=some (.struct gs)/\tx P 0 gs.toList=some a/\P.stoodInHeld t=false/\qE P t=some a.length:=by
 unfold subA at h;split at h
 ·cases h
 ·rename_i f;split at h
  ·rename_i gs b;split at h
   ·rename_i c d;split at h
    ·rename_i e;injection h with h
     subst h;exact⟨gs,b,d,by cases g:P.stoodInHeld t<;>simp_all,e⟩
    ·cases h
   ·cases h
  ·cases h
theorem Kg(w:World)(d:Nat)(s t:Array Value):∀(Q:List Field) (k:Nat) (ks:List Nat) (I J:zb) (r:Bool),tz P k Q=some ks->ym ks I J=some r ->
  (∀(j:Nat) (c:O),I[j]?=some c->∃u,s[k+j]?=some u/\qw w S G Z c u)->(∀(j:Nat) (c:O),J[j]?=some c->∃u,t[k+j]?=some u/\qw w S G Z c u) ->
  (Op.eqFields (d+2) s t Q).run P w=.ok r w
 |[],k,ks,I,J,r,g,h,_,_=>by
  simp only[tz]at g;injection g with g
  subst g;simp only[ym]at h;injection h with h
  subst h;simp[Op.eqFields]
 |f::Q,k,ks,I,J,r,g,h,hx,hy=>by
  simp only[tz]at g;split at g
  ·rename_i o;split at g
   ·rename_i tg R;split at g
    case h_2=>cases g
    rename_i l h2;injection g with g
    subst g;have K:∀(p q:O) (E F:zb) (b C:Bool),I=p::E->J=q::F->(∀u v,qw w S G Z p u->qw w S G Z q v->(Op.equalIn (d+2) f.type u v).run P w=.ok b w)->ym l E F=some C->r=(b&&C) ->
      (Op.eqFields (d+2) s t (f::Q)).run P w=.ok r w:=by
     intro p q E F b C i e2 h3 h4 h5;subst i;subst e2;subst h5;obtain⟨u,m,x⟩:=hx 0 p rfl;obtain⟨v,T,hv2⟩:=hy 0 q rfl;simp only[vS]at m T;have ha:=LA R;have Y1:(part f.type s f.offset).run P w=.ok u w:=by simp[part,x0 ha,o.1,m]
     have Y2:(part f.type t f.offset).run P w=.ok v w:=by simp[part,x0 ha,o.1,T]
     have ih:=Kg w d s t Q (k+1) l E F C h2 h4 (fun j c D=>by have:=hx (j+1) c (by simpa using D);rwa [show k+(j+1)=k+1+j from by omega]at this) (fun j c D=>by have:=hy (j+1) c (by simpa using D);rwa [show k+(j+1)=k+1+j from by omega]at this);cases b<;>simp[Op.eqFields,o.2,Y1,Y2,h3 u v x hv2,ih]
    unfold ym at h;unfold MR at R;split at h
    ·simp_all
    ·rename_i U kk a y kk' b z i;injection i with i A
     subst i;subst A;split at h
     ·rename_i hk;subst hk;cases e:ym l y z with
      |none=>simp[e]at h
      |some C=>
       simp[e]at h;refine K _ _ _ _ (a==b) C rfl rfl (fun u v W X=>?_) e h.symm;obtain⟨rfl,_⟩:=W.yi;obtain⟨rfl,_⟩:=X.yi;split at R<;>first
        |(rename_i B;simp[Op.equalIn,zK B];done)
        |simp_all
     ·cases h
    ·rename_i U a y b z i;injection i with i A
     subst i;subst A;cases e:ym l y z with
     |none=>simp[e]at h
     |some C=>
      simp[e]at h;refine K _ _ _ _ (a==b) C rfl rfl (fun u v W X=>?_) e h.symm;obtain⟨rfl,_⟩:=W.yi;obtain⟨rfl,_⟩:=X.yi;split at R<;>first
       |(rename_i B;simp[Op.equalIn,zK B];done)
       |simp_all
    ·rename_i U a y b z i;injection i with i A
     subst i;subst A;cases e:ym l y z with
     |none=>simp[e]at h
     |some C=>
      simp[e]at h;refine K _ _ _ _ (a==b) C rfl rfl (fun u v W X=>?_) e h.symm;obtain⟨rfl,_⟩:=W.yi;obtain⟨rfl,_⟩:=X.yi;split at R<;>first
       |(rename_i B;simp[Op.equalIn,zK B];done)
       |simp_all
    ·cases h
   ·split at g
    case h_2=>cases g
    rename_i n hs1;split at g
    case h_2=>cases g
    rename_i l h2;injection g with g
    subst g;obtain⟨r1,r2,i,e2,rfl⟩:=XA _ _ _ _ _ h;rw[<-dM]at i;obtain⟨gs,L,hgt,hgs,hgn⟩:=P2 hs1;have H:ye P f.type=some true:=by unfold ye;rw[L];rfl
    have hfo:P.fieldsOf f.type=gs:=by simp[Program.fieldsOf,L]
    have Y1:(part f.type s f.offset).run P w=.ok (.agg (s.extract k (k+n.length))) w:=by simp[part,x0 H,o.1,yA hgn]
    have Y2:(part f.type t f.offset).run P w=.ok (.agg (t.extract k (k+n.length))) w:=by simp[part,x0 H,o.1,yA hgn]
    have hin:∀(M:zb) (N:Array Value),(∀(j:Nat) (c:O),M[j]?=some c->∃u,N[k+j]?=some u/\qw w S G Z c u)->∀(j:Nat) (c:O),(M.take n.length)[j]?=some c->∃u,(N.extract k (k+n.length))[0+j]?=some u/\qw w S G Z c u:=by
     intro M N hz j c D;have hjl:j<n.length:=by have:=(zk.1 D).1;rw[ju]at this;omega
     rw[List.getElem?_take_of_lt hjl]at D;obtain⟨u,m,x⟩:=hz j c D;refine⟨u,?_,x⟩;rw[wg,Array.getElem?_extract];have hlt:=(zM.1 m).1;rw[zd (by omega)];exact m
    have hrun:(Op.equalIn (d+2) f.type (.agg (s.extract k (k+n.length))) (.agg (t.extract k (k+n.length)))).run P w=.ok r1 w:=by rw[run_equalIn_struct w (d+1) f.type _ _ (by rw[hfo];exact L) hgs,hfo];exact dL w d _ _ gs.toList 0 n _ _ r1 hgt i (hin I s hx) (hin J t hy)
    have PK:∀(M:zb) (N:Array Value),(∀(j:Nat) (c:O),M[j]?=some c->∃u,N[k+j]?=some u/\qw w S G Z c u)->∀(j:Nat) (c:O),(M.drop n.length)[j]?=some c->∃u,N[k+n.length+j]?=some u/\qw w S G Z c u:=by intro M N hz j c D;rw[q8]at D;obtain⟨u,m,x⟩:=hz (n.length+j) c D;exact⟨u,by rwa [show k+(n.length+j)=k+n.length+j by omega]at m,x⟩
    have ih:=Kg w d s t Q (k+n.length) l _ _ r2 h2 e2 (PK I s hx) (PK J t hy);cases r1<;>simp[Op.eqFields,o.2,Y1,Y2,hrun,ih]
  ·cases g
theorem tD{t:TypeId}{g:List Nat}{xs ys:zb}{r:Bool}{u v:Value}(b:Dd P t=some g)(z:ym g xs ys=some r)(A:qw w S G Z (.agg xs) u)(B:qw w S G Z (.agg ys) v) :
  (Op.equal t u v).run P w=.ok r w/\∀(op:BinOp) (x y:Operand),(eqGuard op t x y u v).run P w=.ok () w:=by
 obtain⟨e,rfl,i,k⟩:=A.WW;obtain⟨f,rfl,l,m⟩:=B.WW;unfold Dd at b;split at b
 ·cases b
 ·rename_i C;have n:P.stoodInHeld t=false:=by cases h:P.stoodInHeld t<;>simp_all
  have o:P.eqGuardType P.depth t=false:=by cases h:P.eqGuardType P.depth t<;>simp_all
  split at b
  ·rename_i q s;have c:P.fieldsOf t=q:=by simp[Program.fieldsOf,s]
   constructor
   ·unfold Op.equal Op.maxDepth;rw[show(10000:Nat)=9999+1 from rfl,run_equalIn_struct w 9999 t e f (by rw[c];exact s) n,c];exact Kg w 9997 e f q.toList 0 g xs ys r b z
     (fun j p d=>by
      have a:j<e.size:=by rw[<-i];exact(zk.1 d).1
      exact⟨e[j],by simp[a],k j p _ d (by simp[a])⟩)
     (fun j p d=>by
      have a:j<f.size:=by rw[<-l];exact(zk.1 d).1
      exact⟨f[j],by simp[a],m j p _ d (by simp[a])⟩)
   ·intro op x y;unfold eqGuard;cases op<;>simp[o]
  ·cases b
theorem nr{t:TypeId}(a b:Bool)(c:P.underlying t=some .bool)(w:World):(Op.equal t (.bool a) (.bool b)).run P w=.ok (a==b) w:=by
 have h:∀d:Nat,(Op.equalIn (d+1) t (.bool a) (.bool b)).run P w=.ok (a==b) w:=fun d=>by simp only[Op.equalIn,xA,zK c,vm,Ym]
 exact h 9999
theorem tE{t e:TypeId}(A:Option Addr)(n c:Nat)(a:P.underlying t=some (.slice e))(w:World):(Op.equal t (.slice A n c) (.slice none 0 0)).run P w=.ok A.isNone w:=by
 have h:∀d:Nat,(Op.equalIn (d+1) t (.slice A n c) (.slice none 0 0)).run P w=.ok A.isNone w:=fun d=>by cases A<;>simp only[Op.equalIn,xA,zK a,vm,Ym]<;>rfl
 exact h 9999
theorem tF{p:O}{u:Value}{r:Bool}(h:Vh p=some r)(b:qw w S G Z p u):∃A n c,u=.slice A n c/\A.isNone=r:=by
 unfold Vh at h;split at h
 ·injection h with h;subst h;exact⟨none,0,0,b.xQ,rfl⟩
 ·injection h with h;subst h;obtain⟨ad,cap,rfl,_⟩:=b.rX;exact⟨_,_,_,rfl,rfl⟩
 ·injection h with h;subst h;obtain⟨cap,_,_,_,_,rfl⟩:=b.vf;exact⟨_,_,_,rfl,rfl⟩
 ·rename_i s c es;injection h with h;subst h
  cases b.dF with
  |sl us d e f g i j=>
   rename_i A cap;cases A with
   |none=>have:=d rfl;subst this;simp at e
   |some a=>exact⟨_,_,_,rfl,rfl⟩
 ·cases h
theorem Hb(hi:Inv P w S G Y Z){op:BinOp}{t:TypeId}{p q x:O}{u v:Value}(B C:Operand)(h:Qi P op t p q=some x)(f:qw w S G Z p u)(g:qw w S G Z q v) :
  Q9 dr P w Y Z S G x Y Z ((do eqGuard op t B C u v;binOp op t u v:Sem Value).run P w):=by
 unfold Qi at h;split at h
 ·rename_i k a H b;obtain⟨rfl,_⟩:=f.yi;obtain⟨rfl,_⟩:=g.yi;split at h
  ·rename_i D;subst D;obtain⟨r,rfl,j,l⟩:=P0 (P:=P) h t w;exact qH (v:=r) hi (by simp[JQ (a:=.int k a) rfl (by simp) w,l]) (Zf r j)
  ·cases h
 ·rename_i a b;obtain⟨rfl,_⟩:=f.yi;obtain⟨rfl,_⟩:=g.yi;obtain⟨r,rfl,j,l⟩:=P1 (P:=P) h t w;exact qH (v:=r) hi (by simp[JQ (a:=.string a) rfl (by simp) w,l]) (Zf r j)
 ·rename_i a b;obtain⟨rfl,_⟩:=f.yi;obtain⟨rfl,_⟩:=g.yi;split at h
  ·rename_i i;injection h with h
   subst h;refine qH (v:=.bool (a==b)) hi ?_ (Zf _ rfl);simp only[xA,JQ (a:=.bool a) rfl (by simp) w,vm,binOp,nr a b i,Ym]
  ·rename_i i;injection h with h
   subst h;refine qH (v:=.bool (!(a==b))) hi ?_ (Zf _ rfl);simp only[xA,JQ (a:=.bool a) rfl (by simp) w,vm,binOp,nr a b i,Ym]
  ·cases h
 ·rename_i xs ys;split at h
  ·rename_i y z;split at h
   ·cases d:ym y xs ys with
    |none=>simp[d]at h
    |some r=>simp[d]at h;subst h;obtain⟨m,o⟩:=tD z d f g;obtain⟨E,rfl,_,_⟩:=f.WW;obtain⟨F,rfl,_,_⟩:=g.WW;exact qH (v:=.bool r) hi (by simp[o,binOp,m]) (Zf _ rfl)
   ·cases d:ym y xs ys with
    |none=>simp[d]at h
    |some r=>simp[d]at h;subst h;obtain⟨m,o⟩:=tD z d f g;obtain⟨E,rfl,_,_⟩:=f.WW;obtain⟨F,rfl,_,_⟩:=g.WW;exact qH (v:=.bool !r) hi (by simp[o,binOp,m]) (Zf _ rfl)
   ·cases h
  ·cases h
 ·have:=g.xQ;subst this;split at h
  ·rename_i e r d s;injection h with h
   subst h;obtain⟨A,n,c,rfl,rfl⟩:=tF s f;refine qH (v:=.bool A.isNone) hi ?_ (Zf _ rfl);simp only[xA,eqGuard,binOp,tE A n c (vI d),Ym,vm];simp
  ·rename_i e r d s;injection h with h
   subst h;obtain⟨A,n,c,rfl,rfl⟩:=tF s f;refine qH (v:=.bool !A.isNone) hi ?_ (Zf _ rfl);simp only[xA,eqGuard,binOp,tE A n c (vI d),Ym,vm];simp
  ·cases h
 ·cases h
theorem MS(hi:Inv P w S G Y Z){op:BinOp}{t:TypeId}{p q x:O}{u v:Value}(f a:Operand)(h:Xy (isK a) P op t p q=some x)(g:qw w S G Z p u)(i:qw w S G Z q v) :
  Q9 dr P w Y Z S G x Y Z ((do eqGuard op t f a u v;binOp op t u v:Sem Value).run P w):=by
 unfold Xy at h;split at h
 ·rename_i k;obtain⟨rfl,_⟩:=g.yi;obtain⟨rfl,_⟩:=i.yi;obtain⟨c,rfl⟩:∃c,a=.const c:=by cases a<;>first|exact⟨_,rfl⟩|(simp[isK]at k)
  unfold Lx at h;split at h
  ·rename_i b;unfold G6 at b;split at b
   ·rename_i l e;have j:(Op.equal t .nilIface .nilIface).run P w=.ok true w:=by
     have h:∀d:Nat,(Op.equalIn (d+1) t .nilIface .nilIface).run P w=.ok true w:=fun d=>by simp only[Op.equalIn,xA,zK e,vm,Ym]
     exact h 9999
    split at h
    ·injection h with h;subst h;refine qH (v:=.bool true) hi ?_ (Zf _ rfl);simp[eqGuard,binOp,j,Result.andThen]
    ·injection h with h;subst h;refine qH (v:=.bool false) hi ?_ (Zf _ rfl);simp[eqGuard,binOp,j,Result.andThen]
    ·cases h
   ·cases b
  ·cases h
 ·exact Hb hi f a h g i
theorem MT(hi:Inv P w S G Y Z){op:UnOp}{p x:O}{u:Value}(h:ga op p=some x)(a:qw w S G Z p u):Q9 dr P w Y Z S G x Y Z ((Op.unary op u).run P w):=by
 unfold ga at h;split at h
 ·obtain⟨rfl,_⟩:=a.yi;split at h
  ·injection h with h;subst h;exact qH (v:=_) hi (by simp[Op.unary]) (Zf _ rfl)
  ·cases h
 ·obtain⟨rfl,_⟩:=a.yi;split at h
  ·injection h with h;subst h;exact qH (v:=_) hi (by simp[Op.unary,Op.intArith]) (Zf _ rfl)
  ·cases h
 ·cases h
theorem MU(hi:Inv P w S G Y Z){a dst:TypeId}{p x:O}{u:Value}(h:bQ P a dst p=some x)(e:qw w S G Z p u):Q9 dr P w Y Z S G x Y Z ((convert a dst u).run P w):=by
 unfold bQ at h;split at h
 ·obtain⟨rfl,_⟩:=e.yi;split at h
  ·rename_i d k b c;injection h with h
   subst h;exact qH (v:=_) hi (by simp[convert,zK b,zK c,Conv.intToInt]) (Zf _ rfl)
  ·cases h
 ·obtain⟨rfl,_⟩:=e.yi;split at h
  ·rename_i d b c;injection h with h
   subst h;exact qH (v:=_) hi (by simp[convert,zK b,zK c]) (Zf _ rfl)
  ·cases h
 ·cases h
end
end Go.AM
