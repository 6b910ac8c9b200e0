/- Lemmas. -/
import Derived.WalkKit
import Derived.ChangeAgain
import Derived.Lib.ItoaNum
import Derived.Test.YtmbfinldjgmhaaaGreatDoorG0
set_option maxRecDepth 8000
set_option maxHeartbeats 4000000
open Go Proofs Proofs.YtmbfinldjgmhaaaGreatDoor Proofs.Tryz RowKit AM SpanLaw Q Zz
namespace Go.AM
variable{dr:Prop}
inductive O where
 |v (x:Value)
 |nil
 |agg (cs:List O)
 |wq (cs:List O)
 |sl (s:Nat) (es:List (List O))
 |em
 |ptr (cs:List O)
 |own (id off n:Nat)
 |ref (id i j:Nat)
 |mp (id:Nat)
 |fn (f:Fn) (first captured:List O)
def lit:Value->Bool
 | .bool _|.int _ _|.string _|.nilFunc|.pointer none|.nilIface|.map none|.slice (some _) 0 0=>true
 |_=>false
def O.wH:O->Bool
 | .agg _|.wq _=>false
 |_=>true
inductive wK (w:World) (S:Nat->Prop):O->Value->Prop
 |v {x:Value}:lit x=true->wK w S (.v x) x
 |nil:wK w S .nil (.slice none 0 0)
 |em {ad:Addr} {cap:Nat}:cap<=maxLen->wK w S .em (.slice (some ad) 0 cap)
 |agg {cs:List O} {us:Array Value}:cs.length=us.size->(∀(j:Nat) (pv:O) (u:Value),cs[j]?=some pv->us[j]?=some u->wK w S pv u)->wK w S (.agg cs) (.agg us)
 |wq {cs:List O} {us:Array Value}:cs.length=us.size->(∀(j:Nat) (pv:O) (u:Value),cs[j]?=some pv->us[j]?=some u->wK w S pv u)->wK w S (.wq cs) (.tuple us)
 |sl {es:List (List O)} {A:Option Addr} {cap s:Nat} (us:Nat->Nat->Value):(A=none->cap=0)->es.length<=cap->cap<=maxLen->(∀c∈es,c.length=s) ->
   (∀(i j:Nat) (c:List O) (pv:O),es[i]?=some c->c[j]?=some pv->∃ad,A=some ad/\S ad.block/\w.cell? (ad.add (i*s+j))=some (us i j)/\(us i j).oneCell'=true) ->
   (∀(i j:Nat) (c:List O) (pv:O),es[i]?=some c->c[j]?=some pv->wK w S pv (us i j))->wK w S (.sl s es) (.slice A es.length cap)
 |ptr {cs:List O} {ad:Addr} (us:Nat->Value):(∀(j:Nat) (pv:O),cs[j]?=some pv->S ad.block/\w.cell? (ad.add j)=some (us j)) ->
   (∀(j:Nat) (pv:O),cs[j]?=some pv->wK w S pv (us j))->wK w S (.ptr cs) (.pointer (some ad))
 |fn {f:Fn} {xs ys:List O} {us ts:Array Value}:xs.length=us.size->ys.length=ts.size->(∀(j:Nat) (pv:O) (u:Value),xs[j]?=some pv->us[j]?=some u->wK w S pv u) ->
   (∀(j:Nat) (pv:O) (u:Value),ys[j]?=some pv->ts[j]?=some u->wK w S pv u)->wK w S (.fn f xs ys) (.func f us ts)
structure GI where
 g:Nat
 z:Nat
 s:Nat
inductive qb (w:World) (S:Nat->Prop) (G:Nat->GI) (Z:Nat):O->Value->Prop
 |c {pv:O} {x:Value}:wK w S pv x->qb w S G Z pv x
 |own {id off n cap:Nat}:id<Z->n<=cap->cap<=maxLen->(off+cap)*(G id).s=(G id).z->0<(G id).s->qb w S G Z (.own id off n) (.slice (some ⟨(G id).g,off*(G id).s,none⟩) n cap)
 |ref {id i j:Nat}:id<Z->0<(G id).s->qb w S G Z (.ref id i j) (.pointer (some ⟨(G id).g,i*(G id).s+j,none⟩))
 |mp {id:Nat}:id<Z->(G id).s=0->qb w S G Z (.mp id) (.map (some (G id).g))
 |agg {cs:List O} {us:Array Value}:cs.length=us.size->(∀(j:Nat) (pv:O) (u:Value),cs[j]?=some pv->us[j]?=some u->qb w S G Z pv u)->qb w S G Z (.agg cs) (.agg us)
 |wq {cs:List O} {us:Array Value}:cs.length=us.size->(∀(j:Nat) (pv:O) (u:Value),cs[j]?=some pv->us[j]?=some u->qb w S G Z pv u)->qb w S G Z (.wq cs) (.tuple us)
 |fn {f:Fn} {xs ys:List O} {us ts:Array Value}:xs.length=us.size->ys.length=ts.size->(∀(j:Nat) (pv:O) (u:Value),xs[j]?=some pv->us[j]?=some u->qb w S G Z pv u) ->
   (∀(j:Nat) (pv:O) (u:Value),ys[j]?=some pv->ts[j]?=some u->qb w S G Z pv u)->qb w S G Z (.fn f xs ys) (.func f us ts)
theorem QP(a:Addr)(n:Nat):(a.add n).block=a.block:=by unfold Addr.add;split<;>rfl
theorem cd(a:Addr)(i j:Nat):(a.add i).add j=a.add (i+j):=by unfold Addr.add;by_cases hi:i=0<;>by_cases b:j=0<;>simp[hi,b,iR]
theorem wK.mono{w w':World}{S p:Nat->Prop}{d:O}{x:Value}(h:wK w S d x)(g:∀b,S b->p b/\w'.heap[b]?=w.heap[b]?):wK w' p d x:=by
 induction h with
 |v h=>exact .v h
 |nil=>exact .nil
 |em h=>exact .em h
 |agg k _ a=>exact .agg k a
 |wq k _ a=>exact .wq k a
 |sl us q f l r s _ a=>refine .sl us q f l r (fun i j c d hi m=>?_) a;obtain⟨ad,e,hs,n,o⟩:=s i j c d hi m;refine⟨ad,e,(g _ hs).1,?_,o⟩;rw[<-n];apply Xx;rw[QP];exact(g _ hs).2
 |ptr us f _ a=>refine .ptr us (fun j d m=>?_) a;obtain⟨hs,n⟩:=f j d m;refine⟨(g _ hs).1,?_⟩;rw[<-n];apply Xx;rw[QP];exact(g _ hs).2
 |fn f l _ _ t u=>exact .fn f l t u
theorem qb.mono{w w':World}{S i:Nat->Prop}{G j:Nat->GI}{Z k:Nat}{l:O}{x:Value}(h:qb w S G Z l x)(o:∀b,S b->i b/\w'.heap[b]?=w.heap[b]?)
  (s:Z<=k) (e:∀id,id<Z->j id=G id):qb w' i j k l x:=by
 induction h with
 |c h=>exact .c (h.mono o)
 |own d a p m n=>rw[<-e _ d]at m n⊢;exact .own (by omega) a p m n
 |ref d a=>rw[<-e _ d]at a⊢;exact .ref (by omega) a
 |mp d a=>rw[<-e _ d]at a⊢;exact .mp (by omega) a
 |agg f _ g=>exact .agg f g
 |wq f _ g=>exact .wq f g
 |fn d a _ _ q r=>exact .fn d a q r
theorem wK.K3{w:World}{S:Nat->Prop}{a:O}{x:Value}(h:wK w S a x)(b:a.wH=true):x.oneCell'=true:=by
 cases h with
 |v h=>cases x<;>simp_all[lit,Value.oneCell']
 |agg=>simp[O.wH]at b
 |wq=>simp[O.wH]at b
 |_=>rfl
theorem qb.K3{w:World}{S:Nat->Prop}{G:Nat->GI}{Z:Nat}{b:O}{x:Value}(h:qb w S G Z b x)(a:b.wH=true):x.oneCell'=true:=by
 cases h with
 |c h=>exact h.K3 a
 |agg=>simp[O.wH]at a
 |wq=>simp[O.wH]at a
 |_=>rfl
structure kn where
 e:TypeId
 s:Nat
 arr:Bool
 es:List (List O)
abbrev Hp:=Nat->Option kn
def qt{α:Type}(f:Nat->α)(k:Nat)(x:α):Nat->α:=fun i=>if i=k then x else f i
@[simp]theorem wP{α:Type}(f:Nat->α)(k:Nat)(x:α):qt f k x k=x:=by simp[qt]
theorem qL{α:Type}(f:Nat->α)(k i:Nat)(x:α)(h:i≠k):qt f k x i=f i:=by simp[qt,h]
def ji(w:World)(S:Nat->Prop)(G:Nat->GI)(Z:Nat)(a:Bool)(b:O)(u:Value):Prop:=
 (a=true->wK w S b u)/\qb w S G Z b u/\u.oneCell'=true
structure DZ (P:Program) (w:World) (S:Nat->Prop) (G:Nat->GI) (Z:Nat) (gi:GI) (b:kn):Prop where
 size:(P.info? b.e).map (·.size)=some gi.s
 len:∀c∈b.es,c.length=gi.s
 fit:b.es.length*gi.s<=gi.z
 row:∃cur:Array Value,w.heap[gi.g]?=some (.cells cur b.e (0,0))/\cur.size=gi.z /\
  ∀(i j:Nat) (c:List O) (pv:O),b.es[i]?=some c->c[j]?=some pv->∃u,cur[i*gi.s+j]?=some u/\ji w S G Z b.arr pv u
def YT(w:World)(S:Nat->Prop)(c:List O)(e:MapEntry):Prop:=∃(k:Value) (a:O),c=[.v k,a]/\e.key=k/\lit k=true/\wK w S a e.val
def Stamped(en:Array MapEntry)(a:Nat):Prop:=(∀x∈en.toList,x.born<a)/\(en.toList.map (·.born)).Nodup
structure zcE (w:World) (S:Nat->Prop) (gi:GI) (b:kn):Prop where
 row:∃(en:Array MapEntry) (clock:Nat),w.heap[gi.g]?=some (.map en clock)/\en.size=b.es.length/\∀(i:Nat) (c:List O) (e:MapEntry),b.es[i]?=some c->en[i]?=some e->YT w S c e
 Ro:∃(en:Array MapEntry) (clock:Nat),w.heap[gi.g]?=some (.map en clock)/\Stamped en clock
structure vQ (P:Program) (w:World) (S:Nat->Prop) (G:Nat->GI) (Z:Nat) (gi:GI) (b:kn):Prop where
 bs:b.s=gi.s
 cel:0<gi.s->DZ P w S G Z gi b
 UQ:gi.s=0->zcE w S gi b
theorem vQ.size{P:Program}{w:World}{S:Nat->Prop}{G:Nat->GI}{Z:Nat}{a:GI}{b:kn}(h:vQ P w S G Z a b)(c:0<a.s):(P.info? b.e).map (·.size)=some a.s:=(h.cel c).size
theorem vQ.len{P:Program}{w:World}{S:Nat->Prop}{G:Nat->GI}{Z:Nat}{a:GI}{b:kn}(h:vQ P w S G Z a b)(d:0<a.s):∀c∈b.es,c.length=a.s:=(h.cel d).len
theorem vQ.fit{P:Program}{w:World}{S:Nat->Prop}{G:Nat->GI}{Z:Nat}{a:GI}{b:kn}(h:vQ P w S G Z a b)(c:0<a.s):b.es.length*a.s<=a.z:=(h.cel c).fit
theorem vQ.row{P:Program}{w:World}{S:Nat->Prop}{G:Nat->GI}{Z:Nat}{d:GI}{b:kn}(h:vQ P w S G Z d b)(k:0<d.s):∃a:Array Value,w.heap[d.g]?=some (.cells a b.e (0,0))/\a.size=d.z /\
  ∀(i j:Nat) (c:List O) (f:O),b.es[i]?=some c->c[j]?=some f->∃u,a[i*d.s+j]?=some u/\ji w S G Z b.arr f u:=(h.cel k).row
theorem vQ.vD{P:Program}{w:World}{S:Nat->Prop}{G:Nat->GI}{Z:Nat}{a:GI}{b:kn}(d:0<a.s)(c:b.s=a.s)(h:DZ P w S G Z a b):vQ P w S G Z a b:=
 ⟨c,fun _=>h,fun e=>by omega⟩
def MO(P:Program)(g:Nat):Prop:=g<P.globals.size/\∃zero t,((begin P (fun _ _=>0) default).world.heap[g]?).bind Obj.row?=some (zero,t)/\zero.size=1/\P.buildable t=true/\P.cellTypes P.depth t=some [t]/\P.underlying t=some (.int .i64)
def JK:List (Nat×IntKind×List Int):=[]++[(5,.u64,Lib.pow10Tab)]
def AU(w:World)(S:Nat->Prop)(t:Nat×IntKind×List Int):Prop:=S t.1/\∃ty a,w.heap[t.1]?=some (.cells (t.2.2.map fun z=>Value.int t.2.1 z).toArray ty a)
def HS(P:Program)(w:World)(S:Nat->Prop):Prop:=(∀g,MO P g->S g/\∃m,w.cell? ⟨g,0,none⟩=some (.int .i64 m))/\∀t∈JK,AU w S t
theorem HS.mono{P:Program}{w w':World}{S e:Nat->Prop}(h:HS P w S)(c:∀b,S b->e b/\w'.heap[b]?=w.heap[b]?):HS P w' e:=by
 refine⟨fun g f=>?_,fun t i=>?_⟩
 ·obtain⟨a,m,d⟩:=h.1 g f;refine⟨(c g a).1,m,?_⟩;rw[<-d];exact Xx (c g a).2
 ·obtain⟨a,ty,j,d⟩:=h.2 t i;exact⟨(c _ a).1,ty,j,(c _ a).2.trans d⟩
theorem GG{w:World}{a:Addr}{v:Value}(h:w.cell? a=some v):a.block<w.heap.size:=by
 unfold World.cell? at h;split at h
 ·rename_i b;exact(zU.1 b).1
 ·cases h
theorem HS.Rp{P:Program}{w:World}(h:w.ShapedOpen P)(j:∀t∈JK,AU w (fun b=>b<w.heap.size) t):HS P w (fun b=>b<w.heap.size):=by
 refine⟨?_,j⟩;rintro g ⟨k,zero,t,l,s,m,n,o⟩;obtain⟨cs,p,hs,q⟩:=h.1 g zero t k l;obtain⟨ts,d,_,e⟩:=q m;rw[n]at d;cases d;have i:0<cs.size:=by omega
 obtain⟨u,f,c⟩:=e 0 cs[0] (by simp[i]);have:u=t:=by simpa using f.symm
 subst this;have a:w.cell? ⟨g,0,none⟩=some cs[0]:=by simp[World.cell?,p,i]
 refine⟨GG a,?_⟩;rw[a];unfold Cell.ok at c;rw[o]at c;cases r:cs[0]<;>rw[r]at c<;>simp_all
structure Inv (P:Program) (w:World) (S:Nat->Prop) (G:Nat->GI) (Y:Hp) (Z:Nat):Prop where
 st:∀b,S b->b<w.heap.size
 top:∀id b,Y id=some b->id<Z
 live:∀id b,Y id=some b->vQ P w S G Z (G id) b
 apart:∀id b,Y id=some b->¬S (G id).g
 inj:∀id id' b b',Y id=some b->Y id'=some b'->(G id).g=(G id').g->id=id'
 gD:HS P w S
theorem vQ.lt{P:Program}{w:World}{S:Nat->Prop}{G:Nat->GI}{Z:Nat}{a:GI}{b:kn}(h:vQ P w S G Z a b):a.g<w.heap.size:=by
 rcases Nat.eq_zero_or_pos a.s with c|c
 ·obtain⟨en,d,e,_⟩:=(h.UQ c).row;exact(zU.1 e).1
 ·obtain⟨f,e,_⟩:=h.row c;exact(zU.1 e).1
theorem ji.mono{w w':World}{S c:Nat->Prop}{G d:Nat->GI}{Z e:Nat}{a:Bool}{f:O}{u:Value}(h:ji w S G Z a f u)(g:∀b,S b->c b/\w'.heap[b]?=w.heap[b]?)
  (i:Z<=e) (j:∀id,id<Z->d id=G id):ji w' c d e a f u:=
 ⟨fun k=>(h.1 k).mono g,h.2.1.mono g i j,h.2.2⟩
theorem vQ.mono{P:Program}{w w':World}{S r:Nat->Prop}{G s:Nat->GI}{Z t:Nat}{m:GI}{b:kn}(h:vQ P w S G Z m b)(v:∀b,S b->r b/\w'.heap[b]?=w.heap[b]?)
  (x:Z<=t) (y:∀id,id<Z->s id=G id) (n:w'.heap[m.g]?=w.heap[m.g]?):vQ P w' r s t m b:=by
 refine⟨h.bs,fun d=>⟨h.size d,h.len d,h.fit d,?_⟩,fun d=>⟨?_,?_⟩⟩
 ·obtain⟨o,f,l,p⟩:=h.row d;refine⟨o,n.trans f,l,fun i j c q hi z=>?_⟩;obtain⟨u,A,B⟩:=p i j c q hi z;exact⟨u,A,B.mono v x y⟩
 ·obtain⟨en,a,f,l,p⟩:=(h.UQ d).row;refine⟨en,a,n.trans f,l,fun i c e hi C=>?_⟩;obtain⟨k,q,D,E,F,H⟩:=p i c e hi C;exact⟨k,q,D,E,F,H.mono v⟩
 ·obtain⟨en,a,f,l⟩:=(h.UQ d).Ro;exact⟨en,a,n.trans f,l⟩
structure Fr (dr:Prop) (w:World) (L:Nat->Prop) (w':World):Prop where
 os:w'.os=w.os
 tape:w'.tape=w.tape
 output:w'.output=w.output
 size:w.heap.size<=w'.heap.size
 drawn:dr->w.drawn<=w'.drawn
 block:∀k,k<w.heap.size->¬L k->w'.heap[k]?=w.heap[k]?
theorem Fr.refl(w:World)(L:Nat->Prop):Fr dr w L w:=⟨rfl,rfl,rfl,ze _,fun _=>ze _,fun _ _ _=>rfl⟩
theorem Fr.trans{w w' c:World}{L:Nat->Prop}(h:Fr dr w L w'){f:Nat->Prop}(a:Fr dr w' f c)(i:∀b,b<w.heap.size->f b->L b):Fr dr w L c:=
 ⟨a.os.trans h.os,a.tape.trans h.tape,a.output.trans h.output,zE h.size a.size,fun d=>zE (h.drawn d) (a.drawn d),fun k e g=>(a.block k (yb e h.size) (fun j=>g (i k e j))).trans (h.block k e g)⟩
theorem Fr.drew(w:World)(L:Nat->Prop):Fr dr w L w.drew:=⟨rfl,rfl,rfl,ze _,fun _=>Zr _,fun _ _ _=>rfl⟩
structure St where
 U:Nat->O
 Y:Hp
 Z:Nat
def gG(D:Nat):Deferred:={target:=.collected D,args:=#[]}
def Marks(c:Nat)(w:World)(S:Nat->Prop)(Y:Hp)(G:Nat->GI)(ds:List Deferred):Prop:=c<=w.heap.size/\∃a:List Nat,ds=a.map gG/\a.Nodup/\∀D∈a,c<=D/\w.heap[D]?=some (.deferred (some []))/\¬S D/\∀id b,Y id=some b->(G id).g≠D
theorem Marks.nil{a:Nat}{w:World}{S:Nat->Prop}{Y:Hp}{G:Nat->GI}(h:a<=w.heap.size):Marks a w S Y G []:=⟨h,[],rfl,by simp,by simp⟩
structure kX (dr:Prop) (P:Program) (w0:World) (S0 L:Nat->Prop) (N Z0:Nat) (G0:Nat->GI) (n0:Nat) (st:St) (S:Nat->Prop) (G:Nat->GI) (a:Act) (w:World):Prop where
 inv:Inv P w S G st.Y st.Z
 jx:∀t,qb w S G st.Z (st.U t) (a.tmps.getD t undef)
 size:a.tmps.size=N
 defers:Marks n0 w S st.Y G a.defers
 s0:∀b,S0 b->S b
 s1:∀b,S b->S0 b\/L b\/w0.heap.size<=b
 own:∀id b,st.Y id=some b->L (G id).g\/w0.heap.size<=(G id).g
 fr:Fr dr w0 L w
 up:Z0<=st.Z
 loc:∀id,id<Z0->G id=G0 id
def iu(dr:Prop)(P:Program)(b:World)(c L:Nat->Prop)(N Z0:Nat)(d:Nat->GI)(e:Nat)(st:St)(a:Act)(w:World):Prop:=∃S G,kX dr P b c L N Z0 d e st S G a w
theorem jj{α:Sort _}(a:α):∃x,a=x:=⟨_,rfl⟩
theorem ZX{a:Int}(h:¬a=0):(a != 0)=true:=by simpa using h
theorem yq{α:Type}[BEq α][LawfulBEq α]{a b:α}(h:¬a=b):(a==b)=false:=by simpa using h
abbrev zb:=List O
abbrev Spec:=zb->Hp->Nat->Option (O×Hp×Nat)
abbrev Qj:=zb->Hp->Option (zb×Hp)
structure Ctx where
 P:Program
 Γ:FuncId->Option Spec
 dyn:Nat->List (Tmp×Tmp):=fun _=>[]
 ML:Nat->List Tmp:=fun _=>[]
 bk:FuncId->Bool:=fun _=>false
 fz:Nat->List Tmp:=fun _=>[]
 it:FuncId->Option Qj:=fun _=>none
def sV(st:St)(a b:Tmp):Prop:=∀id i j,st.U a=.ref id i j->∃id' i' j' blk,st.U b=.ref id' i' j'/\id≠id'/\st.Y id'=some blk/\blk.arr=false
def WH(D:List (Tmp×Tmp))(st:St):Prop:=∀p∈D,sV st p.1 p.2
def O.W6:O->Bool
 | .v _|.nil|.em|.sl _ _|.ptr _=>true
 |_=>false
def O.shut:O->Bool
 | .agg cs=>cs.all O.W6
 |x=>x.W6
def O.YU:O->Bool
 | .wq _=>true
 |x=>x.shut
abbrev zB:Nat:=1000000
def zad(L:List Tmp)(st:St):Prop:=∀s∈L,(∀id o n,st.U s≠.own id o n)/\∀id i j,st.U s=.ref id i j->id<st.Z/\∃blk,st.Y id=some blk/\blk.arr=false
def xy(L:List Tmp)(st:St):Prop:=∀s∈L,((∀id o n,st.U s≠.own id o n)/\∀id i j,st.U s=.ref id i j->id<st.Z/\∃blk,st.Y id=some blk/\blk.arr=false)/\(zB<=s->(st.U (s-zB)).YU=true)
def dL:Value->Option O
 | .slice none 0 0=>some .nil
 | .bool b=>some (.v (.bool b))
 | .int k n=>some (.v (.int k n))
 | .string s=>some (.v (.string s))
 | .nilFunc=>some (.v .nilFunc)
 | .pointer none=>some (.v (.pointer none))
 | .nilIface=>some (.v .nilIface)
 | .map none=>some (.v (.map none))
 |_=>none
def vD:List Value->Option zb
 |[]=>some []
 |x::l=>match dL x,vD l with
  |some p,some r=>some (p::r)
  |_,_=>none
def iw:Value->Option O
 | .agg cs=>(vD cs.toList).map .agg
 |x=>dL x
def get(U:Nat->O):Operand->Option O
 | .tmp t=>some (U t)
 | .const x=>iw x
 | .func f=>some (.fn (.func f) [] [])
 | .global _=>none
def qC(P:Program)(t:TypeId):Option Nat:=(P.info? t).map (·.size)
def jB(P:Program)(t:TypeId):Option Nat:=(P.info? t).map (·.bytes)
def yT(P:Program)(t:TypeId):Option zb:=((P.info? t).bind (·.zero)).bind fun z=>vD z.cells.toList
def yr(P:Program)(t:TypeId):Option Bool:=(P.underlying t).map fun
 | .struct _|.array _ _=>true
 |_=>false
def ym(P:Program)(t:TypeId):Option TypeId:=match P.underlying t with
 |some (.slice e)=>some e
 |_=>none
def wG(P:Program)(t:TypeId)(f:Nat):Option (Nat×Nat×Bool):=match P.underlying t with
 |some (.struct b)=>match b[f]? with
  |some x=>match qC P x.type,yr P x.type with
   |some n,some a=>some (x.offset,n,a)
   |_,_=>none
  |none=>none
 |_=>none
def O.cells:O->zb
 | .agg cs=>cs
 |x=>[x]
def qO(P:Program)(t:TypeId)(cs:zb):Option O:=
 match yr P t,qC P t with
 |some true,some n=>if n<=cs.length then some (.agg (cs.take n))else none
 |some false,some _=>cs[0]?
 |_,_=>none
def O.kY:O->Bool
 | .own _ _ _=>true
 |_=>false
def O.noOwn:O->Bool
 | .agg cs=>!cs.any O.kY
 | .own _ _ _=>false
 |_=>true
def wu(Y:Hp):O->Option (O×Hp)
 | .own id off n=>match Y id with
  |some b=>if b.arr=true/\off+n<=b.es.length then some (.sl b.s ((b.es.drop off).take n),qt Y id none)else none
  |none=>none
 | .v x=>some (.v x,Y)
 | .nil=>some (.nil,Y)
 | .sl s es=>some (.sl s es,Y)
 | .em=>some (.em,Y)
 | .ptr cs=>some (.ptr cs,Y)
 | .fn f xs ys=>if xs.all O.shut=true/\ys.all O.shut=true then some (.fn f xs ys,Y)else none
 |_=>none
def qY(Y:Hp):zb->Option (zb×Hp)
 |[]=>some ([],Y)
 |x::l=>match wu Y x with
  |some (y,Y1)=>match qY Y1 l with
   |some (r,Y2)=>some (y::r,Y2)
   |none=>none
  |none=>none
def qa(Y:Hp):O->Option (O×Hp)
 | .agg cs=>match qY Y cs with
  |some (l,h)=>some (.agg l,h)
  |none=>none
 |x=>wu Y x
def zw(Y:Hp):zb->Option (zb×Hp)
 |[]=>some ([],Y)
 |x::l=>match qa Y x with
  |some (y,Y1)=>match zw Y1 l with
   |some (r,Y2)=>some (y::r,Y2)
   |none=>none
  |none=>none
def freeze(Y:Hp):O->Option (O×Hp)
 | .wq cs=>match zw Y cs with
  |some (l,h)=>some (.wq l,h)
  |none=>none
 |x=>qa Y x
def view(Y:Hp)(n:Nat):O->Option (List zb)
 | .nil=>some []
 | .em=>some []
 | .sl s es=>if s=n then some es else none
 | .own id off k=>match Y id with
  |some b=>if b.arr=true/\b.s=n/\off+k<=b.es.length then some ((b.es.drop off).take k)else none
  |none=>none
 |_=>none
def MP(op:BinOp)(k:IntKind)(a b:Int):Option O:=
 match op with
 | .add=>some (.v (.int k (k.wrap (a+b))))
 | .sub=>some (.v (.int k (k.wrap (a-b))))
 | .mul=>some (.v (.int k (k.wrap (a*b))))
 | .quo=>if b=0 then none else some (.v (.int k (k.wrap (a.tdiv b))))
 | .rem=>if b=0 then none else some (.v (.int k (a.tmod b)))
 | .eql=>some (.v (.bool (a==b)))
 | .neq=>some (.v (.bool (a != b)))
 | .lss=>some (.v (.bool (decide (a<b))))
 | .leq=>some (.v (.bool (decide (a<=b))))
 | .gtr=>some (.v (.bool (decide (a>b))))
 | .geq=>some (.v (.bool (decide (a>=b))))
 | .and=>some (.v (.int k (k.wrap (BitVec.ofInt k.bits a &&& BitVec.ofInt k.bits b).toNat)))
 | .or=>some (.v (.int k (k.wrap (BitVec.ofInt k.bits a||| BitVec.ofInt k.bits b).toNat)))
 | .xor=>some (.v (.int k (k.wrap (BitVec.ofInt k.bits a ^^^ BitVec.ofInt k.bits b).toNat)))
 | .andNot=>some (.v (.int k (k.wrap (BitVec.ofInt k.bits a &&& ~~~ BitVec.ofInt k.bits b).toNat)))
 | .shr=>if b<0 then none else some (.v (.int k (a.fdiv (2 ^ (min b.toNat k.bits)))))
 | .shl=>if b<0 then none else some (.v (.int k (k.wrap (a*2 ^ (min b.toNat k.bits)))))
def MQ(op:BinOp)(a b:ByteArray):Option O:=
 match op with
 | .add=>if a.size+b.size<=maxLen then some (.v (.string (a++b)))else none
 | .eql=>some (.v (.bool (a.toList==b.toList)))
 | .neq=>some (.v (.bool (!(a.toList==b.toList))))
 | .lss=>some (.v (.bool (Op.bytesLess a.toList b.toList)))
 | .leq=>some (.v (.bool (Op.bytesLess a.toList b.toList||a.toList==b.toList)))
 | .gtr=>some (.v (.bool (!(Op.bytesLess a.toList b.toList||a.toList==b.toList))))
 | .geq=>some (.v (.bool (!(Op.bytesLess a.toList b.toList))))
 |_=>none
def wZ:List Nat->zb->zb->Option Bool
 |[],_,_=>some true
 | 0::c,.v (.int k a)::xs,.v (.int d b)::ys=>if k=d then(wZ c xs ys).map ((a==b)&&·)else none
 | 1::c,.v (.bool a)::xs,.v (.bool b)::ys=>(wZ c xs ys).map ((a==b)&&·)
 | 2::c,.v (.string a)::xs,.v (.string b)::ys=>(wZ c xs ys).map ((a==b)&&·)
 |_,_,_=>none
def H3(P:Program)(t:TypeId):Option Nat:=match P.underlying t with
 |some (.int _)=>some 0
 |some .bool=>some 1
 |some .string=>some 2
 |_=>none
def pV(P:Program):Nat->List Field->Option (List Nat)
 |_,[]=>some []
 |i,f::a=>if f.offset=i/\f.name≠ "_" then match H3 P f.type,pV P (i+1) a with
   |some k,some b=>some (k::b)
   |_,_=>none
  else none
def subA(P:Program)(t:TypeId):Option (List Nat):=if P.stoodInHeld t=true then none else match P.underlying t with
 |some (.struct b)=>match pV P 0 b.toList with
  |some a=>if qC P t=some a.length then some a else none
  |none=>none
 |_=>none
def pW(P:Program):Nat->List Field->Option (List Nat)
 |_,[]=>some []
 |i,f::b=>if f.offset=i/\f.name≠ "_" then match H3 P f.type with
   |some k=>match pW P (i+1) b with
    |some a=>some (k::a)
    |none=>none
   |none=>match subA P f.type with
    |some c=>match pW P (i+c.length) b with
     |some a=>some (c++a)
     |none=>none
    |none=>none
  else none
def GH(P:Program)(t:TypeId):Option (List Nat):=
 if P.stoodInHeld t=true\/P.eqGuardType P.depth t=true then none else
 match P.underlying t with
 |some (.struct a)=>pW P 0 a.toList
 |_=>none
def ZL:O->Option Bool
 | .nil=>some true
 | .em=>some false
 | .own _ _ _=>some false
 | .sl _ (_::_)=>some false
 |_=>none
def xV(P:Program)(op:BinOp)(t:TypeId):O->O->Option O
 | .v (.int k a),.v (.int d b)=>if k=d then MP op k a b else none
 | .v (.string a),.v (.string b)=>MQ op a b
 | .v (.bool a),.v (.bool b)=>match op,P.underlying t with
  | .eql,some .bool=>some (.v (.bool (a==b)))
  | .neq,some .bool=>some (.v (.bool (!(a==b))))
  |_,_=>none
 | .agg xs,.agg ys=>match GH P t with
  |some c=>match op with
   | .eql=>(wZ c xs ys).map fun r=>.v (.bool r)
   | .neq=>(wZ c xs ys).map fun r=>.v (.bool !r)
   |_=>none
  |none=>none
 |p,.nil=>match ym P t,ZL p,op with
  |some _,some r,.eql=>some (.v (.bool r))
  |some _,some r,.neq=>some (.v (.bool !r))
  |_,_,_=>none
 |_,_=>none
def Ei(P:Program)(t:TypeId):Bool:=match P.underlying t with
 |some (.interface _)=>true
 |_=>false
def isK:Operand->Bool
 | .const _=>true
 |_=>false
def GJ(P:Program)(op:BinOp)(t:TypeId):Option O:=if Ei P t=true then match op with
 | .eql=>some (.v (.bool true))
 | .neq=>some (.v (.bool false))
 |_=>none
 else none
def Vw(c:Bool)(P:Program)(op:BinOp)(t:TypeId)(p q:O):Option O:=match c,q,p with
 |true,.v .nilIface,.v .nilIface=>GJ P op t
 |_,q,p=>xV P op t p q
@[simp]theorem zdE(P:Program)(op:BinOp)(t:TypeId)(p q:O):Vw false P op t p q=xV P op t p q:=rfl
@[simp]theorem zfU(t:Tmp):isK (.tmp t)=false:=rfl
@[simp]theorem zcI(v:Value):isK (.const v)=true:=rfl
@[simp]theorem zdF(f:FuncId):isK (.func f)=false:=rfl
@[simp]theorem zdG(c:Bool)(P:Program)(op:BinOp)(t:TypeId)(p:O)(k:IntKind)(n:Int):Vw c P op t p (.v (.int k n))=xV P op t p (.v (.int k n)):=by cases c<;>rfl
@[simp]theorem zdH(c:Bool)(P:Program)(op:BinOp)(t:TypeId)(p:O)(s:ByteArray):Vw c P op t p (.v (.string s))=xV P op t p (.v (.string s)):=by cases c<;>rfl
@[simp]theorem zcJ(c:Bool)(P:Program)(op:BinOp)(t:TypeId)(p:O)(b:Bool):Vw c P op t p (.v (.bool b))=xV P op t p (.v (.bool b)):=by cases c<;>rfl
@[simp]theorem zdI(c:Bool)(P:Program)(op:BinOp)(t:TypeId)(p:O):Vw c P op t p .nil=xV P op t p .nil:=by cases c<;>rfl
@[simp]theorem zcK(P:Program)(op:BinOp)(t:TypeId):Vw true P op t (.v .nilIface) (.v .nilIface)=GJ P op t:=rfl
def RM(op:UnOp):O->Option O
 | .v (.bool b)=>match op with
  | .not=>some (.v (.bool !b))
  |_=>none
 | .v (.int k n)=>match op with
  | .neg=>some (.v (.int k (k.wrap (0-n))))
  |_=>none
 |_=>none
def az(P:Program)(a dst:TypeId):O->Option O
 | .v (.int _ n)=>match P.underlying a,P.underlying dst with
  |some _,some (.int k)=>some (.v (.int k (k.wrap n)))
  |_,_=>none
 | .v (.string s)=>match P.underlying a,P.underlying dst with
  |some _,some .string=>some (.v (.string s))
  |_,_=>none
 |_=>none
def kD(a:Nat):Option (Option O)->Option Nat
 |none=>some a
 |some (some (.v (.int _ i)))=>if 0<=i then some i.toNat else none
 |_=>none
def jC(P:Program)(Y:Hp)(t:TypeId)(x:O)(lo hi:Option (Option O)):Option O:=
 match P.underlying t,x with
 |some .string,.v (.string s)=>match kD 0 lo,kD s.size hi with
  |some l,some h=>if l<=h/\h<=s.size then some (.v (.string (s.extract l h)))else none
  |_,_=>none
 |some (.slice e),.sl s es=>match qC P e,kD 0 lo,kD es.length hi with
  |some n,some l,some h=>if s=n/\l<=h/\h<=es.length then some (.sl s ((es.drop l).take (h-l)))else none
  |_,_,_=>none
 |some (.slice e),.nil=>match qC P e,kD 0 lo,kD 0 hi with
  |some _,some l,some h=>if l=0/\h=0 then some .nil else none
  |_,_,_=>none
 |some (.slice e),.own id off n=>match qC P e,kD 0 lo,kD n hi with
  |some m,some l,some h=>match Y id with
   |some b=>if b.s=m/\l<=h/\h<=n then some (if l=0 then .own id off h else if h=l then .sl m []else .own id (off+l) (h-l))else none
   |none=>none
  |_,_,_=>none
 |_,_=>none
def XD(k:IntKind)(x:Int):zb->Option O
 |[]=>some (.v (.int k x))
 | .v (.int a y)::l=>if k=a then XD k (if y<x then y else x) l else none
 |_=>none
def MR:zb->Option O
 | .v (.int k x)::l=>XD k x l
 |_=>none
def XE(k:IntKind)(x:Int):zb->Option O
 |[]=>some (.v (.int k x))
 | .v (.int a y)::l=>if k=a then XE k (if y>x then y else x) l else none
 |_=>none
def MS:zb->Option O
 | .v (.int k x)::l=>XE k x l
 |_=>none
def Yt(P:Program)(t:TypeId):O->Option O
 | .v (.string s)=>match P.underlying t with
  |some .string=>some (.v (.int .i64 s.size))
  |_=>none
 | .v (.slice (some _) 0 0)=>(ym P t).map fun _=>.v (.int .i64 0)
 | .sl _ es=>(ym P t).map fun _=>.v (.int .i64 es.length)
 | .nil=>(ym P t).map fun _=>.v (.int .i64 0)
 | .em=>(ym P t).map fun _=>.v (.int .i64 0)
 | .own _ _ n=>(ym P t).map fun _=>.v (.int .i64 n)
 |_=>none
def y9(cs:zb)(off:Nat):zb->zb
 |[]=>cs
 |x::l=>y9 (cs.set off x) (off+1) l
def qn(a:Nat->Option (Nat×Nat))(cs:zb):List (Nat×O)->Option zb
 |[]=>some cs
 |(i,x)::b=>match a i with
  |some (off,n)=>if x.cells.length=n/\off+n<=cs.length/\x.cells.all O.wH=true then qn a (y9 cs off x.cells) b else none
  |none=>none
def wU{α:Type}:List (Option α)->Option (List α)
 |[]=>some []
 |some x::l=>(wU l).map (x::·)
 |none::_=>none
def va(a:Operand->Option O):List (Nat×Operand)->Option (List (Nat×O))
 |[]=>some []
 |(i,x)::l=>match a x,va a l with
  |some p,some r=>some ((i,p)::r)
  |_,_=>none
def xz(P:Program)(t:TypeId):Option (List (Nat×Nat)):=match P.underlying t with
 |some (.struct a)=>a.toList.mapM (fun f=>(P.info? f.type).map fun i=>(f.offset,i.size))
 |_=>none
def zS(P:Program)(t:TypeId)(a:List (Nat×O)):Option O:=
 match xz P t,yT P t with
 |some b,some z=>(qn (fun i=>b[i]?) z a).map .agg
 |none,some z=>match P.underlying t with
  |some (.array _ e)=>match qC P e with
   |some n=>(qn (fun i=>some (i*n,n)) z a).map .agg
   |none=>none
  |_=>none
 |_,_=>none
def zo(Y:Hp):List (Nat×O)->Option (List (Nat×O)×Hp)
 |[]=>some ([],Y)
 |(i,x)::l=>match qa Y x with
  |some (y,Y1)=>match zo Y1 l with
   |some (r,Y2)=>some ((i,y)::r,Y2)
   |none=>none
  |none=>none
def zy(n:Nat)(es:List zb):List (Nat×O)->Option (List zb)
 |[]=>some es
 |(i,x)::l=>if x.cells.length=n/\i<es.length/\x.cells.all O.wH=true then zy n (es.set i x.cells) l else none
def zp(P:Program)(Y:Hp)(Z:Nat)(t:TypeId)(len:Nat)(a:List (Nat×O)):Option (O×Hp×Nat):=
 match ym P t with
 |some e=>match qC P e,yT P e,zo Y a with
  |some n,some z,some (b,Y1)=>if 0<n/\z.length=n/\len*n<=16777216 then
    match zy n (List.replicate len z) b with
    |some es=>some (.own Z 0 len,qt Y1 Z (some ⟨e,n,true,es⟩),Z+1)
    |none=>none
   else none
  |_,_,_=>none
 |none=>none
def ZM(P:Program)(Y:Hp)(Z:Nat)(t:TypeId):O->O->Option (O×Hp×Nat)
 | .v (.int _ l),.v (.int _ c)=>match ym P t with
  |some e=>match qC P e,jB P e,yT P e with
   |some n,some by_,some z=>if 0<n/\z.length=n/\0<=l/\l<=c/\c.toNat<=maxLen/\c.toNat*by_<=140737488355328 then
     some (.own Z 0 l.toNat,qt Y Z (some ⟨e,n,true,List.replicate l.toNat z⟩),Z+1)
    else none
   |_,_,_=>none
  |none=>none
 |_,_=>none
def R8(P:Program)(u:TypeId):Bool:=match P.underlying u with
 |some .string=>true
 |_=>false
def GK(P:Program)(e:TypeId):Bool:=match P.info? e with
 |some i=>match i.zero with
  |some (.int .u8 z)=>z==0&&i.size==1&&i.bytes==1
  |_=>false
 |none=>false
def iV(P:Program)(Y:Hp)(n:Nat)(e t u:TypeId):O->Option (List zb)
 | .v (.string b)=>if R8 P u=true/\GK P e=true then some (b.data.toList.map fun c=>[.v (.int .u8 c.toNat)])else none
 |x=>if u=t then view Y n x else none
def yI(P:Program)(Y:Hp)(Z:Nat)(t u:TypeId)(s x:O):Option (O×Hp×Nat):=
 match ym P t with
 |some e=>match qC P e,jB P e,yT P e with
  |some n,some by_,some z=>match iV P Y n e t u x with
   |some xs=>match s with
    | .nil=>
     if 0<n/\z.length=n/\xs.length<=maxLen/\xs.length*by_<=140737488355328 then
      if xs.length=0 then some (.nil,Y,Z)
      else some (.own Z 0 xs.length,qt Y Z (some ⟨e,n,true,xs⟩),Z+1)
     else none
    | .own id 0 k=>match Y id with
     |some b=>if b.arr=true/\b.e=e/\k=b.es.length/\0<n/\z.length=n/\k+xs.length<=maxLen/\(k+xs.length)*by_<=140737488355328 then
       some (.own Z 0 (k+xs.length),qt (qt Y id none) Z (some ⟨e,n,true,b.es++xs⟩),Z+1)
      else none
     |none=>none
    |_=>none
   |none=>none
  |_,_,_=>none
 |none=>none
def GL(P:Program)(Y:Hp)(Z:Nat)(t:TypeId)(d x:O):Option (O×Hp×Nat):=
 match ym P t,d with
 |some e,.own id off k=>match Y id,qC P e with
  |some b,some n=>match view Y n x with
   |some xs=>if b.arr=true/\b.e=e/\off+k<=b.es.length/\0<n then
     some (.v (.int .i64 (min xs.length k:Nat)),qt Y id (some ⟨b.e,b.s,true,b.es.take off++xs.take (min xs.length k)++b.es.drop (off+min xs.length k)⟩),Z)
    else none
   |none=>none
  |_,_=>none
 |_,_=>none
def dM(P:Program)(Y:Hp)(Z:Nat)(t:TypeId)(x:O):Option (O×Hp×Nat):=
 match ym P t,x with
 |some e,.own id off k=>match Y id,qC P e,yT P e with
  |some b,some n,some [z]=>if n=1/\b.arr=true/\b.e=e/\off+k<=b.es.length/\0<k then
    some (.wq [],qt Y id (some ⟨b.e,b.s,true,b.es.take off++List.replicate k [z]++b.es.drop (off+k)⟩),Z)
   else none
  |_,_,_=>none
 |_,_=>none
def xA(P:Program)(Y:Hp)(t:TypeId):O->Option O
 | .ptr cs=>qO P t cs
 | .ref id i j=>match Y id with
  |some b=>match b.es[i]? with
   |some c=>qO P t (c.drop j)
   |none=>none
  |none=>none
 |_=>none
def QQ(P:Program)(Y:Hp)(t:TypeId)(a x:O):Option Hp:=
 match a with
 | .ref id i j=>match Y id with
  |some d=>match(if d.arr=true then qa Y x else some (x,Y))with
   |some (y,Y1)=>match Y1 id,qC P t with
    |some b,some n=>match b.es[i]? with
     |some c=>if y.cells.length=n/\j+n<=c.length/\y.cells.all O.wH=true then
       some (qt Y1 id (some ⟨b.e,b.s,b.arr,b.es.set i (y9 c j y.cells)⟩))else none
     |none=>none
    |_,_=>none
   |none=>none
  |none=>none
 |_=>none
def yY(P:Program)(t:TypeId)(f:Nat):O->Option O
 | .ptr cs=>match wG P t f with
  |some (o,n,_)=>if n=0 then none else some (.ptr (cs.drop o))
  |none=>none
 | .ref id i j=>match wG P t f with
  |some (o,n,_)=>if n=0 then none else some (.ref id i (j+o))
  |none=>none
 |_=>none
def ZY(P:Program)(t:TypeId)(f:Nat):O->Option O
 | .agg cs=>match wG P t f with
  |some (o,n,true)=>if o+n<=cs.length then some (.agg ((cs.drop o).take n))else none
  |some (o,_,false)=>cs[o]?
  |none=>none
 |_=>none
def AV(P:Program)(t:TypeId):Option (Nat×TypeId):=match P.underlying t with
 |some (.array n e)=>some (n,e)
 |_=>none
def Zh(P:Program)(t:TypeId)(i:Int)(x:O):Option O:=
 match AV P t with
 |some (m,e)=>match qC P e with
  |some n=>if 0<=i/\i<m then match x with
    | .ptr cs=>some (.ptr (cs.drop (i.toNat*n)))
    | .ref id a b=>some (.ref id a (b+i.toNat*n))
    |_=>none
   else none
  |none=>none
 |none=>none
def qJ(P:Program)(Y:Hp)(t:TypeId):O->O->Option O
 |x,.v (.int _ i)=>match ym P t with
  |some e=>match qC P e,x with
   |some n,.sl s es=>if s=n/\0<n/\0<=i then(es[i.toNat]?).map .ptr else none
   |some n,.own id off k=>match Y id with
    |some b=>if b.e=e/\0<n/\0<=i/\i.toNat<k then some (.ref id (off+i.toNat) 0)else none
    |none=>none
   |_,_=>none
  |none=>Zh P t i x
 |_,_=>none
def QR(P:Program)(t:TypeId):O->O->Option O
 | .v (.string s),.v (.int _ i)=>match P.underlying t with
  |some .string=>if 0<=i then match s[i.toNat]? with
    |some b=>some (.v (.int .u8 b.toNat))
    |none=>none
   else none
  |_=>none
 |_,_=>none
def Vx(P:Program)(t:TypeId):Option (Option IntKind×TypeId):=match P.underlying t with
 |some (.map b a)=>match P.underlying b with
  |some (.int k)=>some (some k,a)
  |some .string=>some (none,a)
  |_=>none
 |_=>none
def WU:Option IntKind->Value->Bool
 |some k,.int a _=>a==k
 |none,.string _=>true
 |_,_=>false
def vY:Value->Value->Option Bool
 | .int k a,.int c b=>if k=c then some (a==b)else none
 | .string a,.string b=>some (a.toList==b.toList)
 |_,_=>none
def xi(k:Value):List zb->Nat->Option (Option (Nat×O))
 |[],_=>some none
 |[.v a,v]::l,i=>match vY k a with
  |some true=>some (some (i,v))
  |some false=>xi k l (i+1)
  |none=>none
 |_::_,_=>none
def Vy(P:Program)(t:TypeId):Option O:=((P.info? t).bind (·.zero)).bind iw
def cg(Y:Hp):O->Option (List zb)
 | .mp id=>match Y id with
  |some b=>if b.s=0 then some b.es else none
  |none=>none
 | .v (.map none)=>some []
 |_=>none
def vu(P:Program)(Y:Hp)(t:TypeId)(x a:O)(b:Bool):Option O:=
 match Vx P t,cg Y x,a with
 |some (c,d),some es,.v k=>if WU c k=true then match xi k es 0 with
   |some (some (_,v))=>some (if b=true then .wq [v,.v (.bool true)]else v)
   |some none=>(Vy P d).map fun z=>if b=true then .wq [z,.v (.bool false)]else z
   |none=>none
  else none
 |_,_,_=>none
def xB(P:Program)(Y:Hp)(t:TypeId)(x a y:O):Option Hp:=
 match Vx P t,x,a with
 |some (c,_),.mp id,.v k=>if WU c k=true then match qa Y y with
   |some (z,Y1)=>match Y1 id with
    |some b=>if b.s=0 then match xi k b.es 0 with
      |some (some (i,_))=>some (qt Y1 id (some ⟨b.e,b.s,b.arr,b.es.set i [.v k,z]⟩))
      |some none=>some (qt Y1 id (some ⟨b.e,b.s,b.arr,b.es++[[.v k,z]]⟩))
      |none=>none
     else none
    |none=>none
   |none=>none
  else none
 |_,_,_=>none
def yv(P:Program)(Y:Hp)(Z:Nat)(ts:Array TypeId)(b:Builtin)(xs:zb):Option (O×Hp×Nat):=
 match b with
 | .len=>match xs,ts[0]? with
  |[x],some t=>(Yt P t x).map fun y=>(y,Y,Z)
  |_,_=>none
 | .min=>(MR xs).map fun y=>(y,Y,Z)
 | .max=>(MS xs).map fun y=>(y,Y,Z)
 | .append=>match xs,ts[0]?,ts[1]? with
  |[s,x],some t,some u=>yI P Y Z t u s x
  |_,_,_=>none
 | .copy=>match xs,ts[0]? with
  |[d,x],some t=>GL P Y Z t d x
  |_,_=>none
 | .clear=>match xs,ts[0]? with
  |[x],some t=>dM P Y Z t x
  |_,_=>none
 |_=>none
def jG(C:Ctx)(Y:Hp)(Z:Nat)(f:Option O)(xs:zb):Option (O×Hp×Nat):=
 match f with
 |some (.fn (.func g) first a)=>match C.Γ g with
  |some b=>b (first++xs++a) Y Z
  |none=>none
 |_=>none
def xW(C:Ctx)(a:Operand->Option O)(Y:Hp)(Z:Nat)(c:Call):Option (O×Hp×Nat):=
 match wU (c.args.toList.map a)with
 |some xs=>match c.callee with
  | .builtin b=>yv C.P Y Z c.argTypes b xs
  | .value f=>jG C Y Z (a f) xs
  | .invoke _ _=>none
 |none=>none
def zX(C:Ctx)(d:Operand->Option O)(Y:Hp)(Z:Nat)(o:Op):Option (O×Hp×Nat):=
 match o with
 | .move x=>(d x).map fun y=>(y,Y,Z)
 | .assign x=>(d x).map fun y=>(y,Y,Z)
 | .pick c a b=>match d c with
  |some (.v (.bool true))=>(d a).map fun y=>(y,Y,Z)
  |some (.v (.bool false))=>(d b).map fun y=>(y,Y,Z)
  |_=>none
 | .alloc t=>match qC C.P t,yT C.P t with
  |some n,some z=>if 0<n/\z.length=n then some (.ref Z 0 0,qt Y Z (some ⟨t,n,false,[z]⟩),Z+1)else none
  |_,_=>none
 | .box t x=>match qC C.P t,d x with
  |some n,some y=>if 0<n/\y.cells.length=n/\y.cells.all O.wH=true then some (.ref Z 0 0,qt Y Z (some ⟨t,n,false,[y.cells]⟩),Z+1)else none
  |_,_=>none
 | .build t e=>match va d e.toList with
  |some s=>(zS C.P t s).map fun y=>(y,Y,Z)
  |none=>none
 | .buildSlice t len e=>match va d e.toList with
  |some s=>zp C.P Y Z t len s
  |none=>none
 | .load t a=>match d a with
  |some p=>(xA C.P Y t p).map fun y=>(y,Y,Z)
  |none=>none
 | .store t a x=>match d a,d x with
  |some p,some y=>(QQ C.P Y t p y).map fun h=>(.wq [],h,Z)
  |_,_=>none
 | .nilCheck x=>match d x with
  |some (.ref id i j)=>some (.ref id i j,Y,Z)
  |some (.ptr cs)=>some (.ptr cs,Y,Z)
  |_=>none
 | .binOp op t x y _=>match d x,d y with
  |some p,some q=>(Vw (isK y) C.P op t p q).map fun r=>(r,Y,Z)
  |_,_=>none
 | .unOp op _ x=>match d x with
  |some p=>(RM op p).map fun r=>(r,Y,Z)
  |none=>none
 | .convert u dst x=>match d x with
  |some p=>(az C.P u dst p).map fun r=>(r,Y,Z)
  |none=>none
 | .makeFunc f first g=>match wU (first.toList.map d),wU (g.toList.map d)with
  |some xs,some ys=>some (.fn f xs ys,Y,Z)
  |_,_=>none
 | .makeSlice t l c=>match d l,d c with
  |some p,some q=>ZM C.P Y Z t p q
  |_,_=>none
 | .slice t x lo hi none=>match d x with
  |some p=>(jC C.P Y t p (lo.map d) (hi.map d)).map fun r=>(r,Y,Z)
  |none=>none
 | .fieldAddr t x f=>match d x with
  |some p=>(yY C.P t f p).map fun r=>(r,Y,Z)
  |none=>none
 | .field t x f=>match d x with
  |some p=>(ZY C.P t f p).map fun r=>(r,Y,Z)
  |none=>none
 | .indexAddr t x i=>match d x,d i with
  |some p,some q=>(qJ C.P Y t p q).map fun r=>(r,Y,Z)
  |_,_=>none
 | .index t x i=>match d x,d i with
  |some p,some q=>(QR C.P t p q).map fun r=>(r,Y,Z)
  |_,_=>none
 | .extract x i=>match d x with
  |some (.wq vs)=>(vs[i]?).map fun r=>(r,Y,Z)
  |_=>none
 | .call c=>xW C d Y Z c
 | .makeMap t none=>match Vx C.P t with
  |some _=>some (.mp Z,qt Y Z (some ⟨t,0,false,[]⟩),Z+1)
  |none=>none
 | .lookup t x i w=>match d x,d i with
  |some p,some q=>(vu C.P Y t p q w).map fun r=>(r,Y,Z)
  |_,_=>none
 | .mapUpdate t m k x=>match d m,d k,d x with
  |some p,some q,some y=>(xB C.P Y t p q y).map fun h=>(.wq [],h,Z)
  |_,_,_=>none
 | .insert t m k x=>match d m,d k,d x with
  |some p,some q,some y=>(xB C.P Y t p q y).map fun h=>(.wq [],h,Z)
  |_,_,_=>none
 |_=>none
def put(U:Nat->O)(dst:Option Tmp)(x:O):Nat->O:=
 match dst with
 |some d=>qt U d x
 |none=>U
def QS(a:Array Oper)(U:Nat->O)(j:Nat):Option Bool:=
 match(a[j]?).bind (·.dst)with
 |some d=>match U d with
  | .v (.bool b)=>some b
  |_=>none
 |none=>none
def yJ(C:Ctx)(a:Array Oper)(o:Oper)(st:St):Option St:=
 if Region.wanted o (QS a st.U)=true then
  match zX C (get st.U) st.Y st.Z o.op with
  |some (x,Y,Z)=>some ⟨put st.U o.dst x,Y,Z⟩
  |none=>none
 else some ⟨put st.U o.dst (.wq []),st.Y,st.Z⟩
def xj(C:Ctx)(a:Array Oper):List Oper->St->Option St
 |[],st=>some st
 |o::l,st=>match yJ C a o st with
  |some b=>xj C a l b
  |none=>none
def iter(f:St->Option (Exit×St)):Nat->St->Option (Exit×St)
 | 0,_=>none
 |n+1,st=>match f st with
  |some (.normal,a)=>iter f n a
  |r=>r
open Classical in
noncomputable def aA (f:St->Option (Exit×St)) (st:St):Option (Exit×St):=
 if h:∃n,(iter f n st).isSome=true then iter f (Classical.choose h) st else none
def AF:List Tmp->St->Option St
 |[],st=>some st
 |t::l,st=>match qa st.Y (st.U t)with
  |some (y,Y1)=>AF l ⟨qt st.U t y,Y1,st.Z⟩
  |none=>none
def Kh(b c:St->Option (Exit×St))(U:Nat->O)(p:Tmp):zb->Hp->Nat->Option (Exit×Hp×Nat)
 |[],Y,Z=>some (.normal,Y,Z)
 |x::xs,Y,Z=>match b ⟨qt U p x,Y,Z⟩with
  |some (.normal,d)=>match c d with
   |some (.normal,a)=>Kh b c U p xs a.Y a.Z
   |some (.ret,a)=>some (.ret,a.Y,a.Z)
   |some (.exit i,a)=>some (.exit i,a.Y,a.Z)
   |_=>none
  |_=>none
open Classical in
noncomputable def qW (C:Ctx):Code->St->Option (Exit×St)
 | .skip,st=>some (.normal,st)
 | .region id j _,k=>match AF (C.fz id) k with
  |some st=>if WH (C.dyn id) st/\xy (C.ML id) st then match xj C j j.toList st with
   |some d=>some (.normal,d)
   |none=>none
   else none
  |none=>none
 | .seq a b,st=>match qW C a st with
  |some (.normal,d)=>qW C b d
  |r=>r
 | .cond c x y,st=>match get st.U c with
  |some (.v (.bool true))=>qW C x st
  |some (.v (.bool false))=>qW C y st
  |_=>none
 | .block id h,st=>match qW C h st with
  |some (.exit i,d)=>if i=id then some (.normal,d)else some (.exit i,d)
  |r=>r
 | .loop h,st=>aA (qW C h) st
 | .exit id,st=>some (.exit id,st)
 | .ret,st=>some (.ret,st)
 | .label _,st=>some (.normal,st)
 | .rangeFunc f m a b,st=>match m.toList,get st.U f with
  |[p],some (.fn (.func g) [] cap)=>match C.it g with
   |some it=>match it cap st.Y with
    |some (xs,Y1)=>match Kh (qW C a) (qW C b) st.U p xs Y1 st.Z with
     |some (e,Y2,l)=>some (e,⟨st.U,Y2,l⟩)
     |none=>none
    |none=>none
   |none=>none
  |_,_=>none
 |_,_=>none
def W7(P:Program)(st:St):ResultVar->Option O
 | .tmp t=>some (st.U t)
 | .cell a t=>xA P st.Y t (st.U a)
def xX(P:Program)(fn:Func)(st:St):Option O:=
 match wU (fn.results.toList.map (W7 P st))with
 |some [x]=>some x
 |some xs=>some (.wq xs)
 |none=>none
def jL(args:zb):Nat->O:=fun t=>(args[t]?).getD (.wq [])
noncomputable def je (C:Ctx) (fn:Func) (args:zb) (Y:Hp) (Z:Nat):Option (O×Hp×Nat):=
 match fn.body with
 |some code=>match qW C code ⟨jL args,Y,Z⟩with
  |some (.normal,st)=>(xX C.P fn st).map fun x=>(x,st.Y,st.Z)
  |some (.ret,st)=>(xX C.P fn st).map fun x=>(x,st.Y,st.Z)
  |_=>none
 |none=>none
noncomputable def zt (C:Ctx) (fn:Func) (args:zb):Option O:=
 match je C fn args (fun _=>none) 0 with
 |some (x,Y,_)=>(freeze Y x).map (·.1)
 |none=>none
theorem pX(f:St->Option (Exit×St)):∀(n k:Nat) (st:St) (r:Exit×St),iter f n st=some r->iter f (n+k) st=some r:=by
 intro n
 induction n with
 |zero=>intro k st r h;simp[iter]at h
 |succ n b=>
  intro k st r h;rw[show n+1+k=(n+k)+1 from by omega];simp only[iter]at h⊢;split at h
  ·rename_i a c;simp only[b k a r h]
  ·simpa using h
theorem Jn{f:St->Option (Exit×St)}{n:Nat}{st:St}{r:Exit×St}(h:iter f n st=some r):aA f st=some r:=by have c:∃n,(iter f n st).isSome=true:=⟨n,by simp[h]⟩;unfold aA;rw[zgA c];have e:=jq c;obtain⟨g,d⟩:=Option.isSome_iff_exists.1 e;rw[d];have a:=pX f _ (Classical.choose c) st r h;have b:=pX f _ n st g d;rw[AB]at b;rw[a]at b;exact b.symm
theorem Q6{f:St->Option (Exit×St)}{st:St}{r:Exit×St}(h:aA f st=some r):∃n,iter f n st=some r:=by
 unfold aA at h;split at h
 ·exact⟨_,h⟩
 ·cases h
theorem sW(f:St->Option (Exit×St))(st:St):aA f st=match f st with
  |some (.normal,a)=>aA f a
  |r=>r:=by
 cases d:f st with
 |none=>
  simp only[];cases c:aA f st with
  |none=>rfl
  |some r=>
   obtain⟨n,b⟩:=Q6 c;cases n with
   |zero=>simp[iter]at b
   |succ n=>simp[iter,d]at b
 |some p=>
  obtain⟨e,a⟩:=p;by_cases h:e=.normal
  ·subst h;simp only[];cases c:aA f a with
   |some r=>obtain⟨n,b⟩:=Q6 c;exact Jn (n:=n+1) (by simp[iter,d,b])
   |none=>
    cases g:aA f st with
    |none=>rfl
    |some r=>
     obtain⟨n,b⟩:=Q6 g;cases n with
     |zero=>simp[iter]at b
     |succ n=>simp only[iter,d]at b;rw[Jn b]at c;cases c
  ·have i:iter f 1 st=some (e,a):=by simp only[iter,d];cases e<;>simp_all
   rw[Jn i];cases e<;>simp_all
variable{dr:Prop}
def jD(Y:Hp)(G:Nat->GI)(b:Nat):Prop:=∃id blk,Y id=some blk/\(G id).g=b
structure kd (dr:Prop) (P:Program) (Y:Hp) (Z:Nat) (S:Nat->Prop) (G:Nat->GI) (w:World) (Y':Hp) (Z':Nat) (S':Nat->Prop) (G':Nat->GI) (w':World):Prop where
 inv:Inv P w' S' G' Y' Z'
 up:Z<=Z'
 loc:∀id,id<Z->G' id=G id
 keep:∀b,S b->S' b
 from_:∀b,S' b->S b\/jD Y G b\/w.heap.size<=b
 own:∀id blk,Y' id=some blk->jD Y G (G' id).g\/w.heap.size<=(G' id).g
 fr:Fr dr w (jD Y G) w'
theorem kd.same{P:Program}{Y Y':Hp}{Z d:Nat}{S c:Nat->Prop}{G f:Nat->GI}{w w':World}(h:kd dr P Y Z S G w Y' d c f w')(hi:Inv P w S G Y Z) :
  ∀b,S b->c b/\w'.heap[b]?=w.heap[b]?:=fun b a=>
 ⟨h.keep b a,h.fr.block b (hi.st b a) fun⟨id,blk,hid,e⟩=>hi.apart id blk hid (e ▸ a)⟩
theorem kd.refl{P:Program}{Y:Hp}{Z:Nat}{S:Nat->Prop}{G:Nat->GI}{w:World}(h:Inv P w S G Y Z):kd dr P Y Z S G w Y Z S G w:=
 ⟨h,ze _,fun _ _=>rfl,fun _ h=>h,fun _ h=>.inl h,fun id blk a=>.inl ⟨id,blk,a,rfl⟩,Fr.refl _ _⟩
theorem kd.trans{P:Program}{Y Y' a:Hp}{Z m c:Nat}{S n f:Nat->Prop}{G j g:Nat->GI}{w w' i:World}
  (h:kd dr P Y Z S G w Y' m n j w') (k:kd dr P Y' m n j w' a c f g i):kd dr P Y Z S G w a c f g i:=by
 have l:∀b,jD Y' j b->jD Y G b\/w.heap.size<=b:=by rintro b ⟨id,blk,h1,rfl⟩;exact h.own id blk h1
 refine⟨k.inv,zE h.up k.up,fun id hid=>(k.loc id (yb hid h.up)).trans (h.loc id hid),fun b d=>k.keep b (h.keep b d),fun b d=>?_,fun id blk d=>?_,?_⟩
 ·rcases k.from_ b d with h1|h1|h1
  ·exact h.from_ b h1
  ·rcases l b h1 with e|e
   ·exact .inr (.inl e)
   ·exact .inr (.inr e)
  ·exact .inr (.inr (zE h.fr.size h1))
 ·rcases k.own id blk d with h1|h1
  ·exact l _ h1
  ·exact .inr (zE h.fr.size h1)
 ·refine h.fr.trans k.fr fun b d h1=>?_
  rcases l b h1 with e|e
  ·exact e
  ·omega
theorem Inv.same{P:Program}{w w':World}{S:Nat->Prop}{G:Nat->GI}{Y:Hp}{Z:Nat}(h:Inv P w S G Y Z)(c:w'.heap=w.heap):Inv P w' S G Y Z:=by
 have d:∀b,S b->S b/\w'.heap[b]?=w.heap[b]?:=fun b a=>⟨a,by rw[c]⟩
 exact⟨fun b a=>by rw[c];exact h.st b a,h.top,fun id b a=>(h.live id b a).mono d (ze _) (fun _ _=>rfl) (by rw[c]),h.apart,h.inj,h.gD.mono d⟩
theorem kd.drew{P:Program}{Y:Hp}{Z:Nat}{S:Nat->Prop}{G:Nat->GI}{w:World}(h:Inv P w S G Y Z):kd dr P Y Z S G w Y Z S G w.drew:=
 ⟨h.same rfl,ze _,fun _ _=>rfl,fun _ h=>h,fun _ h=>.inl h,fun id blk a=>.inl ⟨id,blk,a,rfl⟩,Fr.drew _ _⟩
theorem kd.alloc{P:Program}{Y:Hp}{Z:Nat}{S:Nat->Prop}{G:Nat->GI}{w:World}(h:Inv P w S G Y Z)(d:Array Value)(e:TypeId)(q:Bool)(es:List zb)(s:Nat)(B:0<s)
  (C:(P.info? e).map (·.size)=some s) (v:∀c∈es,c.length=s) (x:es.length*s<=d.size)
  (y:∀(i j:Nat) (c:zb) (z:O),es[i]?=some c->c[j]?=some z->∃u,d[i*s+j]?=some u/\ji w S G Z q z u) :
  kd dr P Y Z S G w (qt Y Z (some ⟨e,s,q,es⟩)) (Z+1) S (qt G Z ⟨w.heap.size,d.size,s⟩) (w.alloc (.cells d e)):=by
 have m:∀b,b<w.heap.size->(w.alloc (.cells d e)).heap[b]?=w.heap[b]?:=fun b a=>Below.heap_alloc w _ b a
 have D:∀b,S b->S b/\(w.alloc (.cells d e)).heap[b]?=w.heap[b]?:=fun b a=>⟨a,m b (h.st b a)⟩
 have p:∀id,id<Z->qt G Z ⟨w.heap.size,d.size,s⟩ id=G id:=fun id hid=>qL _ _ _ _ (by omega)
 have f:∀id,id≠Z->qt Y Z (some ⟨e,s,q,es⟩) id=Y id:=fun id hid=>qL _ _ _ _ hid
 have n:(w.alloc (.cells d e)).heap.size=w.heap.size+1:=by show(w.heap.push _).size=_;simp
 have r:∀id b,Y id=some b->(G id).g<w.heap.size:=fun id b a=>(h.live id b a).lt
 refine⟨⟨fun b a=>by rw[n];have:=h.st b a;omega,fun id b a=>?_,fun id b a=>?_,fun id b a=>?_,fun id id' b A a l t=>?_,h.gD.mono D⟩,by omega,p,fun _ a=>a,fun _ a=>.inl a,fun id b a=>?_,⟨rfl,rfl,rfl,by rw[n];omega,fun _=>ze _,fun k E _=>m k E⟩⟩
 ·by_cases hid:id=Z
  ·omega
  ·rw[f id hid]at a;have:=h.top id b a;omega
 ·by_cases hid:id=Z
  ·subst hid;simp only[wP]at a⊢;injection a with a
   subst a;refine .vD B rfl ⟨C,v,x,d,Rk w _,rfl,fun i j c z hi F=>?_⟩;obtain⟨u,H,I⟩:=y i j c z hi F;exact⟨u,H,I.mono D (by omega) p⟩
  ·rw[f id hid]at a;have J:=h.top id b a;rw[p id J];exact(h.live id b a).mono D (by omega) p (m _ (r id b a))
 ·by_cases hid:id=Z
  ·subst hid;simp only[wP];intro hs;have:=h.st _ hs;omega
  ·rw[f id hid]at a;rw[p id (h.top id b a)];exact h.apart id b a
 ·by_cases hid:id=Z<;>by_cases o:id'=Z
  ·omega
  ·subst hid;rw[f id' o]at l;rw[p id' (h.top id' A l)]at t;have:=r id' A l;simp at t;omega
  ·subst o;rw[f id hid]at a;rw[p id (h.top id b a)]at t;have:=r id b a;simp at t;omega
  ·rw[f id hid]at a;rw[f id' o]at l;rw[p id (h.top id b a),p id' (h.top id' A l)]at t;exact h.inj id id' b A a l t
 ·by_cases hid:id=Z
  ·subst hid;simp
  ·rw[f id hid]at a;rw[p id (h.top id b a)];exact .inl ⟨id,b,a,rfl⟩
theorem kd.set{P:Program}{Y:Hp}{Z:Nat}{S:Nat->Prop}{G:Nat->GI}{w:World}(h:Inv P w S G Y Z){id:Nat}{b:kn}(hid:Y id=some b)(n:0<(G id).s)(f:Array Value)(es:List zb)
  (H:f.size=(G id).z) (o:∀c∈es,c.length=(G id).s) (p:es.length*(G id).s<=(G id).z)
  (q:∀(i j:Nat) (c:zb) (t:O),es[i]?=some c->c[j]?=some t->∃u,f[i*(G id).s+j]?=some u/\ji w S G Z b.arr t u) :
  kd dr P Y Z S G w (qt Y id (some ⟨b.e,b.s,b.arr,es⟩)) Z S G (w.setRow (G id).g f):=by
 have l:∀k,k≠(G id).g->(w.setRow (G id).g f).heap[k]?=w.heap[k]?:=fun k d=>setRow_other w _ k _ d
 have v:∀b,S b->S b/\(w.setRow (G id).g f).heap[b]?=w.heap[b]?:=fun k d=>⟨d,l k fun e=>h.apart id b hid (e ▸ d)⟩
 have m:∀k,k≠id->qt Y id (some ⟨b.e,b.s,b.arr,es⟩) k=Y k:=fun k d=>qL _ _ _ _ d
 obtain⟨x,r,I,_⟩:=(h.live id b hid).row n;refine⟨⟨fun k d=>by rw[setRow_size];exact h.st k d,fun k c d=>?_,fun k c d=>?_,fun k c d=>?_,fun k E c y d A J=>?_,h.gD.mono v⟩,ze _,fun _ _=>rfl,fun _ B=>B,fun _ B=>.inl B,fun k c d=>?_,⟨rfl,rfl,rfl,by simp,fun _=>ze _,fun k _ K=>l k fun e=>K ⟨id,b,hid,e.symm⟩⟩⟩
 ·by_cases a:k=id
  ·subst a;exact h.top _ b hid
  ·rw[m k a]at d;exact h.top k c d
 ·by_cases a:k=id
  ·subst a;simp only[wP]at d;injection d with d
   subst d;refine .vD n (h.live _ b hid).bs ⟨(h.live _ b hid).size n,o,p,f,setRow_heap w _ x _ _ _ r,H,fun i j c t hi L=>?_⟩;obtain⟨u,C,D⟩:=q i j c t hi L;exact⟨u,C,D.mono v (ze _) (fun _ _=>rfl)⟩
  ·rw[m k a]at d;exact(h.live k c d).mono v (ze _) (fun _ _=>rfl) (l _ fun e=>a (h.inj k id c b d hid e))
 ·by_cases a:k=id
  ·subst a;exact h.apart _ b hid
  ·rw[m k a]at d;exact h.apart k c d
 ·have F:∀k c,qt Y id (some ⟨b.e,b.s,b.arr,es⟩) k=some c->∃y,Y k=some y:=by
   intro k c d;by_cases a:k=id
   ·subst a;exact⟨b,hid⟩
   ·rw[m k a]at d;exact⟨c,d⟩
  obtain⟨M,C⟩:=F k c d;obtain⟨N,D⟩:=F E y A;exact h.inj k E M N C D J
 ·by_cases a:k=id
  ·subst a;exact .inl ⟨_,b,hid,rfl⟩
  ·rw[m k a]at d;exact .inl ⟨k,c,d,rfl⟩
theorem kd.kill{P:Program}{Y:Hp}{Z:Nat}{S:Nat->Prop}{G:Nat->GI}{w:World}(h:Inv P w S G Y Z){id:Nat}{b:kn}(hid:Y id=some b) :
  kd dr P Y Z S G w (qt Y id none) Z (fun k=>S k\/k=(G id).g) G w:=by
 have i:∀k,S k->(S k\/k=(G id).g)/\w.heap[k]?=w.heap[k]?:=fun k a=>⟨.inl a,rfl⟩
 have d:∀k c,qt Y id none k=some c->k≠id/\Y k=some c:=by
  intro k c a;by_cases e:k=id
  ·subst e;simp at a
  ·rw[qL _ _ _ _ e]at a;exact⟨e,a⟩
 refine⟨⟨fun k a=>?_,fun k c a=>h.top k c (d k c a).2,fun k c a=>(h.live k c (d k c a).2).mono i (ze _) (fun _ _=>rfl) rfl,fun k c a=>?_,fun k j c l a f he=>h.inj k j c l (d k c a).2 (d j l f).2 he,h.gD.mono i⟩,
  ze _,fun _ _=>rfl,fun _ m=>.inl m,fun k a=>?_,fun k c a=>.inl ⟨k,c,(d k c a).2,rfl⟩,Fr.refl _ _⟩
 ·rcases a with a|rfl
  ·exact h.st k a
  ·exact(h.live id b hid).lt
 ·rintro (hs|he)
  ·exact h.apart k c (d k c a).2 hs
  ·exact(d k c a).1 (h.inj k id c b (d k c a).2 hid he)
 ·rcases a with a|rfl
  ·exact .inl a
  ·exact .inr (.inl ⟨id,b,hid,rfl⟩)
theorem Ej{P:Program}{Y:Hp}{Z:Nat}{S:Nat->Prop}{G:Nat->GI}{w:World}(h:Inv P w S G Y Z){id off n cap:Nat}{b:kn}(hid:Y id=some b)(m:0<(G id).s)(o:b.arr=true)(N:off+n<=b.es.length)
  (E:n<=cap) (p:cap<=maxLen) (x:Nat->Prop) (F:∀k,S k->x k) (H:x (G id).g) :
  wK w x (.sl b.s ((b.es.drop off).take n)) (.slice (some ⟨(G id).g,off*(G id).s,none⟩) n cap):=by
 have A:=h.live id b hid;obtain⟨q,I,Q,J⟩:=A.row m;have K:((b.es.drop off).take n).length=n:=by simp;omega
 have r:∀(i:Nat) (c:zb),((b.es.drop off).take n)[i]?=some c->b.es[off+i]?=some c:=by
  intro i c hi;rw[qy]at hi;split at hi
  ·rwa [qM]at hi
  ·cases hi
 have l:∀(i j:Nat),∃u,∀(c:zb) (a:O),((b.es.drop off).take n)[i]?=some c->c[j]?=some a->q[(off+i)*(G id).s+j]?=some u/\ji w S G Z b.arr a u:=by
  intro i j;by_cases y:∃c a,((b.es.drop off).take n)[i]?=some c/\c[j]?=some a
  ·obtain⟨c,a,hi,f⟩:=y;obtain⟨u,z,t⟩:=J (off+i) j c a (r i c hi) f;refine⟨u,fun R L d e=>?_⟩;rw[hi]at d;injection d with d;subst d;rw[f]at e;injection e with e;subst e;exact⟨z,t⟩
  ·exact⟨undef,fun c a hi f=>(y ⟨c,a,hi,f⟩).elim⟩
 rw[A.bs];have B:wK w x (.sl (G id).s ((b.es.drop off).take n)) (.slice (some ⟨(G id).g,off*(G id).s,none⟩) ((b.es.drop off).take n).length cap):=by
  refine .sl (s:=(G id).s) (fun i j=>Classical.choose (l i j)) (by simp) (by omega) p (fun c y=>A.len m c (WB _ _ (K0 _ _ y))) (fun i j c a hi f=>?_) (fun i j c a hi f=>?_)
  ·obtain⟨z,t⟩:=jq (l i j) c a hi f;refine⟨_,rfl,H,?_,t.2.2⟩;have v:(⟨(G id).g,off*(G id).s,none⟩:Addr).add (i*(G id).s+j)=⟨(G id).g,(off+i)*(G id).s+j,none⟩:=by
    unfold Addr.add;split
    ·rename_i T;have C:i*(G id).s=0:=by omega
     have D:j=0:=by omega
     simp[qK,C,D]
    ·simp[qK];omega
   rw[v,za2 w _ _ q _ _ I];exact z
  ·obtain⟨z,t⟩:=jq (l i j) c a hi f;exact(t.1 o).mono fun k M=>⟨F k M,rfl⟩
 rwa [K]at B
theorem Marks.step{P:Program}{i:Nat}{Y Y':Hp}{Z n:Nat}{S j:Nat->Prop}{G l:Nat->GI}{w w':World}{ds:List Deferred}(h:Marks i w S Y G ds)(k:kd dr P Y Z S G w Y' n j l w'):Marks i w' j Y' l ds:=by
 obtain⟨d,o,e,p,q⟩:=h;refine⟨zE d k.fr.size,o,e,p,fun D hd=>?_⟩;obtain⟨r,m,c,f⟩:=q D hd;have g:D<w.heap.size:=(zU.1 m).1;refine⟨r,(k.fr.block D g fun⟨id,b,a,e⟩=>f id b a e).trans m,fun hs=>?_,fun id b a e=>?_⟩
 ·rcases k.from_ D hs with h|⟨id,b,a,e⟩|h
  ·exact c h
  ·exact f id b a e
  ·omega
 rcases k.own id b a with⟨id',s,c,t⟩|c
 ·exact f id' s c (t.trans e)
 ·omega
theorem kX.step{P:Program}{l:World}{n L:Nat->Prop}{N Z0:Nat}{o:Nat->GI}{p:Nat}{st:St}{S g:Nat->Prop}{G i:Nat->GI}{a:Act}{w w':World}{Y':Hp}{j:Nat}{x:O}{u:Value}{dst:Option Tmp}
  (h:kX dr P l n L N Z0 o p st S G a w) (k:kd dr P st.Y st.Z S G w Y' j g i w') (q:qb w' g i j x u) (hd:∀d,dst=some d->d<N) :
  kX dr P l n L N Z0 o p ⟨put st.U dst x,Y',j⟩ g i (a.put dst u) w':=by
 have r:=k.same h.inv;have m:∀b,jD st.Y G b->L b\/l.heap.size<=b:=by rintro b ⟨id,blk,h1,rfl⟩;exact h.own id blk h1
 refine⟨k.inv,fun t=>?_,?_,?_,fun b f=>k.keep b (h.s0 b f),fun b f=>?_,fun id blk f=>?_,?_,zE h.up k.up,fun id hid=>(k.loc id (yb hid h.up)).trans (h.loc id hid)⟩
 ·have c:qb w' g i j (st.U t) (a.tmps.getD t undef):=(h.jx t).mono r k.up k.loc;cases dst with
  |none=>exact c
  |some d=>
   show qb w' g i j (qt st.U d x t) ((a.tmps.setIfInBounds d u).getD t undef);by_cases e:t=d
   ·subst e;have:t<a.tmps.size:=by rw[h.size];exact hd t rfl
    simpa[qt,this]using q
   ·have s:¬d=t:=fun h=>e h.symm
    simp only[qt,e,wx];have:(a.tmps.setIfInBounds d u).getD t undef=a.tmps.getD t undef:=by simp[yL s]
    rw[this];exact c
 ·cases dst with
  |none=>exact h.size
  |some d=>show(a.tmps.setIfInBounds d u).size=N;simp[h.size]
 ·cases dst<;>exact h.defers.step k
 ·rcases k.from_ b f with h1|h1|h1
  ·exact h.s1 b h1
  ·rcases m b h1 with h2|h2
   ·exact .inr (.inl h2)
   ·exact .inr (.inr h2)
  ·exact .inr (.inr (zE h.fr.size h1))
 ·rcases k.own id blk f with h1|h1
  ·exact m _ h1
  ·exact .inr (zE h.fr.size h1)
 ·refine h.fr.trans k.fr fun b f h1=>?_
  rcases m b h1 with h2|h2
  ·exact h2
  ·omega
variable{dr:Prop}
section
variable{P:Program}{w:World}{S:Nat->Prop}{G:Nat->GI}{Y:Hp}{Z:Nat}
theorem wK.wY{x u:Value}(h:wK w S (.v x) u):u=x/\lit x=true:=by cases h;exact⟨rfl,‹_›⟩
theorem qb.wY{x u:Value}(h:qb w S G Z (.v x) u):u=x/\lit x=true:=by
 cases h with
 |c h=>exact h.wY
theorem qb.Zp{u:Value}(h:qb w S G Z .nil u):u=.slice none 0 0:=by
 cases h with
 |c h=>cases h;rfl
theorem qb.oF{u:Value}(h:qb w S G Z .em u):∃ad cap,u=.slice (some ad) 0 cap/\cap<=maxLen:=by
 cases h with
 |c h=>cases h;exact⟨_,_,rfl,‹_›⟩
theorem qb.ca{s:Nat}{es:List zb}{u:Value}(h:qb w S G Z (.sl s es) u):wK w S (.sl s es) u:=by
 cases h with
 |c h=>exact h
theorem qb.K4{cs:zb}{u:Value}(h:qb w S G Z (.ptr cs) u):wK w S (.ptr cs) u:=by
 cases h with
 |c h=>exact h
theorem qb.vE{id off n:Nat}{u:Value}(h:qb w S G Z (.own id off n) u):∃cap,id<Z/\n<=cap/\cap<=maxLen/\(off+cap)*(G id).s=(G id).z/\u=.slice (some ⟨(G id).g,off*(G id).s,none⟩) n cap:=by
 cases h with
 |c h=>cases h
 |own a b d e _=>exact⟨_,a,b,d,e,rfl⟩
theorem qb.xg{id off n:Nat}{u:Value}(h:qb w S G Z (.own id off n) u):0<(G id).s:=by
 cases h with
 |c h=>cases h
 |own _ _ _ _ a=>exact a
theorem qb.Wh{id i j:Nat}{u:Value}(h:qb w S G Z (.ref id i j) u):id<Z/\u=.pointer (some ⟨(G id).g,i*(G id).s+j,none⟩):=by
 cases h with
 |c h=>cases h
 |ref a _=>exact⟨a,rfl⟩
theorem qb.dH{id i j:Nat}{u:Value}(h:qb w S G Z (.ref id i j) u):0<(G id).s:=by
 cases h with
 |c h=>cases h
 |ref _ a=>exact a
theorem qb.Gw{id:Nat}{u:Value}(h:qb w S G Z (.mp id) u):id<Z/\(G id).s=0/\u=.map (some (G id).g):=by
 cases h with
 |c h=>cases h
 |mp a b=>exact⟨a,b,rfl⟩
theorem qb.Wi{cs:zb}{u:Value}(h:qb w S G Z (.agg cs) u):∃us:Array Value,u=.agg us/\cs.length=us.size/\∀(j:Nat) (d:O) (x:Value),cs[j]?=some d->us[j]?=some x->qb w S G Z d x:=by
 cases h with
 |c h=>cases h with
  |agg e f=>exact⟨_,rfl,e,fun j d x a b=>.c (f j d x a b)⟩
 |agg e f=>exact⟨_,rfl,e,f⟩
theorem qb.HT{cs:zb}{u:Value}(h:qb w S G Z (.wq cs) u):∃us:Array Value,u=.tuple us/\cs.length=us.size/\∀(j:Nat) (d:O) (x:Value),cs[j]?=some d->us[j]?=some x->qb w S G Z d x:=by
 cases h with
 |c h=>cases h with
  |wq e f=>exact⟨_,rfl,e,fun j d x a b=>.c (f j d x a b)⟩
 |wq e f=>exact⟨_,rfl,e,f⟩
theorem qb.AG{f:Fn}{xs ys:zb}{u:Value}(h:qb w S G Z (.fn f xs ys) u):∃us ts:Array Value,u=.func f us ts/\xs.length=us.size/\ys.length=ts.size /\
  (∀(j:Nat) (d:O) (x:Value),xs[j]?=some d->us[j]?=some x->qb w S G Z d x)/\∀(j:Nat) (d:O) (x:Value),ys[j]?=some d->ts[j]?=some x->qb w S G Z d x:=by
 cases h with
 |c h=>cases h with
  |fn e g i k=>exact⟨_,_,rfl,e,g,fun j d x a b=>.c (i j d x a b),fun j d x a b=>.c (k j d x a b)⟩
 |fn e g i k=>exact⟨_,_,rfl,e,g,i,k⟩
theorem jM:qb w S G Z (.wq []) undef:=.c (.wq rfl (by simp))
theorem iW{x:Value}{a:O}(h:dL x=some a):wK w S a x/\x.oneCell'=true/\a.wH=true:=by
 unfold dL at h;split at h<;>first
  |(injection h with h;subst h;exact⟨.nil,rfl,rfl⟩)
  |(injection h with h;subst h;exact⟨.v rfl,rfl,rfl⟩)
  |cases h
theorem jf:∀{l:List Value} {r:zb},vD l=some r->r.length=l.length/\(∀(j:Nat) (a:O) (u:Value),r[j]?=some a->l[j]?=some u->wK w S a u/\u.oneCell'=true/\a.wH=true)
 |[],r,h=>by simp[vD]at h;subst h;simp
 |x::l,r,h=>by
  simp only[vD]at h;split at h
  ·rename_i p q Y d;injection h with h
   subst h;obtain⟨e,f⟩:=jf d;refine⟨by simp[e],fun j a u b c=>?_⟩;cases j with
   |zero=>simp at b c;subst b;subst c;exact iW Y
   |succ j=>exact f j a u (by simpa using b) (by simpa using c)
  ·cases h
theorem fp{x:Value}{a:O}(h:iw x=some a):wK w S a x:=by
 unfold iw at h;split at h
 ·rename_i cs;cases b:vD cs.toList with
  |none=>simp[b]at h
  |some r=>simp[b]at h;subst h;obtain⟨c,d⟩:=jf (w:=w) (S:=S) b;exact .agg (by simpa using c) (fun j a u e f=>(d j a u e (by simpa using f)).1)
 ·exact(iW h).1
theorem vv{U:Nat->O}{a:Act}(hs:∀t,qb w S G Z (U t) (a.tmps.getD t undef)){y:Operand}{b:O}(h:get U y=some b):qb w S G Z b (a.eval y):=by
 cases y with
 |tmp t=>simp[get]at h;subst h;exact hs t
 |const x=>exact .c (fp h)
 |global g=>simp[get]at h
 |func f=>simp[get]at h;subst h;exact .c (.fn rfl rfl (by simp) (by simp))
theorem dN{y:O}{u:Value}(h:qb w S G Z y u)(a:y.cells.all O.wH=true):y.cells.length=u.cells.size/\∀(j:Nat) (d:O) (c:Value),y.cells[j]?=some d->u.cells[j]?=some c->qb w S G Z d c/\c.oneCell'=true:=by
 by_cases e:∃cs,y=.agg cs
 ·obtain⟨cs,rfl⟩:=e;obtain⟨us,rfl,k,l⟩:=h.Wi;refine⟨k,fun j d c b f=>?_⟩;have g:=l j d c b f;refine⟨g,g.K3 ?_⟩;simp only[O.cells]at a b;exact zL.1 a d (zz b)
 ·have m:y.cells=[y]:=by cases y<;>first|rfl|exact(e ⟨_,rfl⟩).elim
  rw[m]at a⊢;have hi:y.wH=true:=by simpa using a
  have i:=h.K3 hi;have f:u.cells=#[u]:=by cases u<;>first|rfl|simp[Value.oneCell']at i
  rw[f];refine⟨rfl,fun j d c b a=>?_⟩;cases j with
  |zero=>simp at b a;subst b;subst a;exact⟨h,i⟩
  |succ j=>simp at b
def QH(dr:Prop)(P:Program)(w:World)(Y:Hp)(Z:Nat)(S:Nat->Prop)(G:Nat->GI)(x:O)(Y':Hp)(a:Nat)(r:Result Value):Prop:=
 ∃v w' b c,r=.ok v w'/\kd dr P Y Z S G w Y' a b c w'/\qb w' b c a x v
theorem qw(hi:Inv P w S G Y Z){x:O}{v:Value}{r:Result Value}(a:r=.ok v w)(b:qb w S G Z x v):QH dr P w Y Z S G x Y Z r:=⟨v,w,S,G,a,.refl hi,b⟩
theorem W8{t:TypeId}{n:Nat}(h:qC P t=some n):∃i,P.info? t=some i/\i.size=n:=by
 unfold qC at h;cases hi:P.info? t with
 |none=>simp[hi]at h
 |some i=>exact⟨i,rfl,by simpa[hi]using h⟩
theorem yd{t:TypeId}{n:Nat}(h:qC P t=some n)(w:World):(sizeOf t).run P w=.ok n w:=by obtain⟨i,hi,rfl⟩:=W8 h;simp[sizeOf,typeInfo,hi]
theorem xr{t:TypeId}{b:Bool}(h:yr P t=some b)(w:World):(isAgg t).run P w=.ok b w:=by
 unfold yr at h;cases a:P.underlying t with
 |none=>simp[a]at h
 |some d=>simp[a]at h;subst h;unfold isAgg;rw[vM,zD a w];cases d<;>rfl
theorem Qk{t:TypeId}{z:zb}(h:yT P t=some z):∃i v,P.info? t=some i/\i.zero=some v/\vD v.cells.toList=some z:=by
 unfold yT at h;cases hi:P.info? t with
 |none=>simp[hi]at h
 |some i=>
  cases a:i.zero with
  |none=>simp[hi,a]at h
  |some v=>exact⟨i,v,rfl,a,by simpa[hi,a]using h⟩
theorem Q7{t:TypeId}{i:TypeInfo}{v:Value}(hi:P.info? t=some i)(a:i.zero=some v)(w:World):(zeroValue t).run P w=.ok v w:=by simp[zeroValue,typeInfo,hi,a]
theorem Ek(hi:Inv P w S G Y Z){t:TypeId}{n:Nat}{z:zb}(hs:qC P t=some n)(m:yT P t=some z)(f:0<n)(d:z.length=n) :
  QH dr P w Y Z S G (.ref Z 0 0) (qt Y Z (some ⟨t,n,false,[z]⟩)) (Z+1) ((Instr.alloc t true (.tuple #[])).run P w):=by
 obtain⟨i,v,o,p,q⟩:=Qk m;obtain⟨r,s⟩:=jf (w:=w) (S:=S) q;have e:(P.info? t).map (·.size)=some n:=hs;have a:v.cells.size=n:=by rw[<-d,r];simp
 have k:=kd.alloc (dr:=dr) hi v.cells t false [z] n f e (by simp[d]) (by simp[a]) (fun i j c u hi g=>by
  cases i with
  |succ i=>simp at hi
  |zero=>
   simp at hi;subst hi;have b:j<v.cells.size:=by rw[a,<-d];exact(zd.1 g).1
   refine⟨v.cells[j],by simp[b],?_⟩;have l:=s j u v.cells[j] g (by simp[b]);exact⟨fun h=>(by cases h),.c l.1,l.2.1⟩)
 refine⟨.pointer (some ⟨w.heap.size,0,none⟩),_,_,_,?_,k,?_⟩
 ·simp[Instr.alloc,Q7 o p,newVar,newRow]
 ·have:=qb.ref (w:=w.alloc (.cells v.cells t)) (S:=S) (G:=qt G Z ⟨w.heap.size,v.cells.size,n⟩) (Z:=Z+1) (id:=Z) (i:=0) (j:=0) (by omega) (by simpa using f);simpa using this
theorem MT(hi:Inv P w S G Y Z){t:TypeId}{n:Nat}{y:O}{u:Value}(hs:qC P t=some n)(m:qb w S G Z y u)(d:0<n)(e:y.cells.length=n)(o:y.cells.all O.wH=true) :
  QH dr P w Y Z S G (.ref Z 0 0) (qt Y Z (some ⟨t,n,false,[y.cells]⟩)) (Z+1) ((Instr.box t u).run P w):=by
 obtain⟨f,p⟩:=dN m o;have b:u.cells.size=n:=by rw[<-f,e]
 have k:=kd.alloc (dr:=dr) hi u.cells t false [y.cells] n d hs (by simp[e]) (by simp[b]) (fun i j c q hi g=>by
  cases i with
  |succ i=>simp at hi
  |zero=>
   simp at hi;subst hi;have a:j<u.cells.size:=by rw[<-f];exact(zd.1 g).1
   refine⟨u.cells[j],by simp[a],?_⟩;have l:=p j q u.cells[j] g (by simp[a]);exact⟨fun h=>(by cases h),l.1,l.2⟩)
 refine⟨.pointer (some ⟨w.heap.size,0,none⟩),_,_,_,?_,k,?_⟩
 ·simp[Instr.box,newVar,newRow]
 ·have:=qb.ref (w:=w.alloc (.cells u.cells t)) (S:=S) (G:=qt G Z ⟨w.heap.size,u.cells.size,n⟩) (Z:=Z+1) (id:=Z) (i:=0) (j:=0) (by omega) (by simpa using d);simpa using this
theorem XF{t:TypeId}{cs:zb}{x:O}(h:qO P t cs=some x)(ad:Addr)(us:Nat->Value)(d:∀(j:Nat) (c:O),cs[j]?=some c->w.cell? (ad.add j)=some (us j)/\qb w S G Z c (us j)) :
  ∃v,(loadVar t ad).run P w=.ok v w/\qb w S G Z x v:=by
 unfold qO at h;split at h
 ·rename_i n e hs;split at h
  ·rename_i g;injection h with h
   subst h;have i:(loadCells ad n).run P w=.ok ((List.range n).map us).toArray w:=by
    have:=run_loadCells_list (P:=P) w ad ((List.range n).map us) (fun j v a=>by
     have b:j<n:=by simpa using(zd.1 a).1
     have Y:=d j (cs[j]'(by omega)) (zj (by omega));rw[Y.1];rw[qf,jX b]at a;simpa using a)
    simpa using this
   refine⟨.agg ((List.range n).map us).toArray,?_,.agg ?_ ?_⟩
   ·simp[loadVar,xr e,yd hs,i]
   ·simp;omega
   ·intro j c u a f;rw[qy]at a;split at a
    ·rename_i b;have:=(d j c a).2;simp[b]at f;rwa [<-f]
    ·cases a
  ·cases h
 ·rename_i n e hs;have:=d 0 x h;refine⟨us 0,?_,this.2⟩;have k:ad.add 0=ad:=rfl;rw[k]at this;simp[loadVar,xr e,this.1]
 ·cases h
theorem pY(hi:Inv P w S G Y Z){t:TypeId}{p x:O}{u:Value}(h:xA P Y t p=some x)(Y':qb w S G Z p u):QH dr P w Y Z S G x Y Z ((Instr.loadAt t u).run P w):=by
 unfold xA at h;split at h
 ·rename_i cs;cases Y'.K4 with
  |ptr us l q=>obtain⟨v,m,n⟩:=XF (G:=G) (Z:=Z) (w:=w) (S:=S) h _ us (fun j f r=>⟨(l j f r).2,.c (q j f r)⟩);exact qw hi (v:=v) (by simp[Instr.loadAt,Instr.sureAddr,m]) n
 ·rename_i id i j;have o:=Y'.dH;obtain⟨hid,rfl⟩:=Y'.Wh;split at h
  ·rename_i b z;split at h
   ·rename_i c A;obtain⟨a,l,q,B⟩:=(hi.live id b z).row o;have d:∀k:Nat,w.cell? ((⟨(G id).g,i*(G id).s+j,none⟩:Addr).add k)=a[i*(G id).s+j+k]?:=by intro k;rw[j8,za2 w _ _ a _ _ l]
    obtain⟨v,m,n⟩:=XF (G:=G) (Z:=Z) (w:=w) (S:=S) h ⟨(G id).g,i*(G id).s+j,none⟩ (fun k=>(a[i*(G id).s+j+k]?).getD undef) (fun k f y=>by
     rw[qM]at y;obtain⟨u,C,D⟩:=B i (j+k) c f A y;rw[d];have e:i*(G id).s+j+k=i*(G id).s+(j+k):=by omega
     rw[e,C];exact⟨rfl,D.2.1⟩)
    exact qw hi (v:=v) (by simp[Instr.loadAt,Instr.sureAddr,m]) n
   ·cases h
  ·cases h
 ·cases h
end
variable{dr:Prop}
section
variable{P:Program}{w:World}{S:Nat->Prop}{G:Nat->GI}{Y:Hp}{Z:Nat}
def Zip{α a:Type}(R:α->a->Prop)(xs:List α)(us:List a):Prop:=xs.length=us.length/\∀(j:Nat) (x:α) (u:a),xs[j]?=some x->us[j]?=some u->R x u
theorem Zip.nil{α a:Type}{R:α->a->Prop}:Zip R [] ([]:List a):=⟨rfl,by simp⟩
theorem Zip.cons{α a:Type}{R:α->a->Prop}{x:α}{u:a}{xs:List α}{us:List a}(h:R x u)(t:Zip R xs us):Zip R (x::xs) (u::us):=by
 refine⟨by simp[t.1],fun j y v b c=>?_⟩;cases j with
 |zero=>simp at b c;subst b;subst c;exact h
 |succ j=>exact t.2 j y v (by simpa using b) (by simpa using c)
theorem Zip.jF{α b:Type}{R:α->b->Prop}{x:α}{xs:List α}{us:List b}(h:Zip R (x::xs) us):∃u a,us=u::a/\R x u/\Zip R xs a:=by
 cases us with
 |nil=>have:=h.1;simp at this
 |cons u a=>refine⟨u,a,rfl,h.2 0 x u rfl rfl,by have:=h.1;simpa using this,fun j y v c d=>h.2 (j+1) y v (by simpa using c) (by simpa using d)⟩
theorem Zip.WE{α a:Type}{R:α->a->Prop}{us:List a}(h:Zip R ([]:List α) us):us=[]:=xp h.1.symm
theorem Zip.imp{α c:Type}{R d:α->c->Prop}{xs:List α}{us:List c}(h:Zip R xs us)(e:∀x u,R x u->d x u):Zip d xs us:=⟨h.1,fun j x u a b=>e x u (h.2 j x u a b)⟩
theorem xk{h:Hp}{i k:Nat}{b:kn}(a:qt h i none k=some b):h k=some b:=by
 unfold qt at a;split at a
 ·cases a
 ·exact a
theorem pZ{x:O}{u:Value}(h:qb w S G Z x u)(hs:x.W6=true):wK w S x u:=by
 cases x with
 |v y=>obtain⟨rfl,a⟩:=h.wY;exact .v a
 |nil=>rw[h.Zp];exact .nil
 |em=>obtain⟨ad,cap,rfl,b⟩:=h.oF;exact .em b
 |sl s es=>exact h.ca
 |ptr cs=>exact h.K4
 |_=>simp[O.W6]at hs
theorem AW{x:O}{u:Value}(h:qb w S G Z x u)(hs:x.shut=true):wK w S x u:=by
 cases x with
 |agg cs=>obtain⟨us,rfl,d,e⟩:=h.Wi;exact .agg d fun j c y a b=>pZ (e j c y a b) (zL.1 hs c (zz a))
 |_=>exact pZ h hs
theorem JL(hi:Inv P w S G Y Z){x y:O}{Y1:Hp}{u:Value}(h:wu Y x=some (y,Y1))(d:qb w S G Z x u) :
  ∃g,kd dr P Y Z S G w Y1 Z g G w/\wK w g y u/\(x.kY=false->g=S):=by
 have c:∀{m:O} {Y':Hp},some (x,Y)=some (m,Y')->wK w S x u->∃g,kd dr P Y Z S G w Y' Z g G w/\wK w g m u/\(x.kY=false->g=S):=by
  intro m Y' e t;injection e with e
  injection e with z A;subst z;subst A;exact⟨S,.refl hi,t,fun _=>rfl⟩
 unfold wu at h;split at h
 ·rename_i id off n;split at h
  ·rename_i b r;split at h
   ·rename_i i;injection h with h
    injection h with o p;subst o;subst p;obtain⟨cap,s,q,B,F,rfl⟩:=d.vE;exact⟨_,kd.kill hi r,Ej hi r d.xg i.1 i.2 q B _ (fun k C=>.inl C) (.inr rfl),fun h=>by simp[O.kY]at h⟩
   ·cases h
  ·cases h
 ·obtain⟨rfl,D⟩:=d.wY;exact c h (.v D)
 ·have:=d.Zp;subst this;exact c h .nil
 ·exact c h d.ca
 ·obtain⟨ad,cap,rfl,E⟩:=d.oF;exact c h (.em E)
 ·exact c h d.K4
 ·rename_i f xs ys;split at h
  ·rename_i i;obtain⟨us,ts,rfl,o,p,s,q⟩:=d.AG;exact c h (.fn o p (fun j l y a b=>AW (s j l y a b) (zL.1 i.1 l (zz a))) (fun j l y a b=>AW (q j l y a b) (zL.1 i.2 l (zz a))))
  ·cases h
 ·cases h
theorem Y5{Y Y1:Hp}{x y:O}(h:wu Y x=some (y,Y1)):y.wH=true:=by
 unfold wu at h;split at h<;>(try (split at h))<;>(try (split at h))<;>first
  |(injection h with h;injection h with a b;subst a;rfl)
  |cases h
theorem Y6:∀{xs ys:zb} {Y Y1:Hp} {S:Nat->Prop} {us:List Value} (_:Inv P w S G Y Z),qY Y xs=some (ys,Y1)->Zip (qb w S G Z) xs us ->
  ∃b,kd dr P Y Z S G w Y1 Z b G w/\Zip (wK w b) ys us/\ys.all O.wH=true/\(xs.any O.kY=false->b=S)
 |[],ys,Y,Y1,S,us,hi,h,c=>by
  simp only[qY]at h;injection h with h
  injection h with f g;subst f;subst g;rw[c.WE];exact⟨S,.refl hi,.nil,rfl,fun _=>rfl⟩
 |x::l,ys,Y,Y1,S,us,hi,h,c=>by
  simp only[qY]at h;split at h
  ·rename_i y f i;split at h
   ·rename_i r g k;injection h with h
    injection h with m n;subst m;subst n;obtain⟨u,o,rfl,p,d⟩:=c.jF;obtain⟨q,a,s,n1⟩:=JL (dr:=dr) hi i p;have t:=a.same hi;obtain⟨v,j,z,A,B⟩:=Y6 (S:=q) a.inv k (d.imp fun x u C=>C.mono t (ze _) (fun _ _=>rfl));refine⟨v,a.trans j,.cons (s.mono (j.same a.inv)) z,by simp[A,Y5 i],fun e=>?_⟩;simp only[jl,wy]at e;rw[B e.2,n1 e.1]
   ·cases h
  ·cases h
theorem kG(hi:Inv P w S G Y Z){x y:O}{Y1:Hp}{u:Value}(h:qa Y x=some (y,Y1))(g:qb w S G Z x u) :
  ∃d,kd dr P Y Z S G w Y1 Z d G w/\wK w d y u/\y.cells.all O.wH=true/\(x.noOwn=true->d=S):=by
 unfold qa at h;split at h
 ·rename_i cs;split at h
  ·rename_i l Y2 i;injection h with h
   injection h with m n;subst m;subst n;obtain⟨us,rfl,o,p⟩:=g.Wi;obtain⟨d,k,z,q,e⟩:=Y6 (us:=us.toList) hi i ⟨by simpa using o,fun j f x a b=>p j f x a (by simpa using b)⟩;exact⟨d,k,.agg (by have:=z.1;simpa using this) (fun j f x a b=>z.2 j f x a (by simpa using b)),q,fun h=>e (by simpa[O.noOwn]using h)⟩
  ·cases h
 ·obtain⟨d,k,c,e⟩:=JL hi h g;refine⟨d,k,c,?_,fun r=>e ?_⟩
  ·have:=Y5 h;cases y<;>simp_all[O.cells,O.wH]
  ·cases x<;>simp_all[O.noOwn,O.kY]
theorem yP:∀{xs ys:zb} {Y Y1:Hp} {S:Nat->Prop} {us:List Value} (_:Inv P w S G Y Z),zw Y xs=some (ys,Y1)->Zip (qb w S G Z) xs us ->
  ∃b,kd dr P Y Z S G w Y1 Z b G w/\Zip (wK w b) ys us/\(xs.all O.noOwn=true->b=S)
 |[],ys,Y,Y1,S,us,hi,h,c=>by
  simp only[zw]at h;injection h with h
  injection h with f g;subst f;subst g;rw[c.WE];exact⟨S,.refl hi,.nil,fun _=>rfl⟩
 |x::l,ys,Y,Y1,S,us,hi,h,c=>by
  simp only[zw]at h;split at h
  ·rename_i y f j;split at h
   ·rename_i r g k;injection h with h
    injection h with m n;subst m;subst n;obtain⟨u,o,rfl,p,d⟩:=c.jF;obtain⟨q,a,s,_,n1⟩:=kG (dr:=dr) hi j p;have t:=a.same hi;obtain⟨v,i,z,A⟩:=yP (S:=q) a.inv k (d.imp fun x u B=>B.mono t (ze _) (fun _ _=>rfl));refine⟨v,a.trans i,.cons (s.mono (i.same a.inv)) z,fun e=>?_⟩;simp only[q9,zC]at e;rw[A e.2,n1 e.1]
   ·cases h
  ·cases h
theorem Zi(hi:Inv P w S G Y Z){x y:O}{Y1:Hp}{u:Value}(h:freeze Y x=some (y,Y1))(f:qb w S G Z x u) :
  ∃d,kd dr P Y Z S G w Y1 Z d G w/\wK w d y u:=by
 unfold freeze at h;split at h
 ·rename_i cs;split at h
  ·rename_i l Y2 g;injection h with h
   injection h with i m;subst i;subst m;obtain⟨us,rfl,n,o⟩:=f.HT;obtain⟨d,k,z,_⟩:=yP (us:=us.toList) hi g ⟨by simpa using n,fun j e x a b=>o j e x a (by simpa using b)⟩;exact⟨d,k,.wq (by have:=z.1;simpa using this) (fun j e x a b=>z.2 j e x a (by simpa using b))⟩
  ·cases h
 ·obtain⟨d,k,c,_⟩:=kG hi h f;exact⟨d,k,c⟩
theorem WI:∀(l cs:zb) (off:Nat),(y9 cs off l).length=cs.length
 |[],cs,off=>rfl
 |x::l,cs,off=>by simp[y9,WI l]
theorem Ki:∀(l cs:zb) (off k:Nat),off+l.length<=cs.length->(y9 cs off l)[k]?=if off<=k/\k<off+l.length then l[k-off]? else cs[k]?
 |[],cs,off,k,_=>by simp[y9];omega
 |x::l,cs,off,k,h=>by
  simp only[z7]at h;have b:=Ki l (cs.set off x) (off+1) k (by simp;omega);simp only[y9];rw[b];by_cases a:off+1<=k/\k<off+1+l.length
  ·rw[zf a,zf ⟨by omega,by simp;omega⟩];obtain⟨d,rfl⟩:∃d,k=off+1+d:=⟨k-(off+1),by omega⟩;rw[show off+1+d-(off+1)=d from by omega,show off+1+d-off=d+1 from by omega];simp
  ·rw[zc a];by_cases c:k=off
   ·subst c;rw[zf ⟨by omega,by simp⟩,Zm (by omega)];simp
   ·rw[zc (by simp;omega),yn (by omega)]
theorem vd{α:Type}(l vs:List α)(o k:Nat)(h:o+vs.length<=l.length):(l.take o++vs++l.drop (o+vs.length))[k]?=if o<=k/\k<o+vs.length then vs[k-o]? else l[k]?:=by
 have a:(l.take o).length=o:=by simp;omega
 rw[qT];by_cases b:k<o
 ·rw[zc (by omega),zY (by omega),qy,zf b]
 ·rw[zQ (by omega),a];by_cases c:k<o+vs.length
  ·rw[zf ⟨by omega,c⟩,zY (by omega)]
  ·rw[zc (by omega),zQ (by omega),qM];congr 1;omega
theorem Q8{α:Type}(l vs:List α)(o:Nat)(h:o+vs.length<=l.length):(l.take o++vs++l.drop (o+vs.length)).length=l.length:=by simp;omega
theorem iX{s i j i':Nat}(c:j<s)(b:i'≠i)(a n:Nat)(d:a+n<=s):¬(i*s+a<=i'*s+j/\i'*s+j<i*s+a+n):=by
 rcases Nat.lt_or_gt_of_ne b with h|h
 ·have:(i'+1)*s<=i*s:=zP s h;rw[qK]at this;omega
 ·have:(i+1)*s<=i'*s:=zP s h;rw[qK]at this;omega
theorem kL{i j n s:Nat}(hi:i<n)(a:j<s):i*s+j<n*s:=by have:(i+1)*s<=n*s:=zP s hi;rw[qK]at this;omega
theorem sX(hi:Inv P w S G Y Z){id i j:Nat}{b:kn}{c ys:zb}{vs:List Value}(J:Y id=some b)(d:0<(G id).s)(B:b.es[i]?=some c)(N:ys.length=vs.length)(Q:j+ys.length<=c.length)
  (K:∀(k:Nat) (p:O) (u:Value),ys[k]?=some p->vs[k]?=some u->ji w S G Z b.arr p u) :
  ∃w',(storeCells ⟨(G id).g,i*(G id).s+j,none⟩ vs).run P w=.ok () w'/\kd dr P Y Z S G w (qt Y id (some ⟨b.e,b.s,b.arr,b.es.set i (y9 c j ys)⟩)) Z S G w':=by
 have l:=hi.live id b J;obtain⟨n,R,T,L⟩:=l.row d;have C:c.length=(G id).s:=l.len d c (zz B);have q:i<b.es.length:=(zd.1 B).1;have m:i*(G id).s+j+vs.length<=n.size:=by have:(i+1)*(G id).s<=b.es.length*(G id).s:=zP _ q;have:=l.fit d;rw[qK]at *;omega
 have D:∀v∈vs,v.oneCell'=true:=by
  intro v W;obtain⟨k,r⟩:=Kd W;have E:k<ys.length:=by rw[N];exact(zd.1 r).1
  exact(K k ys[k] v (zj E) r).2.2
 have t:=run_storeCells_at P (G id).g (i*(G id).s+j) b.e vs 0 n w R (by simpa using m) D;simp only[QE]at t;have x:i*(G id).s+j+vs.length<=n.toList.length:=by simpa using m
 refine⟨_,t,kd.set hi J d _ _ ?_ ?_ ?_ ?_⟩
 ·rw[jv,Q8 _ _ _ x];simpa using T
 ·intro A F;rcases jW F with h|h
  ·exact l.len d A h
  ·subst h;rw[WI];exact C
 ·simpa using l.fit d
 ·intro i' j' A p a f;have M:i'<b.es.length:=by have:=(zd.1 a).1;simpa using this
  rw[List.getElem?_toArray,vd _ _ _ _ x];by_cases o:i'=i
  ·subst o;rw[Zm q]at a;injection a with a
   subst a;rw[Ki _ _ _ _ Q]at f;by_cases y:j<=j'/\j'<j+ys.length
   ·rw[zf y]at f;rw[zf ⟨by omega,by omega⟩];have r:j'-j<vs.length:=by omega
    refine⟨vs[j'-j],?_,K (j'-j) p _ f (zj r)⟩;rw[show i'*(G id).s+j'-(i'*(G id).s+j)=j'-j from by omega];exact zj r
   ·rw[zc y]at f;rw[zc (by omega)];obtain⟨u,H,I⟩:=L i' j' c p B f;exact⟨u,by simpa using H,I⟩
  ·rw[yn (fun e=>o e.symm)]at a;have z:j'<(G id).s:=by rw[<-l.len d A (zz a)];exact(zd.1 f).1
   rw[zc (iX z o j vs.length (by omega))];obtain⟨u,H,I⟩:=L i' j' A p a f;exact⟨u,by simpa using H,I⟩
theorem El(hi:Inv P w S G Y Z){t:TypeId}{a x:O}{Y':Hp}{u v:Value}(h:QQ P Y t a x=some Y')(ha:qb w S G Z a u)(hx:qb w S G Z x v) :
  ∃w' M N,(Instr.storeAt t u v).run P w=.ok () w'/\kd dr P Y Z S G w Y' Z M N w':=by
 unfold QQ at h;split at h
 ·rename_i id i j;have Q:=ha.dH;obtain⟨hid,rfl⟩:=ha.Wh;split at h
  ·rename_i R E;have F:∀(y:O) (Y1:Hp) (z:Nat->Prop),kd dr P Y Z S G w Y1 Z z G w->qb w z G Z y v->(R.arr=true->wK w z y v)->(∀b,Y1 id=some b->b.arr=R.arr) ->
     (match Y1 id,qC P t with
      |some b,some n=>match b.es[i]? with
       |some c=>if y.cells.length=n/\j+n<=c.length/\y.cells.all O.wH=true then some (qt Y1 id (some ⟨b.e,b.s,b.arr,b.es.set i (y9 c j y.cells)⟩))else none
       |none=>none
      |_,_=>none)=some Y'->∃w' M N,(Instr.storeAt t (.pointer (some ⟨(G id).g,i*(G id).s+j,none⟩)) v).run P w=.ok () w'/\kd dr P Y Z S G w Y' Z M N w':=by
    intro y Y1 z K hy T W h;split at h
    ·rename_i b n f hn;split at h
     ·rename_i c L;split at h
      ·rename_i A;obtain⟨X,e2,e3⟩:=A;injection h with h
       subst h;obtain⟨hl,hr⟩:=dN hy e3;have hsz:v.cells.size=n:=by rw[<-hl,X]
       obtain⟨w',sS,k2⟩:=sX (P:=P) K.inv (ys:=y.cells) (vs:=v.cells.toList) (j:=j) f Q L (by simpa using hl) (by rw[X];exact e2) (fun k pv u D hu=>by
        have m:v.cells[k]?=some u:=by simpa using hu
        have h6:=hr k pv u D m;refine⟨fun H=>?_,h6.1,h6.2⟩;rw[W b f]at H;have B:=T H;by_cases I:∃cs,y=.agg cs
        ·obtain⟨cs,rfl⟩:=I;cases B with
         |agg g1 g2=>exact g2 k pv u D m
        ·have J:y.cells=[y]:=by cases y<;>first|rfl|exact(I ⟨_,rfl⟩).elim
         have ho:=B.K3 (by rw[J]at e3;simpa using e3);have hv1:v.cells=#[v]:=by cases v<;>first|rfl|simp[Value.oneCell']at ho
         rw[J]at D;rw[hv1]at m;cases k with
         |zero=>simp at D m;subst D;subst m;exact B
         |succ k=>simp at D)
       refine⟨w',z,G,?_,K.trans k2⟩;simp[Instr.storeAt,Instr.sureAddr,storeVar,yd hn,hsz,sS]
      ·cases h
     ·cases h
    ·cases h
   by_cases o:R.arr=true
   ·simp only[o,qI]at h;split at h
    ·rename_i y Y1 d;obtain⟨z,K,L,_,_⟩:=kG hi d hx;refine F y Y1 z K (.c L) (fun _=>L) (fun b f=>?_) h;have:∀b,Y1 id=some b->Y id=some b:=fun b f=>by
      have p:∀{x y:O} {h q:Hp} (_:wu h x=some (y,q)) (k:Nat) (b:kn),q k=some b->h k=some b:=by
       intro x y h q d k b f;unfold wu at d;split at d<;>(try (split at d))<;>(try (split at d))<;>first
        |(injection d with d;injection d with X e2;subst e2
          first
           |exact f
           |exact xk f)
        |cases d
      have C:∀(xs ys:zb) (h q:Hp) (_:qY h xs=some (ys,q)) (k:Nat) (b:kn),q k=some b->h k=some b:=by
       intro xs
       induction xs with
       |nil=>intro ys h q d k b f;simp only[qY]at d;injection d with d;injection d with _ e;subst e;exact f
       |cons x l ih=>
        intro ys h q d k b f;simp only[qY]at d;split at d
        ·rename_i y h1 hc1;split at d
         ·rename_i r h2 hr;injection d with d
          injection d with _ e;subst e;exact p hc1 k b (ih _ _ _ hr k b f)
         ·cases d
        ·cases d
      unfold qa at d;split at d
      ·split at d
       ·rename_i l h2 hcs;injection d with d
        injection d with _ e;subst e;exact C _ _ _ _ hcs id b f
       ·cases d
      ·exact p d id b f
     have:=this b f;rw[E]at this;injection this with this
     rw[this]
    ·cases h
   ·simp only[o]at h;exact F x Y S (.refl hi) hx (fun h=>(o h).elim) (fun b f=>by rw[E]at f;injection f with f;rw[f]) h
  ·cases h
 ·cases h
end
variable{dr:Prop}
section
variable{P:Program}{w:World}{S:Nat->Prop}{G:Nat->GI}{Y:Hp}{Z:Nat}
theorem Vz{t:TypeId}{f o n:Nat}{b:Bool}(h:wG P t f=some (o,n,b)):∃(a:Array Field) (x:Field),P.underlying t=some (.struct a)/\a[f]?=some x/\x.offset=o/\qC P x.type=some n/\yr P x.type=some b:=by
 unfold wG at h;split at h
 ·rename_i a c;split at h
  ·rename_i x d;split at h
   ·rename_i l m e g;injection h with h
    injection h with i h;injection h with j k;subst i;subst j;subst k;exact⟨a,x,c,d,rfl,e,g⟩
   ·cases h
  ·cases h
 ·cases h
theorem iY(hi:Inv P w S G Y Z){t:TypeId}{f:Nat}{p x:O}{u:Value}(h:yY P t f p=some x)(Y':qb w S G Z p u):QH dr P w Y Z S G x Y Z ((Instr.fieldAt t u f).run P w):=by
 have a:∀{o n:Nat} {g:Bool} {ad:Addr},wG P t f=some (o,n,g)->n≠0->(Instr.fieldAt t (.pointer (some ad)) f).run P w=.ok (.pointer (some (ad.add o))) w:=by intro o n g ad b d;obtain⟨v,x,m,q,rfl,hs,_⟩:=Vz b;simp[Instr.fieldAt,zD m,q,Instr.sureAddr,fieldPlace,yd hs,d]
 unfold yY at h;split at h
 ·rename_i cs;split at h
  ·rename_i o n g b;split at h
   ·cases h
   ·rename_i d;injection h with h
    subst h;cases Y'.K4 with
    |ptr us r s=>
     refine qw hi (a b d) (.c (.ptr (fun j=>us (o+j)) (fun j k e=>?_) (fun j k e=>?_)))
     ·rw[qM]at e;rw[QP,cd];exact r _ k e
     ·rw[qM]at e;exact s _ k e
  ·cases h
 ·rename_i id i j;have l:=Y'.dH;obtain⟨hid,rfl⟩:=Y'.Wh;split at h
  ·rename_i o n g b;split at h
   ·cases h
   ·rename_i d;injection h with h
    subst h;refine qw hi (a b d) ?_;rw[j8,iR];exact .ref hid l
  ·cases h
 ·cases h
theorem Em(hi:Inv P w S G Y Z){t:TypeId}{f:Nat}{p x:O}{u:Value}(h:ZY P t f p=some x)(Y':qb w S G Z p u):QH dr P w Y Z S G x Y Z ((Instr.field t u f).run P w):=by
 unfold ZY at h;split at h
 ·rename_i cs;obtain⟨us,rfl,m,l⟩:=Y'.Wi;split at h
  ·rename_i o n d;split at h
   ·rename_i q;injection h with h
    subst h;obtain⟨r,x,e,g,rfl,hs,i⟩:=Vz d;refine qw (v:=.agg (us.extract x.offset (x.offset+n))) hi ?_ (.agg ?_ ?_)
    ·simp[Instr.field,zD e,g,asAgg,part,xr i,yd hs]
    ·simp;omega
    ·intro j s v a c;rw[qy]at a;split at a
     ·rw[qM]at a;rw[Array.getElem?_extract]at c;split at c
      ·exact l _ s v a c
      ·cases c
     ·cases a
   ·cases h
  ·rename_i o n d;obtain⟨r,y,e,g,rfl,hs,i⟩:=Vz d;have k:y.offset<us.size:=by rw[<-m];exact(zd.1 h).1
   have b:us[y.offset]?=some us[y.offset]:=by simp[k]
   refine qw (v:=us[y.offset]) hi ?_ (l _ x _ h b);simp[Instr.field,zD e,g,asAgg,part,xr i,b]
  ·cases h
 ·cases h
theorem kH{t e:TypeId}(h:ym P t=some e):P.underlying t=some (.slice e):=by
 unfold ym at h;split at h
 ·injection h with h;subst h;assumption
 ·cases h
theorem MU{t:TypeId}{m:Nat}{e:TypeId}(h:AV P t=some (m,e)):P.underlying t=some (.array m e):=by
 unfold AV at h;split at h
 ·injection h with h;injection h with a b;subst a;subst b;assumption
 ·cases h
theorem oN(hi:Inv P w S G Y Z){t:TypeId}{p x:O}{u:Value}{k:IntKind}{i:Int}(h:Zh P t i p=some x)(Y':qb w S G Z p u):QH dr P w Y Z S G x Y Z ((Instr.indexAt t u (.int k i)).run P w):=by
 unfold Zh at h;split at h
 ·rename_i m e z;have r:=MU z;split at h
  ·rename_i n y;split at h
   ·rename_i A;obtain⟨d,f⟩:=A;split at h
    ·rename_i cs;injection h with h
     subst h;cases Y'.K4 with
     |ptr us B C=>
      rename_i ad;refine qw (v:=.pointer (some (ad.add (i.toNat*n)))) hi ?_ (.c (.ptr (fun j=>us (i.toNat*n+j)) (fun j o l=>?_) (fun j o l=>?_)))
      ·simp[Instr.indexAt,zD r,asIntOf,d,f,Instr.sureAddr,yd y]
      ·rw[qM]at l;rw[QP,cd];exact B _ o l
      ·rw[qM]at l;exact C _ o l
    ·rename_i id a b;injection h with h
     subst h;have q:=Y'.dH;obtain⟨hid,rfl⟩:=Y'.Wh;refine qw (v:=.pointer (some ((⟨(G id).g,a*(G id).s+b,none⟩:Addr).add (i.toNat*n)))) hi ?_ ?_
     ·simp[Instr.indexAt,zD r,asIntOf,d,f,Instr.sureAddr,yd y]
     ·rw[j8,iR];exact .ref hid q
    ·cases h
   ·cases h
  ·cases h
 ·cases h
theorem iZ(hi:Inv P w S G Y Z){t:TypeId}{p q x:O}{u v:Value}(h:qJ P Y t p q=some x)(Y':qb w S G Z p u)(L:qb w S G Z q v):QH dr P w Y Z S G x Y Z ((Instr.indexAt t u v).run P w):=by
 unfold qJ at h;split at h
 ·rename_i k i;obtain⟨rfl,_⟩:=L.wY;split at h
  ·rename_i e M;have I:=kH M;split at h
   ·rename_i n s es hs;split at h
    ·rename_i r;obtain⟨rfl,N,d⟩:=r;cases a:es[i.toNat]? with
     |none=>simp[a]at h
     |some c=>
      simp[a]at h;subst h;cases Y'.ca with
      |sl us h0 h1 h2 y z J=>
       rename_i A cap;have Q:=y c (zz a);have R:i.toNat<es.length:=(zd.1 a).1;have B:c[0]?=some (c[0]'(by omega)):=zj (by omega);obtain⟨ad,rfl,hS,_⟩:=z i.toNat 0 c _ a B;have f:i<es.length:=by omega
       refine qw (v:=.pointer (some (ad.add (i.toNat*s)))) hi ?_ (.c (.ptr (fun j=>us i.toNat j) (fun j C D=>?_) (fun j C D=>J i.toNat j c C a D)))
       ·simp[Instr.indexAt,zD I,asIntOf,d,f,yd hs]
       ·obtain⟨T,E,K,F,_⟩:=z i.toNat j c C a D;injection E with E;subst E;rw[QP,cd];exact⟨K,F⟩
    ·cases h
   ·rename_i n id off m hs;split at h
    ·rename_i b W;split at h
     ·rename_i r;obtain⟨rfl,X,d,hik⟩:=r;injection h with h
      subst h;have l:=Y'.xg;obtain⟨cap,y,z,J,K,rfl⟩:=Y'.vE;have H:(G id).s=n:=by
       have:=(hi.live id b W).size l;have F:(P.info? b.e).map (·.size)=some n:=hs;rw[F]at this;injection this with this
       exact this.symm
      have o:i<m:=by omega
      refine qw (v:=.pointer (some ((⟨(G id).g,off*(G id).s,none⟩:Addr).add (i.toNat*n)))) hi ?_ ?_
      ·simp[Instr.indexAt,zD I,asIntOf,d,o,yd hs]
      ·rw[j8,<-H,<-qK];have:=qb.ref (w:=w) (S:=S) (G:=G) (Z:=Z) (id:=id) (i:=off+i.toNat) (j:=0) y l;simpa using this
     ·cases h
    ·cases h
   ·cases h
  ·exact oN hi h Y'
 ·cases h
theorem En(hi:Inv P w S G Y Z){t:TypeId}{p q x:O}{u v:Value}(h:QR P t p q=some x)(Y':qb w S G Z p u)(a:qb w S G Z q v):QH dr P w Y Z S G x Y Z ((Instr.index t u v).run P w):=by
 unfold QR at h;split at h
 ·rename_i s k i;obtain⟨rfl,_⟩:=a.wY;obtain⟨rfl,_⟩:=Y'.wY;split at h
  ·rename_i d;split at h
   ·rename_i e;split at h
    ·rename_i b f;injection h with h
     subst h;refine qw (v:=.int .u8 b.toNat) hi ?_ (.c (.v rfl));simp[Instr.index,zD d,asIntOf,e,f]
    ·cases h
   ·cases h
  ·cases h
 ·cases h
theorem sY(hi:Inv P w S G Y Z){vs:zb}{x:O}{i:Nat}{u:Value}(h:vs[i]?=some x)(Y':qb w S G Z (.wq vs) u):QH dr P w Y Z S G x Y Z ((Instr.extract u i).run P w):=by
 obtain⟨us,rfl,c,d⟩:=Y'.HT;have b:i<us.size:=by rw[<-c];exact(zd.1 h).1
 have a:us[i]?=some us[i]:=by simp[b]
 exact qw (v:=us[i]) hi (by simp[Instr.extract,a]) (d i x _ h a)
theorem xC(x:Value)(h:lit x=true):qb w S G Z (.v x) x:=.c (.v h)
theorem MV{op:BinOp}{k:IntKind}{a b:Int}{x:O}(h:MP op k a b=some x)(t:TypeId)(w:World):∃v,x=.v v/\lit v=true/\(binOp op t (.int k a) (.int k b)).run P w=.ok v w:=by
 unfold MP at h;split at h<;>(try (split at h))<;>first
  |(injection h with h;subst h;exact⟨_,rfl,rfl,by simp[binOp,Op.intArith,Op.intDiv,Op.intCmp,Op.intBits,Op.shift, *]⟩)
  |cases h
theorem MW{op:BinOp}{a b:ByteArray}{x:O}(h:MQ op a b=some x)(t:TypeId)(w:World):∃v,x=.v v/\lit v=true/\(binOp op t (.string a) (.string b)).run P w=.ok v w:=by
 have d:IntKind.i64.max=9223372036854775807:=by decide
 unfold MQ at h;split at h
 ·split at h
  ·rename_i c;injection h with h
   subst h;refine⟨_,rfl,rfl,?_⟩;have e:(a.size:Int)+(b.size:Int)<=9223372036854775807:=by simp only[maxLen]at c;omega
   simp[binOp,Op.stringOp,e]
  ·cases h
 all_goals first
  |(injection h with h;subst h;exact⟨_,rfl,rfl,by simp[binOp,Op.stringOp]⟩)
  |cases h
theorem Y7{op:BinOp}{t:TypeId}{x y:Operand}{a b:Value}(h:lit a=true)(c:a≠.nilIface)(w:World):(eqGuard op t x y a b).run P w=.ok () w:=by unfold eqGuard;cases op<;>simp<;>(cases a<;>cases b<;>simp_all[lit])
theorem GM{t:TypeId}{k:Nat}(h:H3 P t=some k):yr P t=some false:=by
 unfold H3 at h;unfold yr;split at h<;>first
  |(rename_i a;rw[a];rfl)
  |cases h
theorem ch(w:World)(d:Nat)(B C:Array Value):∀(D:List Field) (k:Nat) (N:List Nat) (E F:zb) (r:Bool),pV P k D=some N->wZ N E F=some r ->
  (∀(j:Nat) (t:O),E[j]?=some t->∃u,B[k+j]?=some u/\qb w S G Z t u)->(∀(j:Nat) (t:O),F[j]?=some t->∃u,C[k+j]?=some u/\qb w S G Z t u) ->
  (Op.eqFields (d+1) B C D).run P w=.ok r w
 |[],k,N,E,F,r,g,e,_,_=>by
  simp only[pV]at g;injection g with g
  subst g;simp only[wZ]at e;injection e with e
  subst e;simp[Op.eqFields]
 |f::D,k,N,E,F,r,g,e,W,X=>by
  simp only[pV]at g;split at g
  ·rename_i z;split at g
   ·rename_i tg i H h2;injection g with g
    subst g;have A:∀(p q:O) (x y:zb) (b s:Bool),E=p::x->F=q::y->(∀u v,qb w S G Z p u->qb w S G Z q v->(Op.equalIn (d+1) f.type u v).run P w=.ok b w)->wZ i x y=some s->r=(b&&s) ->
      (Op.eqFields (d+1) B C (f::D)).run P w=.ok r w:=by
     intro p q x y b s h e2 h3 h4 h5;subst h;subst e2;subst h5;obtain⟨u,I,Q⟩:=W 0 p rfl;obtain⟨v,J,R⟩:=X 0 q rfl;simp only[QE]at I J;have ha:=GM H;have Y1:(part f.type B f.offset).run P w=.ok u w:=by simp[part,xr ha,z.1,I]
     have Y2:(part f.type C f.offset).run P w=.ok v w:=by simp[part,xr ha,z.1,J]
     have ih:=ch w d B C D (k+1) i x y s h2 h4 (fun j t T=>by have:=W (j+1) t (by simpa using T);rwa [show k+(j+1)=k+1+j from by omega]at this) (fun j t T=>by have:=X (j+1) t (by simpa using T);rwa [show k+(j+1)=k+1+j from by omega]at this);cases b<;>simp[Op.eqFields,z.2,Y1,Y2,h3 u v Q R,ih]
    unfold wZ at e;unfold H3 at H;split at e
    ·simp_all
    ·rename_i K kk a l kk' b m h;injection h with h n
     subst h;subst n;split at e
     ·rename_i hk;subst hk;cases c:wZ i l m with
      |none=>simp[c]at e
      |some s=>
       simp[c]at e;refine A _ _ _ _ (a==b) s rfl rfl (fun u v L M=>?_) c e.symm;obtain⟨rfl,_⟩:=L.wY;obtain⟨rfl,_⟩:=M.wY;split at H<;>first
        |(rename_i o;simp[Op.equalIn,zD o];done)
        |simp_all
     ·cases e
    ·rename_i K a l b m h;injection h with h n
     subst h;subst n;cases c:wZ i l m with
     |none=>simp[c]at e
     |some s=>
      simp[c]at e;refine A _ _ _ _ (a==b) s rfl rfl (fun u v L M=>?_) c e.symm;obtain⟨rfl,_⟩:=L.wY;obtain⟨rfl,_⟩:=M.wY;split at H<;>first
       |(rename_i o;simp[Op.equalIn,zD o];done)
       |simp_all
    ·rename_i K a l b m h;injection h with h n
     subst h;subst n;cases c:wZ i l m with
     |none=>simp[c]at e
     |some s=>
      simp[c]at e;refine A _ _ _ _ (a==b) s rfl rfl (fun u v L M=>?_) c e.symm;obtain⟨rfl,_⟩:=L.wY;obtain⟨rfl,_⟩:=M.wY;split at H<;>first
       |(rename_i o;simp[Op.equalIn,zD o];done)
       |simp_all
    ·cases e
   ·cases g
  ·cases g
def eq1:Nat->O->O->Option Bool
 | 0,.v (.int k a),.v (.int c b)=>if k=c then some (a==b)else none
 | 1,.v (.bool a),.v (.bool b)=>some (a==b)
 | 2,.v (.string a),.v (.string b)=>some (a==b)
 |_,_,_=>none
theorem Kj(k:Nat)(a:List Nat)(b:zb):wZ (k::a) [] b=none:=by unfold wZ;split<;>first|rfl|simp_all
theorem Kk(k:Nat)(a:List Nat)(b:zb):wZ (k::a) b []=none:=by unfold wZ;split<;>first|rfl|simp_all
theorem W9(k:Nat)(c:List Nat)(p q:O)(d e:zb):wZ (k::c) (p::d) (q::e)=(eq1 k p q).bind fun b=>(wZ c d e).map (b&&·):=by
 match k with
 | 0=>
  cases p with
  |v x=>cases x with
   |int w a=>cases q with
    |v y=>cases y with
     |int w' b=>simp only[wZ,eq1];split<;>rfl
     |_=>rfl
    |_=>rfl
   |_=>rfl
  |_=>rfl
 | 1=>
  cases p with
  |v x=>cases x with
   |bool a=>cases q with
    |v y=>cases y<;>rfl
    |_=>rfl
   |_=>rfl
  |_=>rfl
 | 2=>
  cases p with
  |v x=>cases x with
   |string a=>cases q with
    |v y=>cases y<;>rfl
    |_=>rfl
   |_=>rfl
  |_=>rfl
 |k+3=>rfl
theorem VA:∀(a c:List Nat) (d e:zb) (r:Bool),wZ (a++c) d e=some r->∃f g,wZ a d e=some f/\wZ c (d.drop a.length) (e.drop a.length)=some g/\r=(f&&g)
 |[],c,d,e,r,h=>⟨true,r,rfl,h,rfl⟩
 |k::a,c,[],e,r,h=>by rw[qX,Kj]at h;cases h
 |k::a,c,p::d,[],r,h=>by rw[qX,Kk]at h;cases h
 |k::a,c,p::d,q::e,r,h=>by
  rw[qX,W9]at h;cases i:eq1 k p q with
  |none=>rw[i]at h;cases h
  |some b=>rw[i,z8]at h;obtain⟨j,l,rfl⟩:=Option.map_eq_some_iff.1 h;obtain⟨f,g,m,n,rfl⟩:=VA a c d e j l;exact⟨b&&f,g,by rw[W9,i,z8,m];rfl,n,by rw[Bool.and_assoc]⟩
theorem cj:∀(a:List Nat) (b c:zb),wZ a (b.take a.length) (c.take a.length)=wZ a b c
 |[],b,c=>by simp only[wZ]
 |k::a,[],c=>by rw[List.take_nil,Kj,Kj]
 |k::a,p::b,[]=>by rw[List.take_nil,Kk,Kk]
 |k::a,p::b,q::c=>by rw[z7,Zf,Zf,W9,W9,cj a b c]
theorem MX{t:TypeId}{b:List Nat}(h:subA P t=some b):∃a,P.underlying t=some (.struct a)/\pV P 0 a.toList=some b/\P.stoodInHeld t=false/\qC P t=some b.length:=by
 unfold subA at h;split at h
 ·cases h
 ·rename_i g;split at h
  ·rename_i a c;split at h
   ·rename_i d e;split at h
    ·rename_i f;injection h with h
     subst h;exact⟨a,c,e,by cases i:P.stoodInHeld t<;>simp_all,f⟩
    ·cases h
   ·cases h
  ·cases h
theorem Jo(w:World)(d:Nat)(s t:Array Value):∀(Q:List Field) (k:Nat) (ks:List Nat) (I J:zb) (r:Bool),pW P k Q=some ks->wZ ks I J=some r ->
  (∀(j:Nat) (c:O),I[j]?=some c->∃u,s[k+j]?=some u/\qb w S G Z c u)->(∀(j:Nat) (c:O),J[j]?=some c->∃u,t[k+j]?=some u/\qb w S G Z c u) ->
  (Op.eqFields (d+2) s t Q).run P w=.ok r w
 |[],k,ks,I,J,r,g,h,_,_=>by
  simp only[pW]at g;injection g with g
  subst g;simp only[wZ]at h;injection h with h
  subst h;simp[Op.eqFields]
 |f::Q,k,ks,I,J,r,g,h,hx,hy=>by
  simp only[pW]at g;split at g
  ·rename_i o;split at g
   ·rename_i tg R;split at g
    case h_2=>cases g
    rename_i l h2;injection g with g
    subst g;have K:∀(p q:O) (E F:zb) (b C:Bool),I=p::E->J=q::F->(∀u v,qb w S G Z p u->qb w S G Z q v->(Op.equalIn (d+2) f.type u v).run P w=.ok b w)->wZ l E F=some C->r=(b&&C) ->
      (Op.eqFields (d+2) s t (f::Q)).run P w=.ok r w:=by
     intro p q E F b C i e2 h3 h4 h5;subst i;subst e2;subst h5;obtain⟨u,m,x⟩:=hx 0 p rfl;obtain⟨v,T,hv2⟩:=hy 0 q rfl;simp only[QE]at m T;have ha:=GM R;have Y1:(part f.type s f.offset).run P w=.ok u w:=by simp[part,xr ha,o.1,m]
     have Y2:(part f.type t f.offset).run P w=.ok v w:=by simp[part,xr ha,o.1,T]
     have ih:=Jo w d s t Q (k+1) l E F C h2 h4 (fun j c D=>by have:=hx (j+1) c (by simpa using D);rwa [show k+(j+1)=k+1+j from by omega]at this) (fun j c D=>by have:=hy (j+1) c (by simpa using D);rwa [show k+(j+1)=k+1+j from by omega]at this);cases b<;>simp[Op.eqFields,o.2,Y1,Y2,h3 u v x hv2,ih]
    unfold wZ at h;unfold H3 at R;split at h
    ·simp_all
    ·rename_i W kk a y kk' b z i;injection i with i A
     subst i;subst A;split at h
     ·rename_i hk;subst hk;cases e:wZ l y z with
      |none=>simp[e]at h
      |some C=>
       simp[e]at h;refine K _ _ _ _ (a==b) C rfl rfl (fun u v X hv=>?_) e h.symm;obtain⟨rfl,_⟩:=X.wY;obtain⟨rfl,_⟩:=hv.wY;split at R<;>first
        |(rename_i B;simp[Op.equalIn,zD B];done)
        |simp_all
     ·cases h
    ·rename_i W a y b z i;injection i with i A
     subst i;subst A;cases e:wZ l y z with
     |none=>simp[e]at h
     |some C=>
      simp[e]at h;refine K _ _ _ _ (a==b) C rfl rfl (fun u v X hv=>?_) e h.symm;obtain⟨rfl,_⟩:=X.wY;obtain⟨rfl,_⟩:=hv.wY;split at R<;>first
       |(rename_i B;simp[Op.equalIn,zD B];done)
       |simp_all
    ·rename_i W a y b z i;injection i with i A
     subst i;subst A;cases e:wZ l y z with
     |none=>simp[e]at h
     |some C=>
      simp[e]at h;refine K _ _ _ _ (a==b) C rfl rfl (fun u v X hv=>?_) e h.symm;obtain⟨rfl,_⟩:=X.wY;obtain⟨rfl,_⟩:=hv.wY;split at R<;>first
       |(rename_i B;simp[Op.equalIn,zD B];done)
       |simp_all
    ·cases h
   ·split at g
    case h_2=>cases g
    rename_i n hs1;split at g
    case h_2=>cases g
    rename_i l h2;injection g with g
    subst g;obtain⟨r1,r2,i,e2,rfl⟩:=VA _ _ _ _ _ h;rw[<-cj]at i;obtain⟨gs,L,hgt,UR,hgn⟩:=MX hs1;have H:yr P f.type=some true:=by unfold yr;rw[L];rfl
    have hfo:P.fieldsOf f.type=gs:=by simp[Program.fieldsOf,L]
    have Y1:(part f.type s f.offset).run P w=.ok (.agg (s.extract k (k+n.length))) w:=by simp[part,xr H,o.1,yd hgn]
    have Y2:(part f.type t f.offset).run P w=.ok (.agg (t.extract k (k+n.length))) w:=by simp[part,xr H,o.1,yd hgn]
    have hin:∀(M:zb) (N:Array Value),(∀(j:Nat) (c:O),M[j]?=some c->∃u,N[k+j]?=some u/\qb w S G Z c u)->∀(j:Nat) (c:O),(M.take n.length)[j]?=some c->∃u,(N.extract k (k+n.length))[0+j]?=some u/\qb w S G Z c u:=by
     intro M N hz j c D;have hjl:j<n.length:=by have:=(zd.1 D).1;rw[yV]at this;omega
     rw[List.getElem?_take_of_lt hjl]at D;obtain⟨u,m,x⟩:=hz j c D;refine⟨u,?_,x⟩;rw[yl,Array.getElem?_extract];have hlt:=(zU.1 m).1;rw[zf (by omega)];exact m
    have hrun:(Op.equalIn (d+2) f.type (.agg (s.extract k (k+n.length))) (.agg (t.extract k (k+n.length)))).run P w=.ok r1 w:=by rw[run_equalIn_struct w (d+1) f.type _ _ (by rw[hfo];exact L) UR,hfo];exact ch w d _ _ gs.toList 0 n _ _ r1 hgt i (hin I s hx) (hin J t hy)
    have Gx:∀(M:zb) (N:Array Value),(∀(j:Nat) (c:O),M[j]?=some c->∃u,N[k+j]?=some u/\qb w S G Z c u)->∀(j:Nat) (c:O),(M.drop n.length)[j]?=some c->∃u,N[k+n.length+j]?=some u/\qb w S G Z c u:=by intro M N hz j c D;rw[qM]at D;obtain⟨u,m,x⟩:=hz (n.length+j) c D;exact⟨u,by rwa [show k+(n.length+j)=k+n.length+j by omega]at m,x⟩
    have ih:=Jo w d s t Q (k+n.length) l _ _ r2 h2 e2 (Gx I s hx) (Gx J t hy);cases r1<;>simp[Op.eqFields,o.2,Y1,Y2,hrun,ih]
  ·cases g
theorem ra{t:TypeId}{g:List Nat}{xs ys:zb}{r:Bool}{u v:Value}(b:GH P t=some g)(z:wZ g xs ys=some r)(A:qb w S G Z (.agg xs) u)(B:qb w S G Z (.agg ys) v) :
  (Op.equal t u v).run P w=.ok r w/\∀(op:BinOp) (x y:Operand),(eqGuard op t x y u v).run P w=.ok () w:=by
 obtain⟨e,rfl,i,k⟩:=A.Wi;obtain⟨f,rfl,l,m⟩:=B.Wi;unfold GH at b;split at b
 ·cases b
 ·rename_i C;have n:P.stoodInHeld t=false:=by cases h:P.stoodInHeld t<;>simp_all
  have o:P.eqGuardType P.depth t=false:=by cases h:P.eqGuardType P.depth t<;>simp_all
  split at b
  ·rename_i q s;have c:P.fieldsOf t=q:=by simp[Program.fieldsOf,s]
   constructor
   ·unfold Op.equal Op.maxDepth;rw[show(10000:Nat)=9999+1 from rfl,run_equalIn_struct w 9999 t e f (by rw[c];exact s) n,c];exact Jo w 9997 e f q.toList 0 g xs ys r b z
     (fun j p d=>by
      have a:j<e.size:=by rw[<-i];exact(zd.1 d).1
      exact⟨e[j],by simp[a],k j p _ d (by simp[a])⟩)
     (fun j p d=>by
      have a:j<f.size:=by rw[<-l];exact(zd.1 d).1
      exact⟨f[j],by simp[a],m j p _ d (by simp[a])⟩)
   ·intro op x y;unfold eqGuard;cases op<;>simp[o]
  ·cases b
theorem lf{t:TypeId}(a b:Bool)(c:P.underlying t=some .bool)(w:World):(Op.equal t (.bool a) (.bool b)).run P w=.ok (a==b) w:=by
 have h:∀d:Nat,(Op.equalIn (d+1) t (.bool a) (.bool b)).run P w=.ok (a==b) w:=fun d=>by simp only[Op.equalIn,vM,zD c,km,WC]
 exact h 9999
theorem rb{t e:TypeId}(A:Option Addr)(n c:Nat)(a:P.underlying t=some (.slice e))(w:World):(Op.equal t (.slice A n c) (.slice none 0 0)).run P w=.ok A.isNone w:=by
 have h:∀d:Nat,(Op.equalIn (d+1) t (.slice A n c) (.slice none 0 0)).run P w=.ok A.isNone w:=fun d=>by cases A<;>simp only[Op.equalIn,vM,zD a,km,WC]<;>rfl
 exact h 9999
theorem re{p:O}{u:Value}{r:Bool}(h:ZL p=some r)(b:qb w S G Z p u):∃A n c,u=.slice A n c/\A.isNone=r:=by
 unfold ZL at h;split at h
 ·injection h with h;subst h;exact⟨none,0,0,b.Zp,rfl⟩
 ·injection h with h;subst h;obtain⟨ad,cap,rfl,_⟩:=b.oF;exact⟨_,_,_,rfl,rfl⟩
 ·injection h with h;subst h;obtain⟨cap,_,_,_,_,rfl⟩:=b.vE;exact⟨_,_,_,rfl,rfl⟩
 ·rename_i s c es;injection h with h;subst h
  cases b.ca with
  |sl us d e f g i j=>
   rename_i A cap;cases A with
   |none=>have:=d rfl;subst this;simp at e
   |some a=>exact⟨_,_,_,rfl,rfl⟩
 ·cases h
theorem Eo(hi:Inv P w S G Y Z){op:BinOp}{t:TypeId}{p q x:O}{u v:Value}(B C:Operand)(h:xV P op t p q=some x)(f:qb w S G Z p u)(g:qb w S G Z q v) :
  QH dr P w Y Z S G x Y Z ((do eqGuard op t B C u v;binOp op t u v:Sem Value).run P w):=by
 unfold xV at h;split at h
 ·rename_i k a H b;obtain⟨rfl,_⟩:=f.wY;obtain⟨rfl,_⟩:=g.wY;split at h
  ·rename_i D;subst D;obtain⟨r,rfl,j,l⟩:=MV (P:=P) h t w;exact qw (v:=r) hi (by simp[Y7 (a:=.int k a) rfl (by simp) w,l]) (xC r j)
  ·cases h
 ·rename_i a b;obtain⟨rfl,_⟩:=f.wY;obtain⟨rfl,_⟩:=g.wY;obtain⟨r,rfl,j,l⟩:=MW (P:=P) h t w;exact qw (v:=r) hi (by simp[Y7 (a:=.string a) rfl (by simp) w,l]) (xC r j)
 ·rename_i a b;obtain⟨rfl,_⟩:=f.wY;obtain⟨rfl,_⟩:=g.wY;split at h
  ·rename_i i;injection h with h
   subst h;refine qw (v:=.bool (a==b)) hi ?_ (xC _ rfl);simp only[vM,Y7 (a:=.bool a) rfl (by simp) w,km,binOp,lf a b i,WC]
  ·rename_i i;injection h with h
   subst h;refine qw (v:=.bool (!(a==b))) hi ?_ (xC _ rfl);simp only[vM,Y7 (a:=.bool a) rfl (by simp) w,km,binOp,lf a b i,WC]
  ·cases h
 ·rename_i xs ys;split at h
  ·rename_i y z;split at h
   ·cases d:wZ y xs ys with
    |none=>simp[d]at h
    |some r=>simp[d]at h;subst h;obtain⟨m,o⟩:=ra z d f g;obtain⟨E,rfl,_,_⟩:=f.Wi;obtain⟨F,rfl,_,_⟩:=g.Wi;exact qw (v:=.bool r) hi (by simp[o,binOp,m]) (xC _ rfl)
   ·cases d:wZ y xs ys with
    |none=>simp[d]at h
    |some r=>simp[d]at h;subst h;obtain⟨m,o⟩:=ra z d f g;obtain⟨E,rfl,_,_⟩:=f.Wi;obtain⟨F,rfl,_,_⟩:=g.Wi;exact qw (v:=.bool !r) hi (by simp[o,binOp,m]) (xC _ rfl)
   ·cases h
  ·cases h
 ·have:=g.Zp;subst this;split at h
  ·rename_i e r d s;injection h with h
   subst h;obtain⟨A,n,c,rfl,rfl⟩:=re s f;refine qw (v:=.bool A.isNone) hi ?_ (xC _ rfl);simp only[vM,eqGuard,binOp,rb A n c (kH d),WC,km];simp
  ·rename_i e r d s;injection h with h
   subst h;obtain⟨A,n,c,rfl,rfl⟩:=re s f;refine qw (v:=.bool !A.isNone) hi ?_ (xC _ rfl);simp only[vM,eqGuard,binOp,rb A n c (kH d),WC,km];simp
  ·cases h
 ·cases h
theorem H4(hi:Inv P w S G Y Z){op:BinOp}{t:TypeId}{p q x:O}{u v:Value}(f a:Operand)(h:Vw (isK a) P op t p q=some x)(g:qb w S G Z p u)(i:qb w S G Z q v) :
  QH dr P w Y Z S G x Y Z ((do eqGuard op t f a u v;binOp op t u v:Sem Value).run P w):=by
 unfold Vw at h;split at h
 ·rename_i k;obtain⟨rfl,_⟩:=g.wY;obtain⟨rfl,_⟩:=i.wY;obtain⟨c,rfl⟩:∃c,a=.const c:=by cases a<;>first|exact⟨_,rfl⟩|(simp[isK]at k)
  unfold GJ at h;split at h
  ·rename_i b;unfold Ei at b;split at b
   ·rename_i l e;have j:(Op.equal t .nilIface .nilIface).run P w=.ok true w:=by
     have h:∀d:Nat,(Op.equalIn (d+1) t .nilIface .nilIface).run P w=.ok true w:=fun d=>by simp only[Op.equalIn,vM,zD e,km,WC]
     exact h 9999
    split at h
    ·injection h with h;subst h;refine qw (v:=.bool true) hi ?_ (xC _ rfl);simp[eqGuard,binOp,j,Result.andThen]
    ·injection h with h;subst h;refine qw (v:=.bool false) hi ?_ (xC _ rfl);simp[eqGuard,binOp,j,Result.andThen]
    ·cases h
   ·cases b
  ·cases h
 ·exact Eo hi f a h g i
theorem H5(hi:Inv P w S G Y Z){op:UnOp}{p x:O}{u:Value}(h:RM op p=some x)(a:qb w S G Z p u):QH dr P w Y Z S G x Y Z ((Op.unary op u).run P w):=by
 unfold RM at h;split at h
 ·obtain⟨rfl,_⟩:=a.wY;split at h
  ·injection h with h;subst h;exact qw (v:=_) hi (by simp[Op.unary]) (xC _ rfl)
  ·cases h
 ·obtain⟨rfl,_⟩:=a.wY;split at h
  ·injection h with h;subst h;exact qw (v:=_) hi (by simp[Op.unary,Op.intArith]) (xC _ rfl)
  ·cases h
 ·cases h
theorem H6(hi:Inv P w S G Y Z){a dst:TypeId}{p x:O}{u:Value}(h:az P a dst p=some x)(e:qb w S G Z p u):QH dr P w Y Z S G x Y Z ((convert a dst u).run P w):=by
 unfold az at h;split at h
 ·obtain⟨rfl,_⟩:=e.wY;split at h
  ·rename_i d k b c;injection h with h
   subst h;exact qw (v:=_) hi (by simp[convert,zD b,zD c,Conv.intToInt]) (xC _ rfl)
  ·cases h
 ·obtain⟨rfl,_⟩:=e.wY;split at h
  ·rename_i d b c;injection h with h
   subst h;exact qw (v:=_) hi (by simp[convert,zD b,zD c]) (xC _ rfl)
  ·cases h
 ·cases h
end
end Go.AM
