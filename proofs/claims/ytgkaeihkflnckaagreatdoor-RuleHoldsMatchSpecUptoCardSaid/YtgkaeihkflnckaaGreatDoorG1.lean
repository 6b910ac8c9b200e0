/- Lemmas. -/
import Derived.WalkKit
import Derived.ChangeAgain
import Derived.Lib.ItoaNum
import Derived.Test.YtgkaeihkflnckaaGreatDoorG0
set_option maxRecDepth 8000
set_option maxHeartbeats 4000000
open Go Proofs Proofs.YtgkaeihkflnckaaGreatDoor Proofs.Tryz RowKit AM SpanLaw Q Zz
namespace Go.AM
variable{dr:Prop}
inductive O where
 |v (x:Value)
 |nil
 |agg (cs:List O)
 |wG (cs:List O)
 |sl (s:Nat) (es:List (List O))
 |em
 |ptr (cs:List O)
 |own (id off n:Nat)
 |ref (id i j:Nat)
 |mp (id:Nat)
 |fn (f:Fn) (first captured:List O)
def lit:Value->Bool
 | .bool _|.int _ _|.string _|.nilFunc|.pointer none|.nilIface|.map none|.slice (some _) 0 0=>true
 |_=>false
def O.wZ:O->Bool
 | .agg _|.wG _=>false
 |_=>true
inductive wJ (w:World) (S:Nat->Prop):O->Value->Prop
 |v {x:Value}:lit x=true->wJ w S (.v x) x
 |nil:wJ w S .nil (.slice none 0 0)
 |em {ad:Addr} {cap:Nat}:cap<=maxLen->wJ w S .em (.slice (some ad) 0 cap)
 |agg {cs:List O} {us:Array Value}:cs.length=us.size->(∀(j:Nat) (pv:O) (u:Value),cs[j]?=some pv->us[j]?=some u->wJ w S pv u)->wJ w S (.agg cs) (.agg us)
 |wG {cs:List O} {us:Array Value}:cs.length=us.size->(∀(j:Nat) (pv:O) (u:Value),cs[j]?=some pv->us[j]?=some u->wJ w S pv u)->wJ w S (.wG cs) (.tuple us)
 |sl {es:List (List O)} {A:Option Addr} {cap s:Nat} (us:Nat->Nat->Value):(A=none->cap=0)->es.length<=cap->cap<=maxLen->(∀c∈es,c.length=s) ->
   (∀(i j:Nat) (c:List O) (pv:O),es[i]?=some c->c[j]?=some pv->∃ad,A=some ad/\S ad.block/\w.cell? (ad.add (i*s+j))=some (us i j)/\(us i j).oneCell'=true) ->
   (∀(i j:Nat) (c:List O) (pv:O),es[i]?=some c->c[j]?=some pv->wJ w S pv (us i j))->wJ w S (.sl s es) (.slice A es.length cap)
 |ptr {cs:List O} {ad:Addr} (us:Nat->Value):(∀(j:Nat) (pv:O),cs[j]?=some pv->S ad.block/\w.cell? (ad.add j)=some (us j)) ->
   (∀(j:Nat) (pv:O),cs[j]?=some pv->wJ w S pv (us j))->wJ w S (.ptr cs) (.pointer (some ad))
 |fn {f:Fn} {xs ys:List O} {us ts:Array Value}:xs.length=us.size->ys.length=ts.size->(∀(j:Nat) (pv:O) (u:Value),xs[j]?=some pv->us[j]?=some u->wJ w S pv u) ->
   (∀(j:Nat) (pv:O) (u:Value),ys[j]?=some pv->ts[j]?=some u->wJ w S pv u)->wJ w S (.fn f xs ys) (.func f us ts)
structure GI where
 g:Nat
 z:Nat
 s:Nat
inductive qf (w:World) (S:Nat->Prop) (G:Nat->GI) (Z:Nat):O->Value->Prop
 |c {pv:O} {x:Value}:wJ w S pv x->qf w S G Z pv x
 |own {id off n cap:Nat}:id<Z->n<=cap->cap<=maxLen->(off+cap)*(G id).s=(G id).z->0<(G id).s->qf w S G Z (.own id off n) (.slice (some ⟨(G id).g,off*(G id).s,none⟩) n cap)
 |ref {id i j:Nat}:id<Z->0<(G id).s->qf w S G Z (.ref id i j) (.pointer (some ⟨(G id).g,i*(G id).s+j,none⟩))
 |mp {id:Nat}:id<Z->(G id).s=0->qf w S G Z (.mp id) (.map (some (G id).g))
 |agg {cs:List O} {us:Array Value}:cs.length=us.size->(∀(j:Nat) (pv:O) (u:Value),cs[j]?=some pv->us[j]?=some u->qf w S G Z pv u)->qf w S G Z (.agg cs) (.agg us)
 |wG {cs:List O} {us:Array Value}:cs.length=us.size->(∀(j:Nat) (pv:O) (u:Value),cs[j]?=some pv->us[j]?=some u->qf w S G Z pv u)->qf w S G Z (.wG cs) (.tuple us)
 |fn {f:Fn} {xs ys:List O} {us ts:Array Value}:xs.length=us.size->ys.length=ts.size->(∀(j:Nat) (pv:O) (u:Value),xs[j]?=some pv->us[j]?=some u->qf w S G Z pv u) ->
   (∀(j:Nat) (pv:O) (u:Value),ys[j]?=some pv->ts[j]?=some u->qf w S G Z pv u)->qf w S G Z (.fn f xs ys) (.func f us ts)
theorem QT(a:Addr)(n:Nat):(a.add n).block=a.block:=by unfold Addr.add;split<;>rfl
theorem ck(a:Addr)(i j:Nat):(a.add i).add j=a.add (i+j):=by unfold Addr.add;by_cases hi:i=0<;>by_cases b:j=0<;>simp[hi,b,lv]
theorem wJ.mono{w w':World}{S p:Nat->Prop}{d:O}{x:Value}(h:wJ w S d x)(g:∀b,S b->p b/\w'.heap[b]?=w.heap[b]?):wJ w' p d x:=by
 induction h with
 |v h=>exact .v h
 |nil=>exact .nil
 |em h=>exact .em h
 |agg k _ a=>exact .agg k a
 |wG k _ a=>exact .wG k a
 |sl us q f l r s _ a=>refine .sl us q f l r (fun i j c d hi m=>?_) a;obtain⟨ad,e,hs,n,o⟩:=s i j c d hi m;refine⟨ad,e,(g _ hs).1,?_,o⟩;rw[<-n];apply XA;rw[QT];exact(g _ hs).2
 |ptr us f _ a=>refine .ptr us (fun j d m=>?_) a;obtain⟨hs,n⟩:=f j d m;refine⟨(g _ hs).1,?_⟩;rw[<-n];apply XA;rw[QT];exact(g _ hs).2
 |fn f l _ _ t u=>exact .fn f l t u
theorem qf.mono{w w':World}{S i:Nat->Prop}{G j:Nat->GI}{Z k:Nat}{l:O}{x:Value}(h:qf w S G Z l x)(o:∀b,S b->i b/\w'.heap[b]?=w.heap[b]?)
  (s:Z<=k) (e:∀id,id<Z->j id=G id):qf w' i j k l x:=by
 induction h with
 |c h=>exact .c (h.mono o)
 |own d a p m n=>rw[<-e _ d]at m n⊢;exact .own (by omega) a p m n
 |ref d a=>rw[<-e _ d]at a⊢;exact .ref (by omega) a
 |mp d a=>rw[<-e _ d]at a⊢;exact .mp (by omega) a
 |agg f _ g=>exact .agg f g
 |wG f _ g=>exact .wG f g
 |fn d a _ _ q r=>exact .fn d a q r
theorem wJ.Va{w:World}{S:Nat->Prop}{a:O}{x:Value}(h:wJ w S a x)(b:a.wZ=true):x.oneCell'=true:=by
 cases h with
 |v h=>cases x<;>simp_all[lit,Value.oneCell']
 |agg=>simp[O.wZ]at b
 |wG=>simp[O.wZ]at b
 |_=>rfl
theorem qf.Va{w:World}{S:Nat->Prop}{G:Nat->GI}{Z:Nat}{b:O}{x:Value}(h:qf w S G Z b x)(a:b.wZ=true):x.oneCell'=true:=by
 cases h with
 |c h=>exact h.Va a
 |agg=>simp[O.wZ]at a
 |wG=>simp[O.wZ]at a
 |_=>rfl
structure kv where
 e:TypeId
 s:Nat
 arr:Bool
 es:List (List O)
abbrev Hp:=Nat->Option kv
def qv{α:Type}(f:Nat->α)(k:Nat)(x:α):Nat->α:=fun i=>if i=k then x else f i
@[simp]theorem wQ{α:Type}(f:Nat->α)(k:Nat)(x:α):qv f k x k=x:=by simp[qv]
theorem qO{α:Type}(f:Nat->α)(k i:Nat)(x:α)(h:i≠k):qv f k x i=f i:=by simp[qv,h]
def jl(w:World)(S:Nat->Prop)(G:Nat->GI)(Z:Nat)(a:Bool)(b:O)(u:Value):Prop:=
 (a=true->wJ w S b u)/\qf w S G Z b u/\u.oneCell'=true
structure Es (P:Program) (w:World) (S:Nat->Prop) (G:Nat->GI) (Z:Nat) (gi:GI) (b:kv):Prop where
 size:(P.info? b.e).map (·.size)=some gi.s
 len:∀c∈b.es,c.length=gi.s
 fit:b.es.length*gi.s<=gi.z
 row:∃cur:Array Value,w.heap[gi.g]?=some (.cells cur b.e (0,0))/\cur.size=gi.z /\
  ∀(i j:Nat) (c:List O) (pv:O),b.es[i]?=some c->c[j]?=some pv->∃u,cur[i*gi.s+j]?=some u/\jl w S G Z b.arr pv u
def YU(w:World)(S:Nat->Prop)(c:List O)(e:MapEntry):Prop:=∃(k:Value) (a:O),c=[.v k,a]/\e.key=k/\lit k=true/\wJ w S a e.val
def Stamped(en:Array MapEntry)(a:Nat):Prop:=(∀x∈en.toList,x.born<a)/\(en.toList.map (·.born)).Nodup
structure zdi (w:World) (S:Nat->Prop) (gi:GI) (b:kv):Prop where
 row:∃(en:Array MapEntry) (clock:Nat),w.heap[gi.g]?=some (.map en clock)/\en.size=b.es.length/\∀(i:Nat) (c:List O) (e:MapEntry),b.es[i]?=some c->en[i]?=some e->YU w S c e
 Sl:∃(en:Array MapEntry) (clock:Nat),w.heap[gi.g]?=some (.map en clock)/\Stamped en clock
structure vT (P:Program) (w:World) (S:Nat->Prop) (G:Nat->GI) (Z:Nat) (gi:GI) (b:kv):Prop where
 bs:b.s=gi.s
 cel:0<gi.s->Es P w S G Z gi b
 ent:gi.s=0->zdi w S gi b
theorem vT.size{P:Program}{w:World}{S:Nat->Prop}{G:Nat->GI}{Z:Nat}{a:GI}{b:kv}(h:vT P w S G Z a b)(c:0<a.s):(P.info? b.e).map (·.size)=some a.s:=(h.cel c).size
theorem vT.len{P:Program}{w:World}{S:Nat->Prop}{G:Nat->GI}{Z:Nat}{a:GI}{b:kv}(h:vT P w S G Z a b)(d:0<a.s):∀c∈b.es,c.length=a.s:=(h.cel d).len
theorem vT.fit{P:Program}{w:World}{S:Nat->Prop}{G:Nat->GI}{Z:Nat}{a:GI}{b:kv}(h:vT P w S G Z a b)(c:0<a.s):b.es.length*a.s<=a.z:=(h.cel c).fit
theorem vT.row{P:Program}{w:World}{S:Nat->Prop}{G:Nat->GI}{Z:Nat}{d:GI}{b:kv}(h:vT P w S G Z d b)(k:0<d.s):∃a:Array Value,w.heap[d.g]?=some (.cells a b.e (0,0))/\a.size=d.z /\
  ∀(i j:Nat) (c:List O) (f:O),b.es[i]?=some c->c[j]?=some f->∃u,a[i*d.s+j]?=some u/\jl w S G Z b.arr f u:=(h.cel k).row
theorem vT.vJ{P:Program}{w:World}{S:Nat->Prop}{G:Nat->GI}{Z:Nat}{a:GI}{b:kv}(d:0<a.s)(c:b.s=a.s)(h:Es P w S G Z a b):vT P w S G Z a b:=
 ⟨c,fun _=>h,fun e=>by omega⟩
def Nu(P:Program)(g:Nat):Prop:=g<P.globals.size/\∃zero t,((begin P (fun _ _=>0) default).world.heap[g]?).bind Obj.row?=some (zero,t)/\zero.size=1/\P.buildable t=true/\P.cellTypes P.depth t=some [t]/\P.underlying t=some (.int .i64)
def JK:List (Nat×IntKind×List Int):=[]++[(5,.u64,Lib.pow10Tab)]
def A5(w:World)(S:Nat->Prop)(t:Nat×IntKind×List Int):Prop:=S t.1/\∃ty a,w.heap[t.1]?=some (.cells (t.2.2.map fun z=>Value.int t.2.1 z).toArray ty a)
def IE(P:Program)(w:World)(S:Nat->Prop):Prop:=(∀g,Nu P g->S g/\∃m,w.cell? ⟨g,0,none⟩=some (.int .i64 m))/\∀t∈JK,A5 w S t
theorem IE.mono{P:Program}{w w':World}{S e:Nat->Prop}(h:IE P w S)(c:∀b,S b->e b/\w'.heap[b]?=w.heap[b]?):IE P w' e:=by
 refine⟨fun g f=>?_,fun t i=>?_⟩
 ·obtain⟨a,m,d⟩:=h.1 g f;refine⟨(c g a).1,m,?_⟩;rw[<-d];exact XA (c g a).2
 ·obtain⟨a,ty,j,d⟩:=h.2 t i;exact⟨(c _ a).1,ty,j,(c _ a).2.trans d⟩
theorem Hv{w:World}{a:Addr}{v:Value}(h:w.cell? a=some v):a.block<w.heap.size:=by
 unfold World.cell? at h;split at h
 ·rename_i b;exact(qg.1 b).1
 ·cases h
theorem IE.Sm{P:Program}{w:World}(h:w.ShapedOpen P)(j:∀t∈JK,A5 w (fun b=>b<w.heap.size) t):IE P w (fun b=>b<w.heap.size):=by
 refine⟨?_,j⟩;rintro g ⟨k,zero,t,l,s,m,n,o⟩;obtain⟨cs,p,hs,q⟩:=h.1 g zero t k l;obtain⟨ts,d,_,e⟩:=q m;rw[n]at d;cases d;have i:0<cs.size:=by omega
 obtain⟨u,f,c⟩:=e 0 cs[0] (by simp[i]);have:u=t:=by simpa using f.symm
 subst this;have a:w.cell? ⟨g,0,none⟩=some cs[0]:=by simp[World.cell?,p,i]
 refine⟨Hv a,?_⟩;rw[a];unfold Cell.ok at c;rw[o]at c;cases r:cs[0]<;>rw[r]at c<;>simp_all
structure Inv (P:Program) (w:World) (S:Nat->Prop) (G:Nat->GI) (Y:Hp) (Z:Nat):Prop where
 st:∀b,S b->b<w.heap.size
 top:∀id b,Y id=some b->id<Z
 live:∀id b,Y id=some b->vT P w S G Z (G id) b
 apart:∀id b,Y id=some b->¬S (G id).g
 inj:∀id id' b b',Y id=some b->Y id'=some b'->(G id).g=(G id').g->id=id'
 iQ:IE P w S
theorem vT.lt{P:Program}{w:World}{S:Nat->Prop}{G:Nat->GI}{Z:Nat}{a:GI}{b:kv}(h:vT P w S G Z a b):a.g<w.heap.size:=by
 rcases Nat.eq_zero_or_pos a.s with c|c
 ·obtain⟨en,d,e,_⟩:=(h.ent c).row;exact(qg.1 e).1
 ·obtain⟨f,e,_⟩:=h.row c;exact(qg.1 e).1
theorem jl.mono{w w':World}{S c:Nat->Prop}{G d:Nat->GI}{Z e:Nat}{a:Bool}{f:O}{u:Value}(h:jl w S G Z a f u)(g:∀b,S b->c b/\w'.heap[b]?=w.heap[b]?)
  (i:Z<=e) (j:∀id,id<Z->d id=G id):jl w' c d e a f u:=
 ⟨fun k=>(h.1 k).mono g,h.2.1.mono g i j,h.2.2⟩
theorem vT.mono{P:Program}{w w':World}{S r:Nat->Prop}{G s:Nat->GI}{Z t:Nat}{m:GI}{b:kv}(h:vT P w S G Z m b)(v:∀b,S b->r b/\w'.heap[b]?=w.heap[b]?)
  (x:Z<=t) (y:∀id,id<Z->s id=G id) (n:w'.heap[m.g]?=w.heap[m.g]?):vT P w' r s t m b:=by
 refine⟨h.bs,fun d=>⟨h.size d,h.len d,h.fit d,?_⟩,fun d=>⟨?_,?_⟩⟩
 ·obtain⟨o,f,l,p⟩:=h.row d;refine⟨o,n.trans f,l,fun i j c q hi z=>?_⟩;obtain⟨u,A,B⟩:=p i j c q hi z;exact⟨u,A,B.mono v x y⟩
 ·obtain⟨en,a,f,l,p⟩:=(h.ent d).row;refine⟨en,a,n.trans f,l,fun i c e hi C=>?_⟩;obtain⟨k,q,D,E,F,H⟩:=p i c e hi C;exact⟨k,q,D,E,F,H.mono v⟩
 ·obtain⟨en,a,f,l⟩:=(h.ent d).Sl;exact⟨en,a,n.trans f,l⟩
structure Fr (dr:Prop) (w:World) (L:Nat->Prop) (w':World):Prop where
 os:w'.os=w.os
 tape:w'.tape=w.tape
 output:w'.output=w.output
 size:w.heap.size<=w'.heap.size
 drawn:dr->w.drawn<=w'.drawn
 block:∀k,k<w.heap.size->¬L k->w'.heap[k]?=w.heap[k]?
theorem Fr.refl(w:World)(L:Nat->Prop):Fr dr w L w:=⟨rfl,rfl,rfl,zf _,fun _=>zf _,fun _ _ _=>rfl⟩
theorem Fr.trans{w w' c:World}{L:Nat->Prop}(h:Fr dr w L w'){f:Nat->Prop}(a:Fr dr w' f c)(i:∀b,b<w.heap.size->f b->L b):Fr dr w L c:=
 ⟨a.os.trans h.os,a.tape.trans h.tape,a.output.trans h.output,zw h.size a.size,fun d=>zw (h.drawn d) (a.drawn d),fun k e g=>(a.block k (yb e h.size) (fun j=>g (i k e j))).trans (h.block k e g)⟩
theorem Fr.drew(w:World)(L:Nat->Prop):Fr dr w L w.drew:=⟨rfl,rfl,rfl,zf _,fun _=>Zp _,fun _ _ _=>rfl⟩
structure St where
 U:Nat->O
 Y:Hp
 Z:Nat
def ie(D:Nat):Deferred:={target:=.collected D,args:=#[]}
def Marks(c:Nat)(w:World)(S:Nat->Prop)(Y:Hp)(G:Nat->GI)(ds:List Deferred):Prop:=c<=w.heap.size/\∃a:List Nat,ds=a.map ie/\a.Nodup/\∀D∈a,c<=D/\w.heap[D]?=some (.deferred (some []))/\¬S D/\∀id b,Y id=some b->(G id).g≠D
theorem Marks.nil{a:Nat}{w:World}{S:Nat->Prop}{Y:Hp}{G:Nat->GI}(h:a<=w.heap.size):Marks a w S Y G []:=⟨h,[],rfl,by simp,by simp⟩
structure vj (dr:Prop) (P:Program) (w0:World) (S0 L:Nat->Prop) (N Z0:Nat) (G0:Nat->GI) (n0:Nat) (st:St) (S:Nat->Prop) (G:Nat->GI) (a:Act) (w:World):Prop where
 inv:Inv P w S G st.Y st.Z
 jQ:∀t,qf w S G st.Z (st.U t) (a.tmps.getD t undef)
 size:a.tmps.size=N
 defers:Marks n0 w S st.Y G a.defers
 s0:∀b,S0 b->S b
 s1:∀b,S b->S0 b\/L b\/w0.heap.size<=b
 own:∀id b,st.Y id=some b->L (G id).g\/w0.heap.size<=(G id).g
 fr:Fr dr w0 L w
 up:Z0<=st.Z
 loc:∀id,id<Z0->G id=G0 id
def iR(dr:Prop)(P:Program)(b:World)(c L:Nat->Prop)(N Z0:Nat)(d:Nat->GI)(e:Nat)(st:St)(a:Act)(w:World):Prop:=∃S G,vj dr P b c L N Z0 d e st S G a w
theorem jc{α:Sort _}(a:α):∃x,a=x:=⟨_,rfl⟩
theorem Za{a:Int}(h:¬a=0):(a != 0)=true:=by simpa using h
theorem wU{α:Type}[BEq α][LawfulBEq α]{a b:α}(h:¬a=b):(a==b)=false:=by simpa using h
abbrev zb:=List O
abbrev Spec:=zb->Hp->Nat->Option (O×Hp×Nat)
abbrev Qi:=zb->Hp->Option (zb×Hp)
structure Ctx where
 P:Program
 Γ:FuncId->Option Spec
 dyn:Nat->List (Tmp×Tmp):=fun _=>[]
 Ns:Nat->List Tmp:=fun _=>[]
 bk:FuncId->Bool:=fun _=>false
 fz:Nat->List Tmp:=fun _=>[]
 it:FuncId->Option Qi:=fun _=>none
def tp(st:St)(a b:Tmp):Prop:=∀id i j,st.U a=.ref id i j->∃id' i' j' blk,st.U b=.ref id' i' j'/\id≠id'/\st.Y id'=some blk/\blk.arr=false
def WQ(D:List (Tmp×Tmp))(st:St):Prop:=∀p∈D,tp st p.1 p.2
def O.Yd:O->Bool
 | .v _|.nil|.em|.sl _ _|.ptr _=>true
 |_=>false
def O.shut:O->Bool
 | .agg cs=>cs.all O.Yd
 |x=>x.Yd
def O.YV:O->Bool
 | .wG _=>true
 |x=>x.shut
abbrev zB:Nat:=1000000
def zaQ(L:List Tmp)(st:St):Prop:=∀s∈L,(∀id o n,st.U s≠.own id o n)/\∀id i j,st.U s=.ref id i j->id<st.Z/\∃blk,st.Y id=some blk/\blk.arr=false
def Z6(L:List Tmp)(st:St):Prop:=∀s∈L,((∀id o n,st.U s≠.own id o n)/\∀id i j,st.U s=.ref id i j->id<st.Z/\∃blk,st.Y id=some blk/\blk.arr=false)/\(zB<=s->(st.U (s-zB)).YV=true)
def ei:Value->Option O
 | .slice none 0 0=>some .nil
 | .bool b=>some (.v (.bool b))
 | .int k n=>some (.v (.int k n))
 | .string s=>some (.v (.string s))
 | .nilFunc=>some (.v .nilFunc)
 | .pointer none=>some (.v (.pointer none))
 | .nilIface=>some (.v .nilIface)
 | .map none=>some (.v (.map none))
 |_=>none
def vJ:List Value->Option zb
 |[]=>some []
 |x::l=>match ei x,vJ l with
  |some p,some r=>some (p::r)
  |_,_=>none
def iT:Value->Option O
 | .agg cs=>(vJ cs.toList).map .agg
 |x=>ei x
def get(U:Nat->O):Operand->Option O
 | .tmp t=>some (U t)
 | .const x=>iT x
 | .func f=>some (.fn (.func f) [] [])
 | .global _=>none
def qz(P:Program)(t:TypeId):Option Nat:=(P.info? t).map (·.size)
def js(P:Program)(t:TypeId):Option Nat:=(P.info? t).map (·.bytes)
def yL(P:Program)(t:TypeId):Option zb:=((P.info? t).bind (·.zero)).bind fun z=>vJ z.cells.toList
def yo(P:Program)(t:TypeId):Option Bool:=(P.underlying t).map fun
 | .struct _|.array _ _=>true
 |_=>false
def yf(P:Program)(t:TypeId):Option TypeId:=match P.underlying t with
 |some (.slice e)=>some e
 |_=>none
def zJ(P:Program)(t:TypeId)(f:Nat):Option (Nat×Nat×Bool):=match P.underlying t with
 |some (.struct b)=>match b[f]? with
  |some x=>match qz P x.type,yo P x.type with
   |some n,some a=>some (x.offset,n,a)
   |_,_=>none
  |none=>none
 |_=>none
def O.cells:O->zb
 | .agg cs=>cs
 |x=>[x]
def qP(P:Program)(t:TypeId)(cs:zb):Option O:=
 match yo P t,qz P t with
 |some true,some n=>if n<=cs.length then some (.agg (cs.take n))else none
 |some false,some _=>cs[0]?
 |_,_=>none
def O.vk:O->Bool
 | .own _ _ _=>true
 |_=>false
def O.noOwn:O->Bool
 | .agg cs=>!cs.any O.vk
 | .own _ _ _=>false
 |_=>true
def wY(Y:Hp):O->Option (O×Hp)
 | .own id off n=>match Y id with
  |some b=>if b.arr=true/\off+n<=b.es.length then some (.sl b.s ((b.es.drop off).take n),qv Y id none)else none
  |none=>none
 | .v x=>some (.v x,Y)
 | .nil=>some (.nil,Y)
 | .sl s es=>some (.sl s es,Y)
 | .em=>some (.em,Y)
 | .ptr cs=>some (.ptr cs,Y)
 | .fn f xs ys=>if xs.all O.shut=true/\ys.all O.shut=true then some (.fn f xs ys,Y)else none
 |_=>none
def wA(Y:Hp):zb->Option (zb×Hp)
 |[]=>some ([],Y)
 |x::l=>match wY Y x with
  |some (y,Y1)=>match wA Y1 l with
   |some (r,Y2)=>some (y::r,Y2)
   |none=>none
  |none=>none
def qA(Y:Hp):O->Option (O×Hp)
 | .agg cs=>match wA Y cs with
  |some (l,h)=>some (.agg l,h)
  |none=>none
 |x=>wY Y x
def zD(Y:Hp):zb->Option (zb×Hp)
 |[]=>some ([],Y)
 |x::l=>match qA Y x with
  |some (y,Y1)=>match zD Y1 l with
   |some (r,Y2)=>some (y::r,Y2)
   |none=>none
  |none=>none
def freeze(Y:Hp):O->Option (O×Hp)
 | .wG cs=>match zD Y cs with
  |some (l,h)=>some (.wG l,h)
  |none=>none
 |x=>qA Y x
def view(Y:Hp)(n:Nat):O->Option (List zb)
 | .nil=>some []
 | .em=>some []
 | .sl s es=>if s=n then some es else none
 | .own id off k=>match Y id with
  |some b=>if b.arr=true/\b.s=n/\off+k<=b.es.length then some ((b.es.drop off).take k)else none
  |none=>none
 |_=>none
def Nv(op:BinOp)(k:IntKind)(a b:Int):Option O:=
 match op with
 | .add=>some (.v (.int k (k.wrap (a+b))))
 | .sub=>some (.v (.int k (k.wrap (a-b))))
 | .mul=>some (.v (.int k (k.wrap (a*b))))
 | .quo=>if b=0 then none else some (.v (.int k (k.wrap (a.tdiv b))))
 | .rem=>if b=0 then none else some (.v (.int k (a.tmod b)))
 | .eql=>some (.v (.bool (a==b)))
 | .neq=>some (.v (.bool (a != b)))
 | .lss=>some (.v (.bool (decide (a<b))))
 | .leq=>some (.v (.bool (decide (a<=b))))
 | .gtr=>some (.v (.bool (decide (a>b))))
 | .geq=>some (.v (.bool (decide (a>=b))))
 | .and=>some (.v (.int k (k.wrap (BitVec.ofInt k.bits a &&& BitVec.ofInt k.bits b).toNat)))
 | .or=>some (.v (.int k (k.wrap (BitVec.ofInt k.bits a||| BitVec.ofInt k.bits b).toNat)))
 | .xor=>some (.v (.int k (k.wrap (BitVec.ofInt k.bits a ^^^ BitVec.ofInt k.bits b).toNat)))
 | .andNot=>some (.v (.int k (k.wrap (BitVec.ofInt k.bits a &&& ~~~ BitVec.ofInt k.bits b).toNat)))
 | .shr=>if b<0 then none else some (.v (.int k (a.fdiv (2 ^ (min b.toNat k.bits)))))
 | .shl=>if b<0 then none else some (.v (.int k (k.wrap (a*2 ^ (min b.toNat k.bits)))))
def Nw(op:BinOp)(a b:ByteArray):Option O:=
 match op with
 | .add=>if a.size+b.size<=maxLen then some (.v (.string (a++b)))else none
 | .eql=>some (.v (.bool (a.toList==b.toList)))
 | .neq=>some (.v (.bool (!(a.toList==b.toList))))
 | .lss=>some (.v (.bool (Op.bytesLess a.toList b.toList)))
 | .leq=>some (.v (.bool (Op.bytesLess a.toList b.toList||a.toList==b.toList)))
 | .gtr=>some (.v (.bool (!(Op.bytesLess a.toList b.toList||a.toList==b.toList))))
 | .geq=>some (.v (.bool (!(Op.bytesLess a.toList b.toList))))
 |_=>none
def wX:List Nat->zb->zb->Option Bool
 |[],_,_=>some true
 | 0::c,.v (.int k a)::xs,.v (.int d b)::ys=>if k=d then(wX c xs ys).map ((a==b)&&·)else none
 | 1::c,.v (.bool a)::xs,.v (.bool b)::ys=>(wX c xs ys).map ((a==b)&&·)
 | 2::c,.v (.string a)::xs,.v (.string b)::ys=>(wX c xs ys).map ((a==b)&&·)
 |_,_,_=>none
def IM(P:Program)(t:TypeId):Option Nat:=match P.underlying t with
 |some (.int _)=>some 0
 |some .bool=>some 1
 |some .string=>some 2
 |_=>none
def rv(P:Program):Nat->List Field->Option (List Nat)
 |_,[]=>some []
 |i,f::a=>if f.offset=i/\f.name≠ "_" then match IM P f.type,rv P (i+1) a with
   |some k,some b=>some (k::b)
   |_,_=>none
  else none
def subA(P:Program)(t:TypeId):Option (List Nat):=if P.stoodInHeld t=true then none else match P.underlying t with
 |some (.struct b)=>match rv P 0 b.toList with
  |some a=>if qz P t=some a.length then some a else none
  |none=>none
 |_=>none
def ry(P:Program):Nat->List Field->Option (List Nat)
 |_,[]=>some []
 |i,f::b=>if f.offset=i/\f.name≠ "_" then match IM P f.type with
   |some k=>match ry P (i+1) b with
    |some a=>some (k::a)
    |none=>none
   |none=>match subA P f.type with
    |some c=>match ry P (i+c.length) b with
     |some a=>some (c++a)
     |none=>none
    |none=>none
  else none
def Hw(P:Program)(t:TypeId):Option (List Nat):=
 if P.stoodInHeld t=true\/P.eqGuardType P.depth t=true then none else
 match P.underlying t with
 |some (.struct a)=>ry P 0 a.toList
 |_=>none
def Kh:O->Option Bool
 | .nil=>some true
 | .em=>some false
 | .own _ _ _=>some false
 | .sl _ (_::_)=>some false
 |_=>none
def Qj(P:Program)(op:BinOp)(t:TypeId):O->O->Option O
 | .v (.int k a),.v (.int d b)=>if k=d then Nv op k a b else none
 | .v (.string a),.v (.string b)=>Nw op a b
 | .v (.bool a),.v (.bool b)=>match op,P.underlying t with
  | .eql,some .bool=>some (.v (.bool (a==b)))
  | .neq,some .bool=>some (.v (.bool (!(a==b))))
  |_,_=>none
 | .agg xs,.agg ys=>match Hw P t with
  |some c=>match op with
   | .eql=>(wX c xs ys).map fun r=>.v (.bool r)
   | .neq=>(wX c xs ys).map fun r=>.v (.bool !r)
   |_=>none
  |none=>none
 |p,.nil=>match yf P t,Kh p,op with
  |some _,some r,.eql=>some (.v (.bool r))
  |some _,some r,.neq=>some (.v (.bool !r))
  |_,_,_=>none
 |_,_=>none
def EN(P:Program)(t:TypeId):Bool:=match P.underlying t with
 |some (.interface _)=>true
 |_=>false
def isK:Operand->Bool
 | .const _=>true
 |_=>false
def Hy(P:Program)(op:BinOp)(t:TypeId):Option O:=if EN P t=true then match op with
 | .eql=>some (.v (.bool true))
 | .neq=>some (.v (.bool false))
 |_=>none
 else none
def VB(c:Bool)(P:Program)(op:BinOp)(t:TypeId)(p q:O):Option O:=match c,q,p with
 |true,.v .nilIface,.v .nilIface=>Hy P op t
 |_,q,p=>Qj P op t p q
@[simp]theorem zee(P:Program)(op:BinOp)(t:TypeId)(p q:O):VB false P op t p q=Qj P op t p q:=rfl
@[simp]theorem zgr(t:Tmp):isK (.tmp t)=false:=rfl
@[simp]theorem zdk(v:Value):isK (.const v)=true:=rfl
@[simp]theorem zef(f:FuncId):isK (.func f)=false:=rfl
@[simp]theorem zeg(c:Bool)(P:Program)(op:BinOp)(t:TypeId)(p:O)(k:IntKind)(n:Int):VB c P op t p (.v (.int k n))=Qj P op t p (.v (.int k n)):=by cases c<;>rfl
@[simp]theorem zeh(c:Bool)(P:Program)(op:BinOp)(t:TypeId)(p:O)(s:ByteArray):VB c P op t p (.v (.string s))=Qj P op t p (.v (.string s)):=by cases c<;>rfl
@[simp]theorem zdl(c:Bool)(P:Program)(op:BinOp)(t:TypeId)(p:O)(b:Bool):VB c P op t p (.v (.bool b))=Qj P op t p (.v (.bool b)):=by cases c<;>rfl
@[simp]theorem zei(c:Bool)(P:Program)(op:BinOp)(t:TypeId)(p:O):VB c P op t p .nil=Qj P op t p .nil:=by cases c<;>rfl
@[simp]theorem zdm(P:Program)(op:BinOp)(t:TypeId):VB true P op t (.v .nilIface) (.v .nilIface)=Hy P op t:=rfl
def SL(op:UnOp):O->Option O
 | .v (.bool b)=>match op with
  | .not=>some (.v (.bool !b))
  |_=>none
 | .v (.int k n)=>match op with
  | .neg=>some (.v (.int k (k.wrap (0-n))))
  |_=>none
 |_=>none
def aE(P:Program)(a dst:TypeId):O->Option O
 | .v (.int _ n)=>match P.underlying a,P.underlying dst with
  |some _,some (.int k)=>some (.v (.int k (k.wrap n)))
  |_,_=>none
 | .v (.string s)=>match P.underlying a,P.underlying dst with
  |some _,some .string=>some (.v (.string s))
  |_,_=>none
 |_=>none
def kJ(a:Nat):Option (Option O)->Option Nat
 |none=>some a
 |some (some (.v (.int _ i)))=>if 0<=i then some i.toNat else none
 |_=>none
def jy(P:Program)(Y:Hp)(t:TypeId)(x:O)(lo hi:Option (Option O)):Option O:=
 match P.underlying t,x with
 |some .string,.v (.string s)=>match kJ 0 lo,kJ s.size hi with
  |some l,some h=>if l<=h/\h<=s.size then some (.v (.string (s.extract l h)))else none
  |_,_=>none
 |some (.slice e),.sl s es=>match qz P e,kJ 0 lo,kJ es.length hi with
  |some n,some l,some h=>if s=n/\l<=h/\h<=es.length then some (.sl s ((es.drop l).take (h-l)))else none
  |_,_,_=>none
 |some (.slice e),.nil=>match qz P e,kJ 0 lo,kJ 0 hi with
  |some _,some l,some h=>if l=0/\h=0 then some .nil else none
  |_,_,_=>none
 |some (.slice e),.own id off n=>match qz P e,kJ 0 lo,kJ n hi with
  |some m,some l,some h=>match Y id with
   |some b=>if b.s=m/\l<=h/\h<=n then some (if l=0 then .own id off h else if h=l then .sl m []else .own id (off+l) (h-l))else none
   |none=>none
  |_,_,_=>none
 |_,_=>none
def XD(k:IntKind)(x:Int):zb->Option O
 |[]=>some (.v (.int k x))
 | .v (.int a y)::l=>if k=a then XD k (if y<x then y else x) l else none
 |_=>none
def Nx:zb->Option O
 | .v (.int k x)::l=>XD k x l
 |_=>none
def XE(k:IntKind)(x:Int):zb->Option O
 |[]=>some (.v (.int k x))
 | .v (.int a y)::l=>if k=a then XE k (if y>x then y else x) l else none
 |_=>none
def Ny:zb->Option O
 | .v (.int k x)::l=>XE k x l
 |_=>none
def Ki(P:Program)(t:TypeId):O->Option O
 | .v (.string s)=>match P.underlying t with
  |some .string=>some (.v (.int .i64 s.size))
  |_=>none
 | .v (.slice (some _) 0 0)=>(yf P t).map fun _=>.v (.int .i64 0)
 | .sl _ es=>(yf P t).map fun _=>.v (.int .i64 es.length)
 | .nil=>(yf P t).map fun _=>.v (.int .i64 0)
 | .em=>(yf P t).map fun _=>.v (.int .i64 0)
 | .own _ _ n=>(yf P t).map fun _=>.v (.int .i64 n)
 |_=>none
def ja(cs:zb)(off:Nat):zb->zb
 |[]=>cs
 |x::l=>ja (cs.set off x) (off+1) l
def qB(a:Nat->Option (Nat×Nat))(cs:zb):List (Nat×O)->Option zb
 |[]=>some cs
 |(i,x)::b=>match a i with
  |some (off,n)=>if x.cells.length=n/\off+n<=cs.length/\x.cells.all O.wZ=true then qB a (ja cs off x.cells) b else none
  |none=>none
def ya{α:Type}:List (Option α)->Option (List α)
 |[]=>some []
 |some x::l=>(ya l).map (x::·)
 |none::_=>none
def vn(a:Operand->Option O):List (Nat×Operand)->Option (List (Nat×O))
 |[]=>some []
 |(i,x)::l=>match a x,vn a l with
  |some p,some r=>some ((i,p)::r)
  |_,_=>none
def ZO(P:Program)(t:TypeId):Option (List (Nat×Nat)):=match P.underlying t with
 |some (.struct a)=>a.toList.mapM (fun f=>(P.info? f.type).map fun i=>(f.offset,i.size))
 |_=>none
def z8(P:Program)(t:TypeId)(a:List (Nat×O)):Option O:=
 match ZO P t,yL P t with
 |some b,some z=>(qB (fun i=>b[i]?) z a).map .agg
 |none,some z=>match P.underlying t with
  |some (.array _ e)=>match qz P e with
   |some n=>(qB (fun i=>some (i*n,n)) z a).map .agg
   |none=>none
  |_=>none
 |_,_=>none
def zo(Y:Hp):List (Nat×O)->Option (List (Nat×O)×Hp)
 |[]=>some ([],Y)
 |(i,x)::l=>match qA Y x with
  |some (y,Y1)=>match zo Y1 l with
   |some (r,Y2)=>some ((i,y)::r,Y2)
   |none=>none
  |none=>none
def zE(n:Nat)(es:List zb):List (Nat×O)->Option (List zb)
 |[]=>some es
 |(i,x)::l=>if x.cells.length=n/\i<es.length/\x.cells.all O.wZ=true then zE n (es.set i x.cells) l else none
def zp(P:Program)(Y:Hp)(Z:Nat)(t:TypeId)(len:Nat)(a:List (Nat×O)):Option (O×Hp×Nat):=
 match yf P t with
 |some e=>match qz P e,yL P e,zo Y a with
  |some n,some z,some (b,Y1)=>if 0<n/\z.length=n/\len*n<=16777216 then
    match zE n (List.replicate len z) b with
    |some es=>some (.own Z 0 len,qv Y1 Z (some ⟨e,n,true,es⟩),Z+1)
    |none=>none
   else none
  |_,_,_=>none
 |none=>none
def xM(P:Program)(Y:Hp)(Z:Nat)(t:TypeId):O->O->Option (O×Hp×Nat)
 | .v (.int _ l),.v (.int _ c)=>match yf P t with
  |some e=>match qz P e,js P e,yL P e with
   |some n,some by_,some z=>if 0<n/\z.length=n/\0<=l/\l<=c/\c.toNat<=maxLen/\c.toNat*by_<=140737488355328 then
     some (.own Z 0 l.toNat,qv Y Z (some ⟨e,n,true,List.replicate l.toNat z⟩),Z+1)
    else none
   |_,_,_=>none
  |none=>none
 |_,_=>none
def S9(P:Program)(u:TypeId):Bool:=match P.underlying u with
 |some .string=>true
 |_=>false
def Hz(P:Program)(e:TypeId):Bool:=match P.info? e with
 |some i=>match i.zero with
  |some (.int .u8 z)=>z==0&&i.size==1&&i.bytes==1
  |_=>false
 |none=>false
def lA(P:Program)(Y:Hp)(n:Nat)(e t u:TypeId):O->Option (List zb)
 | .v (.string b)=>if S9 P u=true/\Hz P e=true then some (b.data.toList.map fun c=>[.v (.int .u8 c.toNat)])else none
 |x=>if u=t then view Y n x else none
def yK(P:Program)(Y:Hp)(Z:Nat)(t u:TypeId)(s x:O):Option (O×Hp×Nat):=
 match yf P t with
 |some e=>match qz P e,js P e,yL P e with
  |some n,some by_,some z=>match lA P Y n e t u x with
   |some xs=>match s with
    | .nil=>
     if 0<n/\z.length=n/\xs.length<=maxLen/\xs.length*by_<=140737488355328 then
      if xs.length=0 then some (.nil,Y,Z)
      else some (.own Z 0 xs.length,qv Y Z (some ⟨e,n,true,xs⟩),Z+1)
     else none
    | .own id 0 k=>match Y id with
     |some b=>if b.arr=true/\b.e=e/\k=b.es.length/\0<n/\z.length=n/\k+xs.length<=maxLen/\(k+xs.length)*by_<=140737488355328 then
       some (.own Z 0 (k+xs.length),qv (qv Y id none) Z (some ⟨e,n,true,b.es++xs⟩),Z+1)
      else none
     |none=>none
    |_=>none
   |none=>none
  |_,_,_=>none
 |none=>none
def HA(P:Program)(Y:Hp)(Z:Nat)(t:TypeId)(d x:O):Option (O×Hp×Nat):=
 match yf P t,d with
 |some e,.own id off k=>match Y id,qz P e with
  |some b,some n=>match view Y n x with
   |some xs=>if b.arr=true/\b.e=e/\off+k<=b.es.length/\0<n then
     some (.v (.int .i64 (min xs.length k:Nat)),qv Y id (some ⟨b.e,b.s,true,b.es.take off++xs.take (min xs.length k)++b.es.drop (off+min xs.length k)⟩),Z)
    else none
   |none=>none
  |_,_=>none
 |_,_=>none
def ej(P:Program)(Y:Hp)(Z:Nat)(t:TypeId)(x:O):Option (O×Hp×Nat):=
 match yf P t,x with
 |some e,.own id off k=>match Y id,qz P e,yL P e with
  |some b,some n,some [z]=>if n=1/\b.arr=true/\b.e=e/\off+k<=b.es.length/\0<k then
    some (.wG [],qv Y id (some ⟨b.e,b.s,true,b.es.take off++List.replicate k [z]++b.es.drop (off+k)⟩),Z)
   else none
  |_,_,_=>none
 |_,_=>none
def xv(P:Program)(Y:Hp)(t:TypeId):O->Option O
 | .ptr cs=>qP P t cs
 | .ref id i j=>match Y id with
  |some b=>match b.es[i]? with
   |some c=>qP P t (c.drop j)
   |none=>none
  |none=>none
 |_=>none
def QU(P:Program)(Y:Hp)(t:TypeId)(a x:O):Option Hp:=
 match a with
 | .ref id i j=>match Y id with
  |some d=>match(if d.arr=true then qA Y x else some (x,Y))with
   |some (y,Y1)=>match Y1 id,qz P t with
    |some b,some n=>match b.es[i]? with
     |some c=>if y.cells.length=n/\j+n<=c.length/\y.cells.all O.wZ=true then
       some (qv Y1 id (some ⟨b.e,b.s,b.arr,b.es.set i (ja c j y.cells)⟩))else none
     |none=>none
    |_,_=>none
   |none=>none
  |none=>none
 |_=>none
def yX(P:Program)(t:TypeId)(f:Nat):O->Option O
 | .ptr cs=>match zJ P t f with
  |some (o,n,_)=>if n=0 then none else some (.ptr (cs.drop o))
  |none=>none
 | .ref id i j=>match zJ P t f with
  |some (o,n,_)=>if n=0 then none else some (.ref id i (j+o))
  |none=>none
 |_=>none
def Z7(P:Program)(t:TypeId)(f:Nat):O->Option O
 | .agg cs=>match zJ P t f with
  |some (o,n,true)=>if o+n<=cs.length then some (.agg ((cs.drop o).take n))else none
  |some (o,_,false)=>cs[o]?
  |none=>none
 |_=>none
def A6(P:Program)(t:TypeId):Option (Nat×TypeId):=match P.underlying t with
 |some (.array n e)=>some (n,e)
 |_=>none
def Zb(P:Program)(t:TypeId)(i:Int)(x:O):Option O:=
 match A6 P t with
 |some (m,e)=>match qz P e with
  |some n=>if 0<=i/\i<m then match x with
    | .ptr cs=>some (.ptr (cs.drop (i.toNat*n)))
    | .ref id a b=>some (.ref id a (b+i.toNat*n))
    |_=>none
   else none
  |none=>none
 |none=>none
def qJ(P:Program)(Y:Hp)(t:TypeId):O->O->Option O
 |x,.v (.int _ i)=>match yf P t with
  |some e=>match qz P e,x with
   |some n,.sl s es=>if s=n/\0<n/\0<=i then(es[i.toNat]?).map .ptr else none
   |some n,.own id off k=>match Y id with
    |some b=>if b.e=e/\0<n/\0<=i/\i.toNat<k then some (.ref id (off+i.toNat) 0)else none
    |none=>none
   |_,_=>none
  |none=>Zb P t i x
 |_,_=>none
def QV(P:Program)(t:TypeId):O->O->Option O
 | .v (.string s),.v (.int _ i)=>match P.underlying t with
  |some .string=>if 0<=i then match s[i.toNat]? with
    |some b=>some (.v (.int .u8 b.toNat))
    |none=>none
   else none
  |_=>none
 |_,_=>none
def VC(P:Program)(t:TypeId):Option (Option IntKind×TypeId):=match P.underlying t with
 |some (.map b a)=>match P.underlying b with
  |some (.int k)=>some (some k,a)
  |some .string=>some (none,a)
  |_=>none
 |_=>none
def Y4:Option IntKind->Value->Bool
 |some k,.int a _=>a==k
 |none,.string _=>true
 |_,_=>false
def kF:Value->Value->Option Bool
 | .int k a,.int c b=>if k=c then some (a==b)else none
 | .string a,.string b=>some (a.toList==b.toList)
 |_,_=>none
def kH(k:Value):List zb->Nat->Option (Option (Nat×O))
 |[],_=>some none
 |[.v a,v]::l,i=>match kF k a with
  |some true=>some (some (i,v))
  |some false=>kH k l (i+1)
  |none=>none
 |_::_,_=>none
def aF(P:Program)(t:TypeId):Option O:=((P.info? t).bind (·.zero)).bind iT
def lB(Y:Hp):O->Option (List zb)
 | .mp id=>match Y id with
  |some b=>if b.s=0 then some b.es else none
  |none=>none
 | .v (.map none)=>some []
 |_=>none
def ZP(P:Program)(Y:Hp)(t:TypeId)(x a:O)(b:Bool):Option O:=
 match VC P t,lB Y x,a with
 |some (c,d),some es,.v k=>if Y4 c k=true then match kH k es 0 with
   |some (some (_,v))=>some (if b=true then .wG [v,.v (.bool true)]else v)
   |some none=>(aF P d).map fun z=>if b=true then .wG [z,.v (.bool false)]else z
   |none=>none
  else none
 |_,_,_=>none
def xb(P:Program)(Y:Hp)(t:TypeId)(x a y:O):Option Hp:=
 match VC P t,x,a with
 |some (c,_),.mp id,.v k=>if Y4 c k=true then match qA Y y with
   |some (z,Y1)=>match Y1 id with
    |some b=>if b.s=0 then match kH k b.es 0 with
      |some (some (i,_))=>some (qv Y1 id (some ⟨b.e,b.s,b.arr,b.es.set i [.v k,z]⟩))
      |some none=>some (qv Y1 id (some ⟨b.e,b.s,b.arr,b.es++[[.v k,z]]⟩))
      |none=>none
     else none
    |none=>none
   |none=>none
  else none
 |_,_,_=>none
def yt(P:Program)(Y:Hp)(Z:Nat)(ts:Array TypeId)(b:Builtin)(xs:zb):Option (O×Hp×Nat):=
 match b with
 | .len=>match xs,ts[0]? with
  |[x],some t=>(Ki P t x).map fun y=>(y,Y,Z)
  |_,_=>none
 | .min=>(Nx xs).map fun y=>(y,Y,Z)
 | .max=>(Ny xs).map fun y=>(y,Y,Z)
 | .append=>match xs,ts[0]?,ts[1]? with
  |[s,x],some t,some u=>yK P Y Z t u s x
  |_,_,_=>none
 | .copy=>match xs,ts[0]? with
  |[d,x],some t=>HA P Y Z t d x
  |_,_=>none
 | .clear=>match xs,ts[0]? with
  |[x],some t=>ej P Y Z t x
  |_,_=>none
 |_=>none
def jD(C:Ctx)(Y:Hp)(Z:Nat)(f:Option O)(xs:zb):Option (O×Hp×Nat):=
 match f with
 |some (.fn (.func g) first a)=>match C.Γ g with
  |some b=>b (first++xs++a) Y Z
  |none=>none
 |_=>none
def xN(C:Ctx)(a:Operand->Option O)(Y:Hp)(Z:Nat)(c:Call):Option (O×Hp×Nat):=
 match ya (c.args.toList.map a)with
 |some xs=>match c.callee with
  | .builtin b=>yt C.P Y Z c.argTypes b xs
  | .value f=>jD C Y Z (a f) xs
  | .invoke _ _=>none
 |none=>none
def zX(C:Ctx)(d:Operand->Option O)(Y:Hp)(Z:Nat)(o:Op):Option (O×Hp×Nat):=
 match o with
 | .move x=>(d x).map fun y=>(y,Y,Z)
 | .assign x=>(d x).map fun y=>(y,Y,Z)
 | .pick c a b=>match d c with
  |some (.v (.bool true))=>(d a).map fun y=>(y,Y,Z)
  |some (.v (.bool false))=>(d b).map fun y=>(y,Y,Z)
  |_=>none
 | .alloc t=>match qz C.P t,yL C.P t with
  |some n,some z=>if 0<n/\z.length=n then some (.ref Z 0 0,qv Y Z (some ⟨t,n,false,[z]⟩),Z+1)else none
  |_,_=>none
 | .box t x=>match qz C.P t,d x with
  |some n,some y=>if 0<n/\y.cells.length=n/\y.cells.all O.wZ=true then some (.ref Z 0 0,qv Y Z (some ⟨t,n,false,[y.cells]⟩),Z+1)else none
  |_,_=>none
 | .build t e=>match vn d e.toList with
  |some s=>(z8 C.P t s).map fun y=>(y,Y,Z)
  |none=>none
 | .buildSlice t len e=>match vn d e.toList with
  |some s=>zp C.P Y Z t len s
  |none=>none
 | .load t a=>match d a with
  |some p=>(xv C.P Y t p).map fun y=>(y,Y,Z)
  |none=>none
 | .store t a x=>match d a,d x with
  |some p,some y=>(QU C.P Y t p y).map fun h=>(.wG [],h,Z)
  |_,_=>none
 | .nilCheck x=>match d x with
  |some (.ref id i j)=>some (.ref id i j,Y,Z)
  |some (.ptr cs)=>some (.ptr cs,Y,Z)
  |_=>none
 | .binOp op t x y _=>match d x,d y with
  |some p,some q=>(VB (isK y) C.P op t p q).map fun r=>(r,Y,Z)
  |_,_=>none
 | .unOp op _ x=>match d x with
  |some p=>(SL op p).map fun r=>(r,Y,Z)
  |none=>none
 | .convert u dst x=>match d x with
  |some p=>(aE C.P u dst p).map fun r=>(r,Y,Z)
  |none=>none
 | .makeFunc f first g=>match ya (first.toList.map d),ya (g.toList.map d)with
  |some xs,some ys=>some (.fn f xs ys,Y,Z)
  |_,_=>none
 | .makeSlice t l c=>match d l,d c with
  |some p,some q=>xM C.P Y Z t p q
  |_,_=>none
 | .slice t x lo hi none=>match d x with
  |some p=>(jy C.P Y t p (lo.map d) (hi.map d)).map fun r=>(r,Y,Z)
  |none=>none
 | .fieldAddr t x f=>match d x with
  |some p=>(yX C.P t f p).map fun r=>(r,Y,Z)
  |none=>none
 | .field t x f=>match d x with
  |some p=>(Z7 C.P t f p).map fun r=>(r,Y,Z)
  |none=>none
 | .indexAddr t x i=>match d x,d i with
  |some p,some q=>(qJ C.P Y t p q).map fun r=>(r,Y,Z)
  |_,_=>none
 | .index t x i=>match d x,d i with
  |some p,some q=>(QV C.P t p q).map fun r=>(r,Y,Z)
  |_,_=>none
 | .extract x i=>match d x with
  |some (.wG vs)=>(vs[i]?).map fun r=>(r,Y,Z)
  |_=>none
 | .call c=>xN C d Y Z c
 | .makeMap t none=>match VC C.P t with
  |some _=>some (.mp Z,qv Y Z (some ⟨t,0,false,[]⟩),Z+1)
  |none=>none
 | .lookup t x i w=>match d x,d i with
  |some p,some q=>(ZP C.P Y t p q w).map fun r=>(r,Y,Z)
  |_,_=>none
 | .mapUpdate t m k x=>match d m,d k,d x with
  |some p,some q,some y=>(xb C.P Y t p q y).map fun h=>(.wG [],h,Z)
  |_,_,_=>none
 | .insert t m k x=>match d m,d k,d x with
  |some p,some q,some y=>(xb C.P Y t p q y).map fun h=>(.wG [],h,Z)
  |_,_,_=>none
 |_=>none
def put(U:Nat->O)(dst:Option Tmp)(x:O):Nat->O:=
 match dst with
 |some d=>qv U d x
 |none=>U
def QW(a:Array Oper)(U:Nat->O)(j:Nat):Option Bool:=
 match(a[j]?).bind (·.dst)with
 |some d=>match U d with
  | .v (.bool b)=>some b
  |_=>none
 |none=>none
def yN(C:Ctx)(a:Array Oper)(o:Oper)(st:St):Option St:=
 if Region.wanted o (QW a st.U)=true then
  match zX C (get st.U) st.Y st.Z o.op with
  |some (x,Y,Z)=>some ⟨put st.U o.dst x,Y,Z⟩
  |none=>none
 else some ⟨put st.U o.dst (.wG []),st.Y,st.Z⟩
def xj(C:Ctx)(a:Array Oper):List Oper->St->Option St
 |[],st=>some st
 |o::l,st=>match yN C a o st with
  |some b=>xj C a l b
  |none=>none
def iter(f:St->Option (Exit×St)):Nat->St->Option (Exit×St)
 | 0,_=>none
 |n+1,st=>match f st with
  |some (.normal,a)=>iter f n a
  |r=>r
open Classical in
noncomputable def aG (f:St->Option (Exit×St)) (st:St):Option (Exit×St):=
 if h:∃n,(iter f n st).isSome=true then iter f (Classical.choose h) st else none
def AQ:List Tmp->St->Option St
 |[],st=>some st
 |t::l,st=>match qA st.Y (st.U t)with
  |some (y,Y1)=>AQ l ⟨qv st.U t y,Y1,st.Z⟩
  |none=>none
def Kj(b c:St->Option (Exit×St))(U:Nat->O)(p:Tmp):zb->Hp->Nat->Option (Exit×Hp×Nat)
 |[],Y,Z=>some (.normal,Y,Z)
 |x::xs,Y,Z=>match b ⟨qv U p x,Y,Z⟩with
  |some (.normal,d)=>match c d with
   |some (.normal,a)=>Kj b c U p xs a.Y a.Z
   |some (.ret,a)=>some (.ret,a.Y,a.Z)
   |some (.exit i,a)=>some (.exit i,a.Y,a.Z)
   |_=>none
  |_=>none
open Classical in
noncomputable def qZ (C:Ctx):Code->St->Option (Exit×St)
 | .skip,st=>some (.normal,st)
 | .region id j _,k=>match AQ (C.fz id) k with
  |some st=>if WQ (C.dyn id) st/\Z6 (C.Ns id) st then match xj C j j.toList st with
   |some d=>some (.normal,d)
   |none=>none
   else none
  |none=>none
 | .seq a b,st=>match qZ C a st with
  |some (.normal,d)=>qZ C b d
  |r=>r
 | .cond c x y,st=>match get st.U c with
  |some (.v (.bool true))=>qZ C x st
  |some (.v (.bool false))=>qZ C y st
  |_=>none
 | .block id h,st=>match qZ C h st with
  |some (.exit i,d)=>if i=id then some (.normal,d)else some (.exit i,d)
  |r=>r
 | .loop h,st=>aG (qZ C h) st
 | .exit id,st=>some (.exit id,st)
 | .ret,st=>some (.ret,st)
 | .label _,st=>some (.normal,st)
 | .rangeFunc f m a b,st=>match m.toList,get st.U f with
  |[p],some (.fn (.func g) [] cap)=>match C.it g with
   |some it=>match it cap st.Y with
    |some (xs,Y1)=>match Kj (qZ C a) (qZ C b) st.U p xs Y1 st.Z with
     |some (e,Y2,l)=>some (e,⟨st.U,Y2,l⟩)
     |none=>none
    |none=>none
   |none=>none
  |_,_=>none
 |_,_=>none
def Yg(P:Program)(st:St):ResultVar->Option O
 | .tmp t=>some (st.U t)
 | .cell a t=>xv P st.Y t (st.U a)
def xO(P:Program)(fn:Func)(st:St):Option O:=
 match ya (fn.results.toList.map (Yg P st))with
 |some [x]=>some x
 |some xs=>some (.wG xs)
 |none=>none
def j9(args:zb):Nat->O:=fun t=>(args[t]?).getD (.wG [])
noncomputable def jF (C:Ctx) (fn:Func) (args:zb) (Y:Hp) (Z:Nat):Option (O×Hp×Nat):=
 match fn.body with
 |some code=>match qZ C code ⟨j9 args,Y,Z⟩with
  |some (.normal,st)=>(xO C.P fn st).map fun x=>(x,st.Y,st.Z)
  |some (.ret,st)=>(xO C.P fn st).map fun x=>(x,st.Y,st.Z)
  |_=>none
 |none=>none
noncomputable def zq (C:Ctx) (fn:Func) (args:zb):Option O:=
 match jF C fn args (fun _=>none) 0 with
 |some (x,Y,_)=>(freeze Y x).map (·.1)
 |none=>none
theorem rz(f:St->Option (Exit×St)):∀(n k:Nat) (st:St) (r:Exit×St),iter f n st=some r->iter f (n+k) st=some r:=by
 intro n
 induction n with
 |zero=>intro k st r h;simp[iter]at h
 |succ n b=>
  intro k st r h;rw[show n+1+k=(n+k)+1 from by omega];simp only[iter]at h⊢;split at h
  ·rename_i a c;simp only[b k a r h]
  ·simpa using h
theorem Jp{f:St->Option (Exit×St)}{n:Nat}{st:St}{r:Exit×St}(h:iter f n st=some r):aG f st=some r:=by have c:∃n,(iter f n st).isSome=true:=⟨n,by simp[h]⟩;unfold aG;rw[zg7 c];have e:=jr c;obtain⟨g,d⟩:=Option.isSome_iff_exists.1 e;rw[d];have a:=rz f _ (Classical.choose c) st r h;have b:=rz f _ n st g d;rw[AO]at b;rw[a]at b;exact b.symm
theorem Wc{f:St->Option (Exit×St)}{st:St}{r:Exit×St}(h:aG f st=some r):∃n,iter f n st=some r:=by
 unfold aG at h;split at h
 ·exact⟨_,h⟩
 ·cases h
theorem tq(f:St->Option (Exit×St))(st:St):aG f st=match f st with
  |some (.normal,a)=>aG f a
  |r=>r:=by
 cases d:f st with
 |none=>
  simp only[];cases c:aG f st with
  |none=>rfl
  |some r=>
   obtain⟨n,b⟩:=Wc c;cases n with
   |zero=>simp[iter]at b
   |succ n=>simp[iter,d]at b
 |some p=>
  obtain⟨e,a⟩:=p;by_cases h:e=.normal
  ·subst h;simp only[];cases c:aG f a with
   |some r=>obtain⟨n,b⟩:=Wc c;exact Jp (n:=n+1) (by simp[iter,d,b])
   |none=>
    cases g:aG f st with
    |none=>rfl
    |some r=>
     obtain⟨n,b⟩:=Wc g;cases n with
     |zero=>simp[iter]at b
     |succ n=>simp only[iter,d]at b;rw[Jp b]at c;cases c
  ·have i:iter f 1 st=some (e,a):=by simp only[iter,d];cases e<;>simp_all
   rw[Jp i];cases e<;>simp_all
variable{dr:Prop}
def jz(Y:Hp)(G:Nat->GI)(b:Nat):Prop:=∃id blk,Y id=some blk/\(G id).g=b
structure kx (dr:Prop) (P:Program) (Y:Hp) (Z:Nat) (S:Nat->Prop) (G:Nat->GI) (w:World) (Y':Hp) (Z':Nat) (S':Nat->Prop) (G':Nat->GI) (w':World):Prop where
 inv:Inv P w' S' G' Y' Z'
 up:Z<=Z'
 loc:∀id,id<Z->G' id=G id
 keep:∀b,S b->S' b
 from_:∀b,S' b->S b\/jz Y G b\/w.heap.size<=b
 own:∀id blk,Y' id=some blk->jz Y G (G' id).g\/w.heap.size<=(G' id).g
 fr:Fr dr w (jz Y G) w'
theorem kx.same{P:Program}{Y d:Hp}{Z f:Nat}{S c:Nat->Prop}{G g:Nat->GI}{w w':World}(h:kx dr P Y Z S G w d f c g w')(hi:Inv P w S G Y Z) :
  ∀b,S b->c b/\w'.heap[b]?=w.heap[b]?:=fun b a=>
 ⟨h.keep b a,h.fr.block b (hi.st b a) fun⟨id,blk,hid,e⟩=>hi.apart id blk hid (e ▸ a)⟩
theorem kx.refl{P:Program}{Y:Hp}{Z:Nat}{S:Nat->Prop}{G:Nat->GI}{w:World}(h:Inv P w S G Y Z):kx dr P Y Z S G w Y Z S G w:=
 ⟨h,zf _,fun _ _=>rfl,fun _ h=>h,fun _ h=>.inl h,fun id blk a=>.inl ⟨id,blk,a,rfl⟩,Fr.refl _ _⟩
theorem kx.trans{P:Program}{Y j a:Hp}{Z n c:Nat}{S o f:Nat->Prop}{G l g:Nat->GI}{w w' i:World}
  (h:kx dr P Y Z S G w j n o l w') (k:kx dr P j n o l w' a c f g i):kx dr P Y Z S G w a c f g i:=by
 have m:∀b,jz j l b->jz Y G b\/w.heap.size<=b:=by rintro b ⟨id,blk,h1,rfl⟩;exact h.own id blk h1
 refine⟨k.inv,zw h.up k.up,fun id hid=>(k.loc id (yb hid h.up)).trans (h.loc id hid),fun b d=>k.keep b (h.keep b d),fun b d=>?_,fun id blk d=>?_,?_⟩
 ·rcases k.from_ b d with h1|h1|h1
  ·exact h.from_ b h1
  ·rcases m b h1 with e|e
   ·exact .inr (.inl e)
   ·exact .inr (.inr e)
  ·exact .inr (.inr (zw h.fr.size h1))
 ·rcases k.own id blk d with h1|h1
  ·exact m _ h1
  ·exact .inr (zw h.fr.size h1)
 ·refine h.fr.trans k.fr fun b d h1=>?_
  rcases m b h1 with e|e
  ·exact e
  ·omega
theorem Inv.same{P:Program}{w w':World}{S:Nat->Prop}{G:Nat->GI}{Y:Hp}{Z:Nat}(h:Inv P w S G Y Z)(c:w'.heap=w.heap):Inv P w' S G Y Z:=by
 have d:∀b,S b->S b/\w'.heap[b]?=w.heap[b]?:=fun b a=>⟨a,by rw[c]⟩
 exact⟨fun b a=>by rw[c];exact h.st b a,h.top,fun id b a=>(h.live id b a).mono d (zf _) (fun _ _=>rfl) (by rw[c]),h.apart,h.inj,h.iQ.mono d⟩
theorem kx.drew{P:Program}{Y:Hp}{Z:Nat}{S:Nat->Prop}{G:Nat->GI}{w:World}(h:Inv P w S G Y Z):kx dr P Y Z S G w Y Z S G w.drew:=
 ⟨h.same rfl,zf _,fun _ _=>rfl,fun _ h=>h,fun _ h=>.inl h,fun id blk a=>.inl ⟨id,blk,a,rfl⟩,Fr.drew _ _⟩
theorem kx.alloc{P:Program}{Y:Hp}{Z:Nat}{S:Nat->Prop}{G:Nat->GI}{w:World}(h:Inv P w S G Y Z)(d:Array Value)(e:TypeId)(q:Bool)(es:List zb)(s:Nat)(B:0<s)
  (C:(P.info? e).map (·.size)=some s) (v:∀c∈es,c.length=s) (x:es.length*s<=d.size)
  (y:∀(i j:Nat) (c:zb) (z:O),es[i]?=some c->c[j]?=some z->∃u,d[i*s+j]?=some u/\jl w S G Z q z u) :
  kx dr P Y Z S G w (qv Y Z (some ⟨e,s,q,es⟩)) (Z+1) S (qv G Z ⟨w.heap.size,d.size,s⟩) (w.alloc (.cells d e)):=by
 have m:∀b,b<w.heap.size->(w.alloc (.cells d e)).heap[b]?=w.heap[b]?:=fun b a=>Below.heap_alloc w _ b a
 have D:∀b,S b->S b/\(w.alloc (.cells d e)).heap[b]?=w.heap[b]?:=fun b a=>⟨a,m b (h.st b a)⟩
 have p:∀id,id<Z->qv G Z ⟨w.heap.size,d.size,s⟩ id=G id:=fun id hid=>qO _ _ _ _ (by omega)
 have f:∀id,id≠Z->qv Y Z (some ⟨e,s,q,es⟩) id=Y id:=fun id hid=>qO _ _ _ _ hid
 have n:(w.alloc (.cells d e)).heap.size=w.heap.size+1:=by show(w.heap.push _).size=_;simp
 have r:∀id b,Y id=some b->(G id).g<w.heap.size:=fun id b a=>(h.live id b a).lt
 refine⟨⟨fun b a=>by rw[n];have:=h.st b a;omega,fun id b a=>?_,fun id b a=>?_,fun id b a=>?_,fun id id' b A a l t=>?_,h.iQ.mono D⟩,by omega,p,fun _ a=>a,fun _ a=>.inl a,fun id b a=>?_,⟨rfl,rfl,rfl,by rw[n];omega,fun _=>zf _,fun k E _=>m k E⟩⟩
 ·by_cases hid:id=Z
  ·omega
  ·rw[f id hid]at a;have:=h.top id b a;omega
 ·by_cases hid:id=Z
  ·subst hid;simp only[wQ]at a⊢;injection a with a
   subst a;refine .vJ B rfl ⟨C,v,x,d,Sf w _,rfl,fun i j c z hi F=>?_⟩;obtain⟨u,H,I⟩:=y i j c z hi F;exact⟨u,H,I.mono D (by omega) p⟩
  ·rw[f id hid]at a;have J:=h.top id b a;rw[p id J];exact(h.live id b a).mono D (by omega) p (m _ (r id b a))
 ·by_cases hid:id=Z
  ·subst hid;simp only[wQ];intro hs;have:=h.st _ hs;omega
  ·rw[f id hid]at a;rw[p id (h.top id b a)];exact h.apart id b a
 ·by_cases hid:id=Z<;>by_cases o:id'=Z
  ·omega
  ·subst hid;rw[f id' o]at l;rw[p id' (h.top id' A l)]at t;have:=r id' A l;simp at t;omega
  ·subst o;rw[f id hid]at a;rw[p id (h.top id b a)]at t;have:=r id b a;simp at t;omega
  ·rw[f id hid]at a;rw[f id' o]at l;rw[p id (h.top id b a),p id' (h.top id' A l)]at t;exact h.inj id id' b A a l t
 ·by_cases hid:id=Z
  ·subst hid;simp
  ·rw[f id hid]at a;rw[p id (h.top id b a)];exact .inl ⟨id,b,a,rfl⟩
theorem kx.set{P:Program}{Y:Hp}{Z:Nat}{S:Nat->Prop}{G:Nat->GI}{w:World}(h:Inv P w S G Y Z){id:Nat}{b:kv}(hid:Y id=some b)(n:0<(G id).s)(f:Array Value)(es:List zb)
  (H:f.size=(G id).z) (o:∀c∈es,c.length=(G id).s) (p:es.length*(G id).s<=(G id).z)
  (q:∀(i j:Nat) (c:zb) (t:O),es[i]?=some c->c[j]?=some t->∃u,f[i*(G id).s+j]?=some u/\jl w S G Z b.arr t u) :
  kx dr P Y Z S G w (qv Y id (some ⟨b.e,b.s,b.arr,es⟩)) Z S G (w.setRow (G id).g f):=by
 have l:∀k,k≠(G id).g->(w.setRow (G id).g f).heap[k]?=w.heap[k]?:=fun k d=>setRow_other w _ k _ d
 have v:∀b,S b->S b/\(w.setRow (G id).g f).heap[b]?=w.heap[b]?:=fun k d=>⟨d,l k fun e=>h.apart id b hid (e ▸ d)⟩
 have m:∀k,k≠id->qv Y id (some ⟨b.e,b.s,b.arr,es⟩) k=Y k:=fun k d=>qO _ _ _ _ d
 obtain⟨x,r,I,_⟩:=(h.live id b hid).row n;refine⟨⟨fun k d=>by rw[setRow_size];exact h.st k d,fun k c d=>?_,fun k c d=>?_,fun k c d=>?_,fun k E c y d A J=>?_,h.iQ.mono v⟩,zf _,fun _ _=>rfl,fun _ B=>B,fun _ B=>.inl B,fun k c d=>?_,⟨rfl,rfl,rfl,by simp,fun _=>zf _,fun k _ K=>l k fun e=>K ⟨id,b,hid,e.symm⟩⟩⟩
 ·by_cases a:k=id
  ·subst a;exact h.top _ b hid
  ·rw[m k a]at d;exact h.top k c d
 ·by_cases a:k=id
  ·subst a;simp only[wQ]at d;injection d with d
   subst d;refine .vJ n (h.live _ b hid).bs ⟨(h.live _ b hid).size n,o,p,f,setRow_heap w _ x _ _ _ r,H,fun i j c t hi L=>?_⟩;obtain⟨u,C,D⟩:=q i j c t hi L;exact⟨u,C,D.mono v (zf _) (fun _ _=>rfl)⟩
  ·rw[m k a]at d;exact(h.live k c d).mono v (zf _) (fun _ _=>rfl) (l _ fun e=>a (h.inj k id c b d hid e))
 ·by_cases a:k=id
  ·subst a;exact h.apart _ b hid
  ·rw[m k a]at d;exact h.apart k c d
 ·have F:∀k c,qv Y id (some ⟨b.e,b.s,b.arr,es⟩) k=some c->∃y,Y k=some y:=by
   intro k c d;by_cases a:k=id
   ·subst a;exact⟨b,hid⟩
   ·rw[m k a]at d;exact⟨c,d⟩
  obtain⟨M,C⟩:=F k c d;obtain⟨N,D⟩:=F E y A;exact h.inj k E M N C D J
 ·by_cases a:k=id
  ·subst a;exact .inl ⟨_,b,hid,rfl⟩
  ·rw[m k a]at d;exact .inl ⟨k,c,d,rfl⟩
theorem kx.kill{P:Program}{Y:Hp}{Z:Nat}{S:Nat->Prop}{G:Nat->GI}{w:World}(h:Inv P w S G Y Z){id:Nat}{b:kv}(hid:Y id=some b) :
  kx dr P Y Z S G w (qv Y id none) Z (fun k=>S k\/k=(G id).g) G w:=by
 have i:∀k,S k->(S k\/k=(G id).g)/\w.heap[k]?=w.heap[k]?:=fun k a=>⟨.inl a,rfl⟩
 have d:∀k c,qv Y id none k=some c->k≠id/\Y k=some c:=by
  intro k c a;by_cases e:k=id
  ·subst e;simp at a
  ·rw[qO _ _ _ _ e]at a;exact⟨e,a⟩
 refine⟨⟨fun k a=>?_,fun k c a=>h.top k c (d k c a).2,fun k c a=>(h.live k c (d k c a).2).mono i (zf _) (fun _ _=>rfl) rfl,fun k c a=>?_,fun k j c l a f he=>h.inj k j c l (d k c a).2 (d j l f).2 he,h.iQ.mono i⟩,
  zf _,fun _ _=>rfl,fun _ m=>.inl m,fun k a=>?_,fun k c a=>.inl ⟨k,c,(d k c a).2,rfl⟩,Fr.refl _ _⟩
 ·rcases a with a|rfl
  ·exact h.st k a
  ·exact(h.live id b hid).lt
 ·rintro (hs|he)
  ·exact h.apart k c (d k c a).2 hs
  ·exact(d k c a).1 (h.inj k id c b (d k c a).2 hid he)
 ·rcases a with a|rfl
  ·exact .inl a
  ·exact .inr (.inl ⟨id,b,hid,rfl⟩)
theorem EO{P:Program}{Y:Hp}{Z:Nat}{S:Nat->Prop}{G:Nat->GI}{w:World}(h:Inv P w S G Y Z){id off n cap:Nat}{b:kv}(hid:Y id=some b)(m:0<(G id).s)(o:b.arr=true)(N:off+n<=b.es.length)
  (E:n<=cap) (p:cap<=maxLen) (x:Nat->Prop) (F:∀k,S k->x k) (H:x (G id).g) :
  wJ w x (.sl b.s ((b.es.drop off).take n)) (.slice (some ⟨(G id).g,off*(G id).s,none⟩) n cap):=by
 have A:=h.live id b hid;obtain⟨q,I,Q,J⟩:=A.row m;have K:((b.es.drop off).take n).length=n:=by simp;omega
 have r:∀(i:Nat) (c:zb),((b.es.drop off).take n)[i]?=some c->b.es[off+i]?=some c:=by
  intro i c hi;rw[qu]at hi;split at hi
  ·rwa [qN]at hi
  ·cases hi
 have l:∀(i j:Nat),∃u,∀(c:zb) (a:O),((b.es.drop off).take n)[i]?=some c->c[j]?=some a->q[(off+i)*(G id).s+j]?=some u/\jl w S G Z b.arr a u:=by
  intro i j;by_cases y:∃c a,((b.es.drop off).take n)[i]?=some c/\c[j]?=some a
  ·obtain⟨c,a,hi,f⟩:=y;obtain⟨u,z,t⟩:=J (off+i) j c a (r i c hi) f;refine⟨u,fun R L d e=>?_⟩;rw[hi]at d;injection d with d;subst d;rw[f]at e;injection e with e;subst e;exact⟨z,t⟩
  ·exact⟨undef,fun c a hi f=>(y ⟨c,a,hi,f⟩).elim⟩
 rw[A.bs];have B:wJ w x (.sl (G id).s ((b.es.drop off).take n)) (.slice (some ⟨(G id).g,off*(G id).s,none⟩) ((b.es.drop off).take n).length cap):=by
  refine .sl (s:=(G id).s) (fun i j=>Classical.choose (l i j)) (by simp) (by omega) p (fun c y=>A.len m c (WK _ _ (K6 _ _ y))) (fun i j c a hi f=>?_) (fun i j c a hi f=>?_)
  ·obtain⟨z,t⟩:=jr (l i j) c a hi f;refine⟨_,rfl,H,?_,t.2.2⟩;have v:(⟨(G id).g,off*(G id).s,none⟩:Addr).add (i*(G id).s+j)=⟨(G id).g,(off+i)*(G id).s+j,none⟩:=by
    unfold Addr.add;split
    ·rename_i T;have C:i*(G id).s=0:=by omega
     have D:j=0:=by omega
     simp[qI,C,D]
    ·simp[qI];omega
   rw[v,zbI w _ _ q _ _ I];exact z
  ·obtain⟨z,t⟩:=jr (l i j) c a hi f;exact(t.1 o).mono fun k M=>⟨F k M,rfl⟩
 rwa [K]at B
theorem Marks.step{P:Program}{i:Nat}{Y j:Hp}{Z o:Nat}{S l:Nat->Prop}{G m:Nat->GI}{w w':World}{ds:List Deferred}(h:Marks i w S Y G ds)(k:kx dr P Y Z S G w j o l m w'):Marks i w' l j m ds:=by
 obtain⟨d,p,e,q,r⟩:=h;refine⟨zw d k.fr.size,p,e,q,fun D hd=>?_⟩;obtain⟨s,n,c,f⟩:=r D hd;have g:D<w.heap.size:=(qg.1 n).1;refine⟨s,(k.fr.block D g fun⟨id,b,a,e⟩=>f id b a e).trans n,fun hs=>?_,fun id b a e=>?_⟩
 ·rcases k.from_ D hs with h|⟨id,b,a,e⟩|h
  ·exact c h
  ·exact f id b a e
  ·omega
 rcases k.own id b a with⟨id',t,c,u⟩|c
 ·exact f id' t c (u.trans e)
 ·omega
theorem vj.step{P:Program}{l:World}{n L:Nat->Prop}{N Z0:Nat}{o:Nat->GI}{p:Nat}{st:St}{S g:Nat->Prop}{G i:Nat->GI}{a:Act}{w w':World}{q:Hp}{j:Nat}{x:O}{u:Value}{dst:Option Tmp}
  (h:vj dr P l n L N Z0 o p st S G a w) (k:kx dr P st.Y st.Z S G w q j g i w') (r:qf w' g i j x u) (hd:∀d,dst=some d->d<N) :
  vj dr P l n L N Z0 o p ⟨put st.U dst x,q,j⟩ g i (a.put dst u) w':=by
 have s:=k.same h.inv;have m:∀b,jz st.Y G b->L b\/l.heap.size<=b:=by rintro b ⟨id,blk,h1,rfl⟩;exact h.own id blk h1
 refine⟨k.inv,fun t=>?_,?_,?_,fun b f=>k.keep b (h.s0 b f),fun b f=>?_,fun id blk f=>?_,?_,zw h.up k.up,fun id hid=>(k.loc id (yb hid h.up)).trans (h.loc id hid)⟩
 ·have c:qf w' g i j (st.U t) (a.tmps.getD t undef):=(h.jQ t).mono s k.up k.loc;cases dst with
  |none=>exact c
  |some d=>
   show qf w' g i j (qv st.U d x t) ((a.tmps.setIfInBounds d u).getD t undef);by_cases e:t=d
   ·subst e;have:t<a.tmps.size:=by rw[h.size];exact hd t rfl
    simpa[qv,this]using r
   ·have v:¬d=t:=fun h=>e h.symm
    simp only[qv,e,qR];have:(a.tmps.setIfInBounds d u).getD t undef=a.tmps.getD t undef:=by simp[fW v]
    rw[this];exact c
 ·cases dst with
  |none=>exact h.size
  |some d=>show(a.tmps.setIfInBounds d u).size=N;simp[h.size]
 ·cases dst<;>exact h.defers.step k
 ·rcases k.from_ b f with h1|h1|h1
  ·exact h.s1 b h1
  ·rcases m b h1 with h2|h2
   ·exact .inr (.inl h2)
   ·exact .inr (.inr h2)
  ·exact .inr (.inr (zw h.fr.size h1))
 ·rcases k.own id blk f with h1|h1
  ·exact m _ h1
  ·exact .inr (zw h.fr.size h1)
 ·refine h.fr.trans k.fr fun b f h1=>?_
  rcases m b h1 with h2|h2
  ·exact h2
  ·omega
variable{dr:Prop}
section
variable{P:Program}{w:World}{S:Nat->Prop}{G:Nat->GI}{Y:Hp}{Z:Nat}
theorem wJ.w8{x u:Value}(h:wJ w S (.v x) u):u=x/\lit x=true:=by cases h;exact⟨rfl,‹_›⟩
theorem qf.w8{x u:Value}(h:qf w S G Z (.v x) u):u=x/\lit x=true:=by
 cases h with
 |c h=>exact h.w8
theorem qf.Zj{u:Value}(h:qf w S G Z .nil u):u=.slice none 0 0:=by
 cases h with
 |c h=>cases h;rfl
theorem qf.oS{u:Value}(h:qf w S G Z .em u):∃ad cap,u=.slice (some ad) 0 cap/\cap<=maxLen:=by
 cases h with
 |c h=>cases h;exact⟨_,_,rfl,‹_›⟩
theorem qf.ch{s:Nat}{es:List zb}{u:Value}(h:qf w S G Z (.sl s es) u):wJ w S (.sl s es) u:=by
 cases h with
 |c h=>exact h
theorem qf.Vb{cs:zb}{u:Value}(h:qf w S G Z (.ptr cs) u):wJ w S (.ptr cs) u:=by
 cases h with
 |c h=>exact h
theorem qf.vK{id off n:Nat}{u:Value}(h:qf w S G Z (.own id off n) u):∃cap,id<Z/\n<=cap/\cap<=maxLen/\(off+cap)*(G id).s=(G id).z/\u=.slice (some ⟨(G id).g,off*(G id).s,none⟩) n cap:=by
 cases h with
 |c h=>cases h
 |own a b d e _=>exact⟨_,a,b,d,e,rfl⟩
theorem qf.xh{id off n:Nat}{u:Value}(h:qf w S G Z (.own id off n) u):0<(G id).s:=by
 cases h with
 |c h=>cases h
 |own _ _ _ _ a=>exact a
theorem qf.Wq{id i j:Nat}{u:Value}(h:qf w S G Z (.ref id i j) u):id<Z/\u=.pointer (some ⟨(G id).g,i*(G id).s+j,none⟩):=by
 cases h with
 |c h=>cases h
 |ref a _=>exact⟨a,rfl⟩
theorem qf.dX{id i j:Nat}{u:Value}(h:qf w S G Z (.ref id i j) u):0<(G id).s:=by
 cases h with
 |c h=>cases h
 |ref _ a=>exact a
theorem qf.Ho{id:Nat}{u:Value}(h:qf w S G Z (.mp id) u):id<Z/\(G id).s=0/\u=.map (some (G id).g):=by
 cases h with
 |c h=>cases h
 |mp a b=>exact⟨a,b,rfl⟩
theorem qf.Wr{cs:zb}{u:Value}(h:qf w S G Z (.agg cs) u):∃us:Array Value,u=.agg us/\cs.length=us.size/\∀(j:Nat) (d:O) (x:Value),cs[j]?=some d->us[j]?=some x->qf w S G Z d x:=by
 cases h with
 |c h=>cases h with
  |agg e f=>exact⟨_,rfl,e,fun j d x a b=>.c (f j d x a b)⟩
 |agg e f=>exact⟨_,rfl,e,f⟩
theorem qf.IF{cs:zb}{u:Value}(h:qf w S G Z (.wG cs) u):∃us:Array Value,u=.tuple us/\cs.length=us.size/\∀(j:Nat) (d:O) (x:Value),cs[j]?=some d->us[j]?=some x->qf w S G Z d x:=by
 cases h with
 |c h=>cases h with
  |wG e f=>exact⟨_,rfl,e,fun j d x a b=>.c (f j d x a b)⟩
 |wG e f=>exact⟨_,rfl,e,f⟩
theorem qf.AR{f:Fn}{xs ys:zb}{u:Value}(h:qf w S G Z (.fn f xs ys) u):∃us ts:Array Value,u=.func f us ts/\xs.length=us.size/\ys.length=ts.size /\
  (∀(j:Nat) (d:O) (x:Value),xs[j]?=some d->us[j]?=some x->qf w S G Z d x)/\∀(j:Nat) (d:O) (x:Value),ys[j]?=some d->ts[j]?=some x->qf w S G Z d x:=by
 cases h with
 |c h=>cases h with
  |fn e g i k=>exact⟨_,_,rfl,e,g,fun j d x a b=>.c (i j d x a b),fun j d x a b=>.c (k j d x a b)⟩
 |fn e g i k=>exact⟨_,_,rfl,e,g,i,k⟩
theorem jL:qf w S G Z (.wG []) undef:=.c (.wG rfl (by simp))
theorem lC{x:Value}{a:O}(h:ei x=some a):wJ w S a x/\x.oneCell'=true/\a.wZ=true:=by
 unfold ei at h;split at h<;>first
  |(injection h with h;subst h;exact⟨.nil,rfl,rfl⟩)
  |(injection h with h;subst h;exact⟨.v rfl,rfl,rfl⟩)
  |cases h
theorem jg:∀{l:List Value} {r:zb},vJ l=some r->r.length=l.length/\(∀(j:Nat) (a:O) (u:Value),r[j]?=some a->l[j]?=some u->wJ w S a u/\u.oneCell'=true/\a.wZ=true)
 |[],r,h=>by simp[vJ]at h;subst h;simp
 |x::l,r,h=>by
  simp only[vJ]at h;split at h
  ·rename_i p q Y d;injection h with h
   subst h;obtain⟨e,f⟩:=jg d;refine⟨by simp[e],fun j a u b c=>?_⟩;cases j with
   |zero=>simp at b c;subst b;subst c;exact lC Y
   |succ j=>exact f j a u (by simpa using b) (by simpa using c)
  ·cases h
theorem ga{x:Value}{a:O}(h:iT x=some a):wJ w S a x:=by
 unfold iT at h;split at h
 ·rename_i cs;cases b:vJ cs.toList with
  |none=>simp[b]at h
  |some r=>simp[b]at h;subst h;obtain⟨c,d⟩:=jg (w:=w) (S:=S) b;exact .agg (by simpa using c) (fun j a u e f=>(d j a u e (by simpa using f)).1)
 ·exact(lC h).1
theorem xc{U:Nat->O}{a:Act}(hs:∀t,qf w S G Z (U t) (a.tmps.getD t undef)){y:Operand}{b:O}(h:get U y=some b):qf w S G Z b (a.eval y):=by
 cases y with
 |tmp t=>simp[get]at h;subst h;exact hs t
 |const x=>exact .c (ga h)
 |global g=>simp[get]at h
 |func f=>simp[get]at h;subst h;exact .c (.fn rfl rfl (by simp) (by simp))
theorem ek{y:O}{u:Value}(h:qf w S G Z y u)(a:y.cells.all O.wZ=true):y.cells.length=u.cells.size/\∀(j:Nat) (d:O) (c:Value),y.cells[j]?=some d->u.cells[j]?=some c->qf w S G Z d c/\c.oneCell'=true:=by
 by_cases e:∃cs,y=.agg cs
 ·obtain⟨cs,rfl⟩:=e;obtain⟨us,rfl,k,l⟩:=h.Wr;refine⟨k,fun j d c b f=>?_⟩;have g:=l j d c b f;refine⟨g,g.Va ?_⟩;simp only[O.cells]at a b;exact zV.1 a d (zG b)
 ·have m:y.cells=[y]:=by cases y<;>first|rfl|exact(e ⟨_,rfl⟩).elim
  rw[m]at a⊢;have hi:y.wZ=true:=by simpa using a
  have i:=h.Va hi;have f:u.cells=#[u]:=by cases u<;>first|rfl|simp[Value.oneCell']at i
  rw[f];refine⟨rfl,fun j d c b a=>?_⟩;cases j with
  |zero=>simp at b a;subst b;subst a;exact⟨h,i⟩
  |succ j=>simp at b
def QG(dr:Prop)(P:Program)(w:World)(Y:Hp)(Z:Nat)(S:Nat->Prop)(G:Nat->GI)(x:O)(d:Hp)(a:Nat)(r:Result Value):Prop:=
 ∃v w' b c,r=.ok v w'/\kx dr P Y Z S G w d a b c w'/\qf w' b c a x v
theorem qt(hi:Inv P w S G Y Z){x:O}{v:Value}{r:Result Value}(a:r=.ok v w)(b:qf w S G Z x v):QG dr P w Y Z S G x Y Z r:=⟨v,w,S,G,a,.refl hi,b⟩
theorem Yh{t:TypeId}{n:Nat}(h:qz P t=some n):∃i,P.info? t=some i/\i.size=n:=by
 unfold qz at h;cases hi:P.info? t with
 |none=>simp[hi]at h
 |some i=>exact⟨i,rfl,by simpa[hi]using h⟩
theorem yc{t:TypeId}{n:Nat}(h:qz P t=some n)(w:World):(sizeOf t).run P w=.ok n w:=by obtain⟨i,hi,rfl⟩:=Yh h;simp[sizeOf,typeInfo,hi]
theorem xp{t:TypeId}{b:Bool}(h:yo P t=some b)(w:World):(isAgg t).run P w=.ok b w:=by
 unfold yo at h;cases a:P.underlying t with
 |none=>simp[a]at h
 |some d=>simp[a]at h;subst h;unfold isAgg;rw[vQ,zA a w];cases d<;>rfl
theorem Qk{t:TypeId}{z:zb}(h:yL P t=some z):∃i v,P.info? t=some i/\i.zero=some v/\vJ v.cells.toList=some z:=by
 unfold yL at h;cases hi:P.info? t with
 |none=>simp[hi]at h
 |some i=>
  cases a:i.zero with
  |none=>simp[hi,a]at h
  |some v=>exact⟨i,v,rfl,a,by simpa[hi,a]using h⟩
theorem Wd{t:TypeId}{i:TypeInfo}{v:Value}(hi:P.info? t=some i)(a:i.zero=some v)(w:World):(zeroValue t).run P w=.ok v w:=by simp[zeroValue,typeInfo,hi,a]
theorem EP(hi:Inv P w S G Y Z){t:TypeId}{n:Nat}{z:zb}(hs:qz P t=some n)(m:yL P t=some z)(f:0<n)(d:z.length=n) :
  QG dr P w Y Z S G (.ref Z 0 0) (qv Y Z (some ⟨t,n,false,[z]⟩)) (Z+1) ((Instr.alloc t true (.tuple #[])).run P w):=by
 obtain⟨i,v,o,p,q⟩:=Qk m;obtain⟨r,s⟩:=jg (w:=w) (S:=S) q;have e:(P.info? t).map (·.size)=some n:=hs;have a:v.cells.size=n:=by rw[<-d,r];simp
 have k:=kx.alloc (dr:=dr) hi v.cells t false [z] n f e (by simp[d]) (by simp[a]) (fun i j c u hi g=>by
  cases i with
  |succ i=>simp at hi
  |zero=>
   simp at hi;subst hi;have b:j<v.cells.size:=by rw[a,<-d];exact(zi.1 g).1
   refine⟨v.cells[j],by simp[b],?_⟩;have l:=s j u v.cells[j] g (by simp[b]);exact⟨fun h=>(by cases h),.c l.1,l.2.1⟩)
 refine⟨.pointer (some ⟨w.heap.size,0,none⟩),_,_,_,?_,k,?_⟩
 ·simp[Instr.alloc,Wd o p,newVar,newRow]
 ·have:=qf.ref (w:=w.alloc (.cells v.cells t)) (S:=S) (G:=qv G Z ⟨w.heap.size,v.cells.size,n⟩) (Z:=Z+1) (id:=Z) (i:=0) (j:=0) (by omega) (by simpa using f);simpa using this
theorem Nz(hi:Inv P w S G Y Z){t:TypeId}{n:Nat}{y:O}{u:Value}(hs:qz P t=some n)(m:qf w S G Z y u)(d:0<n)(e:y.cells.length=n)(o:y.cells.all O.wZ=true) :
  QG dr P w Y Z S G (.ref Z 0 0) (qv Y Z (some ⟨t,n,false,[y.cells]⟩)) (Z+1) ((Instr.box t u).run P w):=by
 obtain⟨f,p⟩:=ek m o;have b:u.cells.size=n:=by rw[<-f,e]
 have k:=kx.alloc (dr:=dr) hi u.cells t false [y.cells] n d hs (by simp[e]) (by simp[b]) (fun i j c q hi g=>by
  cases i with
  |succ i=>simp at hi
  |zero=>
   simp at hi;subst hi;have a:j<u.cells.size:=by rw[<-f];exact(zi.1 g).1
   refine⟨u.cells[j],by simp[a],?_⟩;have l:=p j q u.cells[j] g (by simp[a]);exact⟨fun h=>(by cases h),l.1,l.2⟩)
 refine⟨.pointer (some ⟨w.heap.size,0,none⟩),_,_,_,?_,k,?_⟩
 ·simp[Instr.box,newVar,newRow]
 ·have:=qf.ref (w:=w.alloc (.cells u.cells t)) (S:=S) (G:=qv G Z ⟨w.heap.size,u.cells.size,n⟩) (Z:=Z+1) (id:=Z) (i:=0) (j:=0) (by omega) (by simpa using d);simpa using this
theorem XF{t:TypeId}{cs:zb}{x:O}(h:qP P t cs=some x)(ad:Addr)(us:Nat->Value)(d:∀(j:Nat) (c:O),cs[j]?=some c->w.cell? (ad.add j)=some (us j)/\qf w S G Z c (us j)) :
  ∃v,(loadVar t ad).run P w=.ok v w/\qf w S G Z x v:=by
 unfold qP at h;split at h
 ·rename_i n e hs;split at h
  ·rename_i g;injection h with h
   subst h;have i:(loadCells ad n).run P w=.ok ((List.range n).map us).toArray w:=by
    have:=run_loadCells_list (P:=P) w ad ((List.range n).map us) (fun j v a=>by
     have b:j<n:=by simpa using(zi.1 a).1
     have Y:=d j (cs[j]'(by omega)) (zl (by omega));rw[Y.1];rw[qo,jZ b]at a;simpa using a)
    simpa using this
   refine⟨.agg ((List.range n).map us).toArray,?_,.agg ?_ ?_⟩
   ·simp[loadVar,xp e,yc hs,i]
   ·simp;omega
   ·intro j c u a f;rw[qu]at a;split at a
    ·rename_i b;have:=(d j c a).2;simp[b]at f;rwa [<-f]
    ·cases a
  ·cases h
 ·rename_i n e hs;have:=d 0 x h;refine⟨us 0,?_,this.2⟩;have k:ad.add 0=ad:=rfl;rw[k]at this;simp[loadVar,xp e,this.1]
 ·cases h
theorem rA(hi:Inv P w S G Y Z){t:TypeId}{p x:O}{u:Value}(h:xv P Y t p=some x)(l:qf w S G Z p u):QG dr P w Y Z S G x Y Z ((Instr.loadAt t u).run P w):=by
 unfold xv at h;split at h
 ·rename_i cs;cases l.Vb with
  |ptr us m r=>obtain⟨v,n,o⟩:=XF (G:=G) (Z:=Z) (w:=w) (S:=S) h _ us (fun j f y=>⟨(m j f y).2,.c (r j f y)⟩);exact qt hi (v:=v) (by simp[Instr.loadAt,Instr.sureAddr,n]) o
 ·rename_i id i j;have q:=l.dX;obtain⟨hid,rfl⟩:=l.Wq;split at h
  ·rename_i b A;split at h
   ·rename_i c B;obtain⟨a,m,r,C⟩:=(hi.live id b A).row q;have d:∀k:Nat,w.cell? ((⟨(G id).g,i*(G id).s+j,none⟩:Addr).add k)=a[i*(G id).s+j+k]?:=by intro k;rw[ka,zbI w _ _ a _ _ m]
    obtain⟨v,n,o⟩:=XF (G:=G) (Z:=Z) (w:=w) (S:=S) h ⟨(G id).g,i*(G id).s+j,none⟩ (fun k=>(a[i*(G id).s+j+k]?).getD undef) (fun k f z=>by
     rw[qN]at z;obtain⟨u,D,E⟩:=C i (j+k) c f B z;rw[d];have e:i*(G id).s+j+k=i*(G id).s+(j+k):=by omega
     rw[e,D];exact⟨rfl,E.2.1⟩)
    exact qt hi (v:=v) (by simp[Instr.loadAt,Instr.sureAddr,n]) o
   ·cases h
  ·cases h
 ·cases h
end
variable{dr:Prop}
section
variable{P:Program}{w:World}{S:Nat->Prop}{G:Nat->GI}{Y:Hp}{Z:Nat}
def Zip{α a:Type}(R:α->a->Prop)(xs:List α)(us:List a):Prop:=xs.length=us.length/\∀(j:Nat) (x:α) (u:a),xs[j]?=some x->us[j]?=some u->R x u
theorem Zip.nil{α a:Type}{R:α->a->Prop}:Zip R [] ([]:List a):=⟨rfl,by simp⟩
theorem Zip.cons{α a:Type}{R:α->a->Prop}{x:α}{u:a}{xs:List α}{us:List a}(h:R x u)(t:Zip R xs us):Zip R (x::xs) (u::us):=by
 refine⟨by simp[t.1],fun j y v b c=>?_⟩;cases j with
 |zero=>simp at b c;subst b;subst c;exact h
 |succ j=>exact t.2 j y v (by simpa using b) (by simpa using c)
theorem Zip.jC{α b:Type}{R:α->b->Prop}{x:α}{xs:List α}{us:List b}(h:Zip R (x::xs) us):∃u a,us=u::a/\R x u/\Zip R xs a:=by
 cases us with
 |nil=>have:=h.1;simp at this
 |cons u a=>refine⟨u,a,rfl,h.2 0 x u rfl rfl,by have:=h.1;simpa using this,fun j y v c d=>h.2 (j+1) y v (by simpa using c) (by simpa using d)⟩
theorem Zip.WO{α a:Type}{R:α->a->Prop}{us:List a}(h:Zip R ([]:List α) us):us=[]:=jb h.1.symm
theorem Zip.imp{α c:Type}{R d:α->c->Prop}{xs:List α}{us:List c}(h:Zip R xs us)(e:∀x u,R x u->d x u):Zip d xs us:=⟨h.1,fun j x u a b=>e x u (h.2 j x u a b)⟩
theorem xk{h:Hp}{i k:Nat}{b:kv}(a:qv h i none k=some b):h k=some b:=by
 unfold qv at a;split at a
 ·cases a
 ·exact a
theorem rB{x:O}{u:Value}(h:qf w S G Z x u)(hs:x.Yd=true):wJ w S x u:=by
 cases x with
 |v y=>obtain⟨rfl,a⟩:=h.w8;exact .v a
 |nil=>rw[h.Zj];exact .nil
 |em=>obtain⟨ad,cap,rfl,b⟩:=h.oS;exact .em b
 |sl s es=>exact h.ch
 |ptr cs=>exact h.Vb
 |_=>simp[O.Yd]at hs
theorem A7{x:O}{u:Value}(h:qf w S G Z x u)(hs:x.shut=true):wJ w S x u:=by
 cases x with
 |agg cs=>obtain⟨us,rfl,d,e⟩:=h.Wr;exact .agg d fun j c y a b=>rB (e j c y a b) (zV.1 hs c (zG a))
 |_=>exact rB h hs
theorem JL(hi:Inv P w S G Y Z){x y:O}{Y1:Hp}{u:Value}(h:wY Y x=some (y,Y1))(d:qf w S G Z x u) :
  ∃g,kx dr P Y Z S G w Y1 Z g G w/\wJ w g y u/\(x.vk=false->g=S):=by
 have c:∀{m:O} {o:Hp},some (x,Y)=some (m,o)->wJ w S x u->∃g,kx dr P Y Z S G w o Z g G w/\wJ w g m u/\(x.vk=false->g=S):=by
  intro m o e z;injection e with e
  injection e with A B;subst A;subst B;exact⟨S,.refl hi,z,fun _=>rfl⟩
 unfold wY at h;split at h
 ·rename_i id off n;split at h
  ·rename_i b s;split at h
   ·rename_i i;injection h with h
    injection h with p q;subst p;subst q;obtain⟨cap,t,r,C,H,rfl⟩:=d.vK;exact⟨_,kx.kill hi s,EO hi s d.xh i.1 i.2 r C _ (fun k D=>.inl D) (.inr rfl),fun h=>by simp[O.vk]at h⟩
   ·cases h
  ·cases h
 ·obtain⟨rfl,E⟩:=d.w8;exact c h (.v E)
 ·have:=d.Zj;subst this;exact c h .nil
 ·exact c h d.ch
 ·obtain⟨ad,cap,rfl,F⟩:=d.oS;exact c h (.em F)
 ·exact c h d.Vb
 ·rename_i f xs ys;split at h
  ·rename_i i;obtain⟨us,ts,rfl,p,q,t,r⟩:=d.AR;exact c h (.fn p q (fun j l y a b=>A7 (t j l y a b) (zV.1 i.1 l (zG a))) (fun j l y a b=>A7 (r j l y a b) (zV.1 i.2 l (zG a))))
  ·cases h
 ·cases h
theorem Y5{Y Y1:Hp}{x y:O}(h:wY Y x=some (y,Y1)):y.wZ=true:=by
 unfold wY at h;split at h<;>(try (split at h))<;>(try (split at h))<;>first
  |(injection h with h;injection h with a b;subst a;rfl)
  |cases h
theorem Y6:∀{xs ys:zb} {Y Y1:Hp} {S:Nat->Prop} {us:List Value} (_:Inv P w S G Y Z),wA Y xs=some (ys,Y1)->Zip (qf w S G Z) xs us ->
  ∃b,kx dr P Y Z S G w Y1 Z b G w/\Zip (wJ w b) ys us/\ys.all O.wZ=true/\(xs.any O.vk=false->b=S)
 |[],ys,Y,Y1,S,us,hi,h,c=>by
  simp only[wA]at h;injection h with h
  injection h with f g;subst f;subst g;rw[c.WO];exact⟨S,.refl hi,.nil,rfl,fun _=>rfl⟩
 |x::l,ys,Y,Y1,S,us,hi,h,c=>by
  simp only[wA]at h;split at h
  ·rename_i y f i;split at h
   ·rename_i r g k;injection h with h
    injection h with m n;subst m;subst n;obtain⟨u,o,rfl,p,d⟩:=c.jC;obtain⟨q,a,s,n1⟩:=JL (dr:=dr) hi i p;have t:=a.same hi;obtain⟨v,j,z,A,B⟩:=Y6 (S:=q) a.inv k (d.imp fun x u C=>C.mono t (zf _) (fun _ _=>rfl));refine⟨v,a.trans j,.cons (s.mono (j.same a.inv)) z,by simp[A,Y5 i],fun e=>?_⟩;simp only[y9,wE]at e;rw[B e.2,n1 e.1]
   ·cases h
  ·cases h
theorem kN(hi:Inv P w S G Y Z){x y:O}{Y1:Hp}{u:Value}(h:qA Y x=some (y,Y1))(g:qf w S G Z x u) :
  ∃d,kx dr P Y Z S G w Y1 Z d G w/\wJ w d y u/\y.cells.all O.wZ=true/\(x.noOwn=true->d=S):=by
 unfold qA at h;split at h
 ·rename_i cs;split at h
  ·rename_i l Y2 i;injection h with h
   injection h with m n;subst m;subst n;obtain⟨us,rfl,o,p⟩:=g.Wr;obtain⟨d,k,z,q,e⟩:=Y6 (us:=us.toList) hi i ⟨by simpa using o,fun j f x a b=>p j f x a (by simpa using b)⟩;exact⟨d,k,.agg (by have:=z.1;simpa using this) (fun j f x a b=>z.2 j f x a (by simpa using b)),q,fun h=>e (by simpa[O.noOwn]using h)⟩
  ·cases h
 ·obtain⟨d,k,c,e⟩:=JL hi h g;refine⟨d,k,c,?_,fun r=>e ?_⟩
  ·have:=Y5 h;cases y<;>simp_all[O.cells,O.wZ]
  ·cases x<;>simp_all[O.noOwn,O.vk]
theorem jh:∀{xs ys:zb} {Y Y1:Hp} {S:Nat->Prop} {us:List Value} (_:Inv P w S G Y Z),zD Y xs=some (ys,Y1)->Zip (qf w S G Z) xs us ->
  ∃b,kx dr P Y Z S G w Y1 Z b G w/\Zip (wJ w b) ys us/\(xs.all O.noOwn=true->b=S)
 |[],ys,Y,Y1,S,us,hi,h,c=>by
  simp only[zD]at h;injection h with h
  injection h with f g;subst f;subst g;rw[c.WO];exact⟨S,.refl hi,.nil,fun _=>rfl⟩
 |x::l,ys,Y,Y1,S,us,hi,h,c=>by
  simp only[zD]at h;split at h
  ·rename_i y f j;split at h
   ·rename_i r g k;injection h with h
    injection h with m n;subst m;subst n;obtain⟨u,o,rfl,p,d⟩:=c.jC;obtain⟨q,a,s,_,n1⟩:=kN (dr:=dr) hi j p;have t:=a.same hi;obtain⟨v,i,z,A⟩:=jh (S:=q) a.inv k (d.imp fun x u B=>B.mono t (zf _) (fun _ _=>rfl));refine⟨v,a.trans i,.cons (s.mono (i.same a.inv)) z,fun e=>?_⟩;simp only[wI,zz]at e;rw[A e.2,n1 e.1]
   ·cases h
  ·cases h
theorem Yi(hi:Inv P w S G Y Z){x y:O}{Y1:Hp}{u:Value}(h:freeze Y x=some (y,Y1))(f:qf w S G Z x u) :
  ∃d,kx dr P Y Z S G w Y1 Z d G w/\wJ w d y u:=by
 unfold freeze at h;split at h
 ·rename_i cs;split at h
  ·rename_i l Y2 g;injection h with h
   injection h with i m;subst i;subst m;obtain⟨us,rfl,n,o⟩:=f.IF;obtain⟨d,k,z,_⟩:=jh (us:=us.toList) hi g ⟨by simpa using n,fun j e x a b=>o j e x a (by simpa using b)⟩;exact⟨d,k,.wG (by have:=z.1;simpa using this) (fun j e x a b=>z.2 j e x a (by simpa using b))⟩
  ·cases h
 ·obtain⟨d,k,c,_⟩:=kN hi h f;exact⟨d,k,c⟩
theorem WR:∀(l cs:zb) (off:Nat),(ja cs off l).length=cs.length
 |[],cs,off=>rfl
 |x::l,cs,off=>by simp[ja,WR l]
theorem Kk:∀(l cs:zb) (off k:Nat),off+l.length<=cs.length->(ja cs off l)[k]?=if off<=k/\k<off+l.length then l[k-off]? else cs[k]?
 |[],cs,off,k,_=>by simp[ja];omega
 |x::l,cs,off,k,h=>by
  simp only[zO]at h;have b:=Kk l (cs.set off x) (off+1) k (by simp;omega);simp only[ja];rw[b];by_cases a:off+1<=k/\k<off+1+l.length
  ·rw[zd a,zd ⟨by omega,by simp;omega⟩];obtain⟨d,rfl⟩:∃d,k=off+1+d:=⟨k-(off+1),by omega⟩;rw[show off+1+d-(off+1)=d from by omega,show off+1+d-off=d+1 from by omega];simp
  ·rw[zc a];by_cases c:k=off
   ·subst c;rw[zd ⟨by omega,by simp⟩,ve (by omega)];simp
   ·rw[zc (by simp;omega),yH (by omega)]
theorem vo{α:Type}(l vs:List α)(o k:Nat)(h:o+vs.length<=l.length):(l.take o++vs++l.drop (o+vs.length))[k]?=if o<=k/\k<o+vs.length then vs[k-o]? else l[k]?:=by
 have a:(l.take o).length=o:=by simp;omega
 rw[qM];by_cases b:k<o
 ·rw[zc (by omega),zY (by omega),qu,zd b]
 ·rw[zS (by omega),a];by_cases c:k<o+vs.length
  ·rw[zd ⟨by omega,c⟩,zY (by omega)]
  ·rw[zc (by omega),zS (by omega),qN];congr 1;omega
theorem We{α:Type}(l vs:List α)(o:Nat)(h:o+vs.length<=l.length):(l.take o++vs++l.drop (o+vs.length)).length=l.length:=by simp;omega
theorem lD{s i j i':Nat}(c:j<s)(b:i'≠i)(a n:Nat)(d:a+n<=s):¬(i*s+a<=i'*s+j/\i'*s+j<i*s+a+n):=by
 rcases Nat.lt_or_gt_of_ne b with h|h
 ·have:(i'+1)*s<=i*s:=zK s h;rw[qI]at this;omega
 ·have:(i+1)*s<=i'*s:=zK s h;rw[qI]at this;omega
theorem kR{i j n s:Nat}(hi:i<n)(a:j<s):i*s+j<n*s:=by have:(i+1)*s<=n*s:=zK s hi;rw[qI]at this;omega
theorem tt(hi:Inv P w S G Y Z){id i j:Nat}{b:kv}{c ys:zb}{vs:List Value}(J:Y id=some b)(d:0<(G id).s)(B:b.es[i]?=some c)(N:ys.length=vs.length)(Q:j+ys.length<=c.length)
  (K:∀(k:Nat) (p:O) (u:Value),ys[k]?=some p->vs[k]?=some u->jl w S G Z b.arr p u) :
  ∃w',(storeCells ⟨(G id).g,i*(G id).s+j,none⟩ vs).run P w=.ok () w'/\kx dr P Y Z S G w (qv Y id (some ⟨b.e,b.s,b.arr,b.es.set i (ja c j ys)⟩)) Z S G w':=by
 have l:=hi.live id b J;obtain⟨n,R,T,L⟩:=l.row d;have C:c.length=(G id).s:=l.len d c (zG B);have q:i<b.es.length:=(zi.1 B).1;have m:i*(G id).s+j+vs.length<=n.size:=by have:(i+1)*(G id).s<=b.es.length*(G id).s:=zK _ q;have:=l.fit d;rw[qI]at *;omega
 have D:∀v∈vs,v.oneCell'=true:=by
  intro v W;obtain⟨k,r⟩:=oR W;have E:k<ys.length:=by rw[N];exact(zi.1 r).1
  exact(K k ys[k] v (zl E) r).2.2
 have t:=run_storeCells_at P (G id).g (i*(G id).s+j) b.e vs 0 n w R (by simpa using m) D;simp only[QE]at t;have x:i*(G id).s+j+vs.length<=n.toList.length:=by simpa using m
 refine⟨_,t,kx.set hi J d _ _ ?_ ?_ ?_ ?_⟩
 ·rw[jv,We _ _ _ x];simpa using T
 ·intro A F;rcases vH F with h|h
  ·exact l.len d A h
  ·subst h;rw[WR];exact C
 ·simpa using l.fit d
 ·intro i' j' A p a f;have M:i'<b.es.length:=by have:=(zi.1 a).1;simpa using this
  rw[List.getElem?_toArray,vo _ _ _ _ x];by_cases o:i'=i
  ·subst o;rw[ve q]at a;injection a with a
   subst a;rw[Kk _ _ _ _ Q]at f;by_cases y:j<=j'/\j'<j+ys.length
   ·rw[zd y]at f;rw[zd ⟨by omega,by omega⟩];have r:j'-j<vs.length:=by omega
    refine⟨vs[j'-j],?_,K (j'-j) p _ f (zl r)⟩;rw[show i'*(G id).s+j'-(i'*(G id).s+j)=j'-j from by omega];exact zl r
   ·rw[zc y]at f;rw[zc (by omega)];obtain⟨u,H,I⟩:=L i' j' c p B f;exact⟨u,by simpa using H,I⟩
  ·rw[yH (fun e=>o e.symm)]at a;have z:j'<(G id).s:=by rw[<-l.len d A (zG a)];exact(zi.1 f).1
   rw[zc (lD z o j vs.length (by omega))];obtain⟨u,H,I⟩:=L i' j' A p a f;exact⟨u,by simpa using H,I⟩
theorem ER(hi:Inv P w S G Y Z){t:TypeId}{a x:O}{K:Hp}{u v:Value}(h:QU P Y t a x=some K)(ha:qf w S G Z a u)(hx:qf w S G Z x v) :
  ∃w' N Q,(Instr.storeAt t u v).run P w=.ok () w'/\kx dr P Y Z S G w K Z N Q w':=by
 unfold QU at h;split at h
 ·rename_i id i j;have R:=ha.dX;obtain⟨hid,rfl⟩:=ha.Wq;split at h
  ·rename_i T E;have F:∀(y:O) (Y1:Hp) (z:Nat->Prop),kx dr P Y Z S G w Y1 Z z G w->qf w z G Z y v->(T.arr=true->wJ w z y v)->(∀b,Y1 id=some b->b.arr=T.arr) ->
     (match Y1 id,qz P t with
      |some b,some n=>match b.es[i]? with
       |some c=>if y.cells.length=n/\j+n<=c.length/\y.cells.all O.wZ=true then some (qv Y1 id (some ⟨b.e,b.s,b.arr,b.es.set i (ja c j y.cells)⟩))else none
       |none=>none
      |_,_=>none)=some K->∃w' N Q,(Instr.storeAt t (.pointer (some ⟨(G id).g,i*(G id).s+j,none⟩)) v).run P w=.ok () w'/\kx dr P Y Z S G w K Z N Q w':=by
    intro y Y1 z L hy W X h;split at h
    ·rename_i b n f hn;split at h
     ·rename_i c M;split at h
      ·rename_i A;obtain⟨e1,e2,e3⟩:=A;injection h with h
       subst h;obtain⟨hl,hr⟩:=ek hy e3;have hsz:v.cells.size=n:=by rw[<-hl,e1]
       obtain⟨w',o1,k2⟩:=tt (P:=P) L.inv (ys:=y.cells) (vs:=v.cells.toList) (j:=j) f R M (by simpa using hl) (by rw[e1];exact e2) (fun k pv u D hu=>by
        have m:v.cells[k]?=some u:=by simpa using hu
        have h6:=hr k pv u D m;refine⟨fun H=>?_,h6.1,h6.2⟩;rw[X b f]at H;have B:=W H;by_cases I:∃cs,y=.agg cs
        ·obtain⟨cs,rfl⟩:=I;cases B with
         |agg g1 g2=>exact g2 k pv u D m
        ·have J:y.cells=[y]:=by cases y<;>first|rfl|exact(I ⟨_,rfl⟩).elim
         have ho:=B.Va (by rw[J]at e3;simpa using e3);have hv1:v.cells=#[v]:=by cases v<;>first|rfl|simp[Value.oneCell']at ho
         rw[J]at D;rw[hv1]at m;cases k with
         |zero=>simp at D m;subst D;subst m;exact B
         |succ k=>simp at D)
       refine⟨w',z,G,?_,L.trans k2⟩;simp[Instr.storeAt,Instr.sureAddr,storeVar,yc hn,hsz,o1]
      ·cases h
     ·cases h
    ·cases h
   by_cases o:T.arr=true
   ·simp only[o,qH]at h;split at h
    ·rename_i y Y1 d;obtain⟨z,L,M,_,_⟩:=kN hi d hx;refine F y Y1 z L (.c M) (fun _=>M) (fun b f=>?_) h;have:∀b,Y1 id=some b->Y id=some b:=fun b f=>by
      have p:∀{x y:O} {h q:Hp} (_:wY h x=some (y,q)) (k:Nat) (b:kv),q k=some b->h k=some b:=by
       intro x y h q d k b f;unfold wY at d;split at d<;>(try (split at d))<;>(try (split at d))<;>first
        |(injection d with d;injection d with e1 e2;subst e2
          first
           |exact f
           |exact xk f)
        |cases d
      have C:∀(xs ys:zb) (h q:Hp) (_:wA h xs=some (ys,q)) (k:Nat) (b:kv),q k=some b->h k=some b:=by
       intro xs
       induction xs with
       |nil=>intro ys h q d k b f;simp only[wA]at d;injection d with d;injection d with _ e;subst e;exact f
       |cons x l ih=>
        intro ys h q d k b f;simp only[wA]at d;split at d
        ·rename_i y h1 hc1;split at d
         ·rename_i r h2 hr;injection d with d
          injection d with _ e;subst e;exact p hc1 k b (ih _ _ _ hr k b f)
         ·cases d
        ·cases d
      unfold qA at d;split at d
      ·split at d
       ·rename_i l h2 hcs;injection d with d
        injection d with _ e;subst e;exact C _ _ _ _ hcs id b f
       ·cases d
      ·exact p d id b f
     have:=this b f;rw[E]at this;injection this with this
     rw[this]
    ·cases h
   ·simp only[o]at h;exact F x Y S (.refl hi) hx (fun h=>(o h).elim) (fun b f=>by rw[E]at f;injection f with f;rw[f]) h
  ·cases h
 ·cases h
end
variable{dr:Prop}
section
variable{P:Program}{w:World}{S:Nat->Prop}{G:Nat->GI}{Y:Hp}{Z:Nat}
theorem VD{t:TypeId}{f o n:Nat}{b:Bool}(h:zJ P t f=some (o,n,b)):∃(a:Array Field) (x:Field),P.underlying t=some (.struct a)/\a[f]?=some x/\x.offset=o/\qz P x.type=some n/\yo P x.type=some b:=by
 unfold zJ at h;split at h
 ·rename_i a c;split at h
  ·rename_i x d;split at h
   ·rename_i l m e g;injection h with h
    injection h with i h;injection h with j k;subst i;subst j;subst k;exact⟨a,x,c,d,rfl,e,g⟩
   ·cases h
  ·cases h
 ·cases h
theorem lE(hi:Inv P w S G Y Z){t:TypeId}{f:Nat}{p x:O}{u:Value}(h:yX P t f p=some x)(k:qf w S G Z p u):QG dr P w Y Z S G x Y Z ((Instr.fieldAt t u f).run P w):=by
 have a:∀{o n:Nat} {g:Bool} {ad:Addr},zJ P t f=some (o,n,g)->n≠0->(Instr.fieldAt t (.pointer (some ad)) f).run P w=.ok (.pointer (some (ad.add o))) w:=by intro o n g ad b d;obtain⟨y,x,q,r,rfl,hs,_⟩:=VD b;simp[Instr.fieldAt,zA q,r,Instr.sureAddr,fieldPlace,yc hs,d]
 unfold yX at h;split at h
 ·rename_i cs;split at h
  ·rename_i o n g b;split at h
   ·cases h
   ·rename_i d;injection h with h
    subst h;cases k.Vb with
    |ptr us s v=>
     refine qt hi (a b d) (.c (.ptr (fun j=>us (o+j)) (fun j l e=>?_) (fun j l e=>?_)))
     ·rw[qN]at e;rw[QT,ck];exact s _ l e
     ·rw[qN]at e;exact v _ l e
  ·cases h
 ·rename_i id i j;have m:=k.dX;obtain⟨hid,rfl⟩:=k.Wq;split at h
  ·rename_i o n g b;split at h
   ·cases h
   ·rename_i d;injection h with h
    subst h;refine qt hi (a b d) ?_;rw[ka,lv];exact .ref hid m
  ·cases h
 ·cases h
theorem ES(hi:Inv P w S G Y Z){t:TypeId}{f:Nat}{p x:O}{u:Value}(h:Z7 P t f p=some x)(m:qf w S G Z p u):QG dr P w Y Z S G x Y Z ((Instr.field t u f).run P w):=by
 unfold Z7 at h;split at h
 ·rename_i cs;obtain⟨us,rfl,q,l⟩:=m.Wr;split at h
  ·rename_i o n d;split at h
   ·rename_i r;injection h with h
    subst h;obtain⟨s,x,e,g,rfl,hs,i⟩:=VD d;refine qt (v:=.agg (us.extract x.offset (x.offset+n))) hi ?_ (.agg ?_ ?_)
    ·simp[Instr.field,zA e,g,asAgg,part,xp i,yc hs]
    ·simp;omega
    ·intro j z v a c;rw[qu]at a;split at a
     ·rw[qN]at a;rw[Array.getElem?_extract]at c;split at c
      ·exact l _ z v a c
      ·cases c
     ·cases a
   ·cases h
  ·rename_i o n d;obtain⟨s,y,e,g,rfl,hs,i⟩:=VD d;have k:y.offset<us.size:=by rw[<-q];exact(zi.1 h).1
   have b:us[y.offset]?=some us[y.offset]:=by simp[k]
   refine qt (v:=us[y.offset]) hi ?_ (l _ x _ h b);simp[Instr.field,zA e,g,asAgg,part,xp i,b]
  ·cases h
 ·cases h
theorem kO{t e:TypeId}(h:yf P t=some e):P.underlying t=some (.slice e):=by
 unfold yf at h;split at h
 ·injection h with h;subst h;assumption
 ·cases h
theorem NA{t:TypeId}{m:Nat}{e:TypeId}(h:A6 P t=some (m,e)):P.underlying t=some (.array m e):=by
 unfold A6 at h;split at h
 ·injection h with h;injection h with a b;subst a;subst b;assumption
 ·cases h
theorem o6(hi:Inv P w S G Y Z){t:TypeId}{p x:O}{u:Value}{k:IntKind}{i:Int}(h:Zb P t i p=some x)(o:qf w S G Z p u):QG dr P w Y Z S G x Y Z ((Instr.indexAt t u (.int k i)).run P w):=by
 unfold Zb at h;split at h
 ·rename_i m e A;have y:=NA A;split at h
  ·rename_i n z;split at h
   ·rename_i B;obtain⟨d,f⟩:=B;split at h
    ·rename_i cs;injection h with h
     subst h;cases o.Vb with
     |ptr us C D=>
      rename_i ad;refine qt (v:=.pointer (some (ad.add (i.toNat*n)))) hi ?_ (.c (.ptr (fun j=>us (i.toNat*n+j)) (fun j q l=>?_) (fun j q l=>?_)))
      ·simp[Instr.indexAt,zA y,asIntOf,d,f,Instr.sureAddr,yc z]
      ·rw[qN]at l;rw[QT,ck];exact C _ q l
      ·rw[qN]at l;exact D _ q l
    ·rename_i id a b;injection h with h
     subst h;have r:=o.dX;obtain⟨hid,rfl⟩:=o.Wq;refine qt (v:=.pointer (some ((⟨(G id).g,a*(G id).s+b,none⟩:Addr).add (i.toNat*n)))) hi ?_ ?_
     ·simp[Instr.indexAt,zA y,asIntOf,d,f,Instr.sureAddr,yc z]
     ·rw[ka,lv];exact .ref hid r
    ·cases h
   ·cases h
  ·cases h
 ·cases h
theorem lF(hi:Inv P w S G Y Z){t:TypeId}{p q x:O}{u v:Value}(h:qJ P Y t p q=some x)(r:qf w S G Z p u)(M:qf w S G Z q v):QG dr P w Y Z S G x Y Z ((Instr.indexAt t u v).run P w):=by
 unfold qJ at h;split at h
 ·rename_i k i;obtain⟨rfl,_⟩:=M.w8;split at h
  ·rename_i e N;have J:=kO N;split at h
   ·rename_i n s es hs;split at h
    ·rename_i y;obtain⟨rfl,Q,d⟩:=y;cases a:es[i.toNat]? with
     |none=>simp[a]at h
     |some c=>
      simp[a]at h;subst h;cases r.ch with
      |sl us h0 h1 h2 z B K=>
       rename_i A cap;have R:=z c (zG a);have T:i.toNat<es.length:=(zi.1 a).1;have C:c[0]?=some (c[0]'(by omega)):=zl (by omega);obtain⟨ad,rfl,hS,_⟩:=B i.toNat 0 c _ a C;have f:i<es.length:=by omega
       refine qt (v:=.pointer (some (ad.add (i.toNat*s)))) hi ?_ (.c (.ptr (fun j=>us i.toNat j) (fun j D E=>?_) (fun j D E=>K i.toNat j c D a E)))
       ·simp[Instr.indexAt,zA J,asIntOf,d,f,yc hs]
       ·obtain⟨W,F,L,H,_⟩:=B i.toNat j c D a E;injection F with F;subst F;rw[QT,ck];exact⟨L,H⟩
    ·cases h
   ·rename_i n id off m hs;split at h
    ·rename_i b X;split at h
     ·rename_i y;obtain⟨rfl,hn0,d,hik⟩:=y;injection h with h
      subst h;have l:=r.xh;obtain⟨cap,z,B,K,L,rfl⟩:=r.vK;have I:(G id).s=n:=by
       have:=(hi.live id b X).size l;have H:(P.info? b.e).map (·.size)=some n:=hs;rw[H]at this;injection this with this
       exact this.symm
      have o:i<m:=by omega
      refine qt (v:=.pointer (some ((⟨(G id).g,off*(G id).s,none⟩:Addr).add (i.toNat*n)))) hi ?_ ?_
      ·simp[Instr.indexAt,zA J,asIntOf,d,o,yc hs]
      ·rw[ka,<-I,<-qI];have:=qf.ref (w:=w) (S:=S) (G:=G) (Z:=Z) (id:=id) (i:=off+i.toNat) (j:=0) z l;simpa using this
     ·cases h
    ·cases h
   ·cases h
  ·exact o6 hi h r
 ·cases h
theorem ET(hi:Inv P w S G Y Z){t:TypeId}{p q x:O}{u v:Value}(h:QV P t p q=some x)(a:qf w S G Z p u)(d:qf w S G Z q v):QG dr P w Y Z S G x Y Z ((Instr.index t u v).run P w):=by
 unfold QV at h;split at h
 ·rename_i s k i;obtain⟨rfl,_⟩:=d.w8;obtain⟨rfl,_⟩:=a.w8;split at h
  ·rename_i e;split at h
   ·rename_i f;split at h
    ·rename_i b g;injection h with h
     subst h;refine qt (v:=.int .u8 b.toNat) hi ?_ (.c (.v rfl));simp[Instr.index,zA e,asIntOf,f,g]
    ·cases h
   ·cases h
  ·cases h
 ·cases h
theorem tw(hi:Inv P w S G Y Z){vs:zb}{x:O}{i:Nat}{u:Value}(h:vs[i]?=some x)(c:qf w S G Z (.wG vs) u):QG dr P w Y Z S G x Y Z ((Instr.extract u i).run P w):=by
 obtain⟨us,rfl,d,e⟩:=c.IF;have b:i<us.size:=by rw[<-d];exact(zi.1 h).1
 have a:us[i]?=some us[i]:=by simp[b]
 exact qt (v:=us[i]) hi (by simp[Instr.extract,a]) (e i x _ h a)
theorem xw(x:Value)(h:lit x=true):qf w S G Z (.v x) x:=.c (.v h)
theorem NB{op:BinOp}{k:IntKind}{a b:Int}{x:O}(h:Nv op k a b=some x)(t:TypeId)(w:World):∃v,x=.v v/\lit v=true/\(binOp op t (.int k a) (.int k b)).run P w=.ok v w:=by
 unfold Nv at h;split at h<;>(try (split at h))<;>first
  |(injection h with h;subst h;exact⟨_,rfl,rfl,by simp[binOp,Op.intArith,Op.intDiv,Op.intCmp,Op.intBits,Op.shift, *]⟩)
  |cases h
theorem NC{op:BinOp}{a b:ByteArray}{x:O}(h:Nw op a b=some x)(t:TypeId)(w:World):∃v,x=.v v/\lit v=true/\(binOp op t (.string a) (.string b)).run P w=.ok v w:=by
 have d:IntKind.i64.max=9223372036854775807:=by decide
 unfold Nw at h;split at h
 ·split at h
  ·rename_i c;injection h with h
   subst h;refine⟨_,rfl,rfl,?_⟩;have e:(a.size:Int)+(b.size:Int)<=9223372036854775807:=by simp only[maxLen]at c;omega
   simp[binOp,Op.stringOp,e]
  ·cases h
 all_goals first
  |(injection h with h;subst h;exact⟨_,rfl,rfl,by simp[binOp,Op.stringOp]⟩)
  |cases h
theorem Y7{op:BinOp}{t:TypeId}{x y:Operand}{a b:Value}(h:lit a=true)(c:a≠.nilIface)(w:World):(eqGuard op t x y a b).run P w=.ok () w:=by unfold eqGuard;cases op<;>simp<;>(cases a<;>cases b<;>simp_all[lit])
theorem HB{t:TypeId}{k:Nat}(h:IM P t=some k):yo P t=some false:=by
 unfold IM at h;unfold yo;split at h<;>first
  |(rename_i a;rw[a];rfl)
  |cases h
theorem cn(w:World)(d:Nat)(B C:Array Value):∀(D:List Field) (k:Nat) (N:List Nat) (E F:zb) (r:Bool),rv P k D=some N->wX N E F=some r ->
  (∀(j:Nat) (t:O),E[j]?=some t->∃u,B[k+j]?=some u/\qf w S G Z t u)->(∀(j:Nat) (t:O),F[j]?=some t->∃u,C[k+j]?=some u/\qf w S G Z t u) ->
  (Op.eqFields (d+1) B C D).run P w=.ok r w
 |[],k,N,E,F,r,g,e,_,_=>by
  simp only[rv]at g;injection g with g
  subst g;simp only[wX]at e;injection e with e
  subst e;simp[Op.eqFields]
 |f::D,k,N,E,F,r,g,e,W,X=>by
  simp only[rv]at g;split at g
  ·rename_i z;split at g
   ·rename_i tg i H h2;injection g with g
    subst g;have A:∀(p q:O) (x y:zb) (b s:Bool),E=p::x->F=q::y->(∀u v,qf w S G Z p u->qf w S G Z q v->(Op.equalIn (d+1) f.type u v).run P w=.ok b w)->wX i x y=some s->r=(b&&s) ->
      (Op.eqFields (d+1) B C (f::D)).run P w=.ok r w:=by
     intro p q x y b s h e2 h3 h4 h5;subst h;subst e2;subst h5;obtain⟨u,I,Q⟩:=W 0 p rfl;obtain⟨v,J,R⟩:=X 0 q rfl;simp only[QE]at I J;have ha:=HB H;have Y1:(part f.type B f.offset).run P w=.ok u w:=by simp[part,xp ha,z.1,I]
     have Y2:(part f.type C f.offset).run P w=.ok v w:=by simp[part,xp ha,z.1,J]
     have ih:=cn w d B C D (k+1) i x y s h2 h4 (fun j t T=>by have:=W (j+1) t (by simpa using T);rwa [show k+(j+1)=k+1+j from by omega]at this) (fun j t T=>by have:=X (j+1) t (by simpa using T);rwa [show k+(j+1)=k+1+j from by omega]at this);cases b<;>simp[Op.eqFields,z.2,Y1,Y2,h3 u v Q R,ih]
    unfold wX at e;unfold IM at H;split at e
    ·simp_all
    ·rename_i K kk a l kk' b m h;injection h with h n
     subst h;subst n;split at e
     ·rename_i hk;subst hk;cases c:wX i l m with
      |none=>simp[c]at e
      |some s=>
       simp[c]at e;refine A _ _ _ _ (a==b) s rfl rfl (fun u v L M=>?_) c e.symm;obtain⟨rfl,_⟩:=L.w8;obtain⟨rfl,_⟩:=M.w8;split at H<;>first
        |(rename_i o;simp[Op.equalIn,zA o];done)
        |simp_all
     ·cases e
    ·rename_i K a l b m h;injection h with h n
     subst h;subst n;cases c:wX i l m with
     |none=>simp[c]at e
     |some s=>
      simp[c]at e;refine A _ _ _ _ (a==b) s rfl rfl (fun u v L M=>?_) c e.symm;obtain⟨rfl,_⟩:=L.w8;obtain⟨rfl,_⟩:=M.w8;split at H<;>first
       |(rename_i o;simp[Op.equalIn,zA o];done)
       |simp_all
    ·rename_i K a l b m h;injection h with h n
     subst h;subst n;cases c:wX i l m with
     |none=>simp[c]at e
     |some s=>
      simp[c]at e;refine A _ _ _ _ (a==b) s rfl rfl (fun u v L M=>?_) c e.symm;obtain⟨rfl,_⟩:=L.w8;obtain⟨rfl,_⟩:=M.w8;split at H<;>first
       |(rename_i o;simp[Op.equalIn,zA o];done)
       |simp_all
    ·cases e
   ·cases g
  ·cases g
def eq1:Nat->O->O->Option Bool
 | 0,.v (.int k a),.v (.int c b)=>if k=c then some (a==b)else none
 | 1,.v (.bool a),.v (.bool b)=>some (a==b)
 | 2,.v (.string a),.v (.string b)=>some (a==b)
 |_,_,_=>none
theorem Kl(k:Nat)(a:List Nat)(b:zb):wX (k::a) [] b=none:=by unfold wX;split<;>first|rfl|simp_all
theorem Km(k:Nat)(a:List Nat)(b:zb):wX (k::a) b []=none:=by unfold wX;split<;>first|rfl|simp_all
theorem Yj(k:Nat)(c:List Nat)(p q:O)(d e:zb):wX (k::c) (p::d) (q::e)=(eq1 k p q).bind fun b=>(wX c d e).map (b&&·):=by
 match k with
 | 0=>
  cases p with
  |v x=>cases x with
   |int w a=>cases q with
    |v y=>cases y with
     |int w' b=>simp only[wX,eq1];split<;>rfl
     |_=>rfl
    |_=>rfl
   |_=>rfl
  |_=>rfl
 | 1=>
  cases p with
  |v x=>cases x with
   |bool a=>cases q with
    |v y=>cases y<;>rfl
    |_=>rfl
   |_=>rfl
  |_=>rfl
 | 2=>
  cases p with
  |v x=>cases x with
   |string a=>cases q with
    |v y=>cases y<;>rfl
    |_=>rfl
   |_=>rfl
  |_=>rfl
 |k+3=>rfl
theorem VE:∀(a c:List Nat) (d e:zb) (r:Bool),wX (a++c) d e=some r->∃f g,wX a d e=some f/\wX c (d.drop a.length) (e.drop a.length)=some g/\r=(f&&g)
 |[],c,d,e,r,h=>⟨true,r,rfl,h,rfl⟩
 |k::a,c,[],e,r,h=>by rw[q6,Kl]at h;cases h
 |k::a,c,p::d,[],r,h=>by rw[q6,Km]at h;cases h
 |k::a,c,p::d,q::e,r,h=>by
  rw[q6,Yj]at h;cases i:eq1 k p q with
  |none=>rw[i]at h;cases h
  |some b=>rw[i,z7]at h;obtain⟨j,l,rfl⟩:=Option.map_eq_some_iff.1 h;obtain⟨f,g,m,n,rfl⟩:=VE a c d e j l;exact⟨b&&f,g,by rw[Yj,i,z7,m];rfl,n,by rw[Bool.and_assoc]⟩
theorem cp:∀(a:List Nat) (b c:zb),wX a (b.take a.length) (c.take a.length)=wX a b c
 |[],b,c=>by simp only[wX]
 |k::a,[],c=>by rw[List.take_nil,Kl,Kl]
 |k::a,p::b,[]=>by rw[List.take_nil,Km,Km]
 |k::a,p::b,q::c=>by rw[zO,xZ,xZ,Yj,Yj,cp a b c]
theorem ND{t:TypeId}{b:List Nat}(h:subA P t=some b):∃a,P.underlying t=some (.struct a)/\rv P 0 a.toList=some b/\P.stoodInHeld t=false/\qz P t=some b.length:=by
 unfold subA at h;split at h
 ·cases h
 ·rename_i g;split at h
  ·rename_i a c;split at h
   ·rename_i d e;split at h
    ·rename_i f;injection h with h
     subst h;exact⟨a,c,e,by cases i:P.stoodInHeld t<;>simp_all,f⟩
    ·cases h
   ·cases h
  ·cases h
theorem Jq(w:World)(d:Nat)(s t:Array Value):∀(Q:List Field) (k:Nat) (ks:List Nat) (I J:zb) (r:Bool),ry P k Q=some ks->wX ks I J=some r ->
  (∀(j:Nat) (c:O),I[j]?=some c->∃u,s[k+j]?=some u/\qf w S G Z c u)->(∀(j:Nat) (c:O),J[j]?=some c->∃u,t[k+j]?=some u/\qf w S G Z c u) ->
  (Op.eqFields (d+2) s t Q).run P w=.ok r w
 |[],k,ks,I,J,r,g,h,_,_=>by
  simp only[ry]at g;injection g with g
  subst g;simp only[wX]at h;injection h with h
  subst h;simp[Op.eqFields]
 |f::Q,k,ks,I,J,r,g,h,hx,hy=>by
  simp only[ry]at g;split at g
  ·rename_i o;split at g
   ·rename_i tg R;split at g
    case h_2=>cases g
    rename_i l h2;injection g with g
    subst g;have K:∀(p q:O) (E F:zb) (b C:Bool),I=p::E->J=q::F->(∀u v,qf w S G Z p u->qf w S G Z q v->(Op.equalIn (d+2) f.type u v).run P w=.ok b w)->wX l E F=some C->r=(b&&C) ->
      (Op.eqFields (d+2) s t (f::Q)).run P w=.ok r w:=by
     intro p q E F b C i e2 h3 h4 h5;subst i;subst e2;subst h5;obtain⟨u,m,x⟩:=hx 0 p rfl;obtain⟨v,T,hv2⟩:=hy 0 q rfl;simp only[QE]at m T;have ha:=HB R;have Y1:(part f.type s f.offset).run P w=.ok u w:=by simp[part,xp ha,o.1,m]
     have Y2:(part f.type t f.offset).run P w=.ok v w:=by simp[part,xp ha,o.1,T]
     have ih:=Jq w d s t Q (k+1) l E F C h2 h4 (fun j c D=>by have:=hx (j+1) c (by simpa using D);rwa [show k+(j+1)=k+1+j from by omega]at this) (fun j c D=>by have:=hy (j+1) c (by simpa using D);rwa [show k+(j+1)=k+1+j from by omega]at this);cases b<;>simp[Op.eqFields,o.2,Y1,Y2,h3 u v x hv2,ih]
    unfold wX at h;unfold IM at R;split at h
    ·simp_all
    ·rename_i W kk a y kk' b z i;injection i with i A
     subst i;subst A;split at h
     ·rename_i hk;subst hk;cases e:wX l y z with
      |none=>simp[e]at h
      |some C=>
       simp[e]at h;refine K _ _ _ _ (a==b) C rfl rfl (fun u v X hv=>?_) e h.symm;obtain⟨rfl,_⟩:=X.w8;obtain⟨rfl,_⟩:=hv.w8;split at R<;>first
        |(rename_i B;simp[Op.equalIn,zA B];done)
        |simp_all
     ·cases h
    ·rename_i W a y b z i;injection i with i A
     subst i;subst A;cases e:wX l y z with
     |none=>simp[e]at h
     |some C=>
      simp[e]at h;refine K _ _ _ _ (a==b) C rfl rfl (fun u v X hv=>?_) e h.symm;obtain⟨rfl,_⟩:=X.w8;obtain⟨rfl,_⟩:=hv.w8;split at R<;>first
       |(rename_i B;simp[Op.equalIn,zA B];done)
       |simp_all
    ·rename_i W a y b z i;injection i with i A
     subst i;subst A;cases e:wX l y z with
     |none=>simp[e]at h
     |some C=>
      simp[e]at h;refine K _ _ _ _ (a==b) C rfl rfl (fun u v X hv=>?_) e h.symm;obtain⟨rfl,_⟩:=X.w8;obtain⟨rfl,_⟩:=hv.w8;split at R<;>first
       |(rename_i B;simp[Op.equalIn,zA B];done)
       |simp_all
    ·cases h
   ·split at g
    case h_2=>cases g
    rename_i n hs1;split at g
    case h_2=>cases g
    rename_i l h2;injection g with g
    subst g;obtain⟨r1,r2,i,e2,rfl⟩:=VE _ _ _ _ _ h;rw[<-cp]at i;obtain⟨gs,L,hgt,hgs,hgn⟩:=ND hs1;have H:yo P f.type=some true:=by unfold yo;rw[L];rfl
    have hfo:P.fieldsOf f.type=gs:=by simp[Program.fieldsOf,L]
    have Y1:(part f.type s f.offset).run P w=.ok (.agg (s.extract k (k+n.length))) w:=by simp[part,xp H,o.1,yc hgn]
    have Y2:(part f.type t f.offset).run P w=.ok (.agg (t.extract k (k+n.length))) w:=by simp[part,xp H,o.1,yc hgn]
    have hin:∀(M:zb) (N:Array Value),(∀(j:Nat) (c:O),M[j]?=some c->∃u,N[k+j]?=some u/\qf w S G Z c u)->∀(j:Nat) (c:O),(M.take n.length)[j]?=some c->∃u,(N.extract k (k+n.length))[0+j]?=some u/\qf w S G Z c u:=by
     intro M N hz j c D;have hjl:j<n.length:=by have:=(zi.1 D).1;rw[yF]at this;omega
     rw[List.getElem?_take_of_lt hjl]at D;obtain⟨u,m,x⟩:=hz j c D;refine⟨u,?_,x⟩;rw[ym,Array.getElem?_extract];have hlt:=(qg.1 m).1;rw[zd (by omega)];exact m
    have hrun:(Op.equalIn (d+2) f.type (.agg (s.extract k (k+n.length))) (.agg (t.extract k (k+n.length)))).run P w=.ok r1 w:=by rw[run_equalIn_struct w (d+1) f.type _ _ (by rw[hfo];exact L) hgs,hfo];exact cn w d _ _ gs.toList 0 n _ _ r1 hgt i (hin I s hx) (hin J t hy)
    have Hq:∀(M:zb) (N:Array Value),(∀(j:Nat) (c:O),M[j]?=some c->∃u,N[k+j]?=some u/\qf w S G Z c u)->∀(j:Nat) (c:O),(M.drop n.length)[j]?=some c->∃u,N[k+n.length+j]?=some u/\qf w S G Z c u:=by intro M N hz j c D;rw[qN]at D;obtain⟨u,m,x⟩:=hz (n.length+j) c D;exact⟨u,by rwa [show k+(n.length+j)=k+n.length+j by omega]at m,x⟩
    have ih:=Jq w d s t Q (k+n.length) l _ _ r2 h2 e2 (Hq I s hx) (Hq J t hy);cases r1<;>simp[Op.eqFields,o.2,Y1,Y2,hrun,ih]
  ·cases g
theorem rC{t:TypeId}{g:List Nat}{xs ys:zb}{r:Bool}{u v:Value}(b:Hw P t=some g)(z:wX g xs ys=some r)(A:qf w S G Z (.agg xs) u)(B:qf w S G Z (.agg ys) v) :
  (Op.equal t u v).run P w=.ok r w/\∀(op:BinOp) (x y:Operand),(eqGuard op t x y u v).run P w=.ok () w:=by
 obtain⟨e,rfl,i,k⟩:=A.Wr;obtain⟨f,rfl,l,m⟩:=B.Wr;unfold Hw at b;split at b
 ·cases b
 ·rename_i C;have n:P.stoodInHeld t=false:=by cases h:P.stoodInHeld t<;>simp_all
  have o:P.eqGuardType P.depth t=false:=by cases h:P.eqGuardType P.depth t<;>simp_all
  split at b
  ·rename_i q s;have c:P.fieldsOf t=q:=by simp[Program.fieldsOf,s]
   constructor
   ·unfold Op.equal Op.maxDepth;rw[show(10000:Nat)=9999+1 from rfl,run_equalIn_struct w 9999 t e f (by rw[c];exact s) n,c];exact Jq w 9997 e f q.toList 0 g xs ys r b z
     (fun j p d=>by
      have a:j<e.size:=by rw[<-i];exact(zi.1 d).1
      exact⟨e[j],by simp[a],k j p _ d (by simp[a])⟩)
     (fun j p d=>by
      have a:j<f.size:=by rw[<-l];exact(zi.1 d).1
      exact⟨f[j],by simp[a],m j p _ d (by simp[a])⟩)
   ·intro op x y;unfold eqGuard;cases op<;>simp[o]
  ·cases b
theorem lG{t:TypeId}(a b:Bool)(c:P.underlying t=some .bool)(w:World):(Op.equal t (.bool a) (.bool b)).run P w=.ok (a==b) w:=by
 have h:∀d:Nat,(Op.equalIn (d+1) t (.bool a) (.bool b)).run P w=.ok (a==b) w:=fun d=>by simp only[Op.equalIn,vQ,zA c,ku,WL]
 exact h 9999
theorem rD{t e:TypeId}(A:Option Addr)(n c:Nat)(a:P.underlying t=some (.slice e))(w:World):(Op.equal t (.slice A n c) (.slice none 0 0)).run P w=.ok A.isNone w:=by
 have h:∀d:Nat,(Op.equalIn (d+1) t (.slice A n c) (.slice none 0 0)).run P w=.ok A.isNone w:=fun d=>by cases A<;>simp only[Op.equalIn,vQ,zA a,ku,WL]<;>rfl
 exact h 9999
theorem rE{p:O}{u:Value}{r:Bool}(h:Kh p=some r)(b:qf w S G Z p u):∃A n c,u=.slice A n c/\A.isNone=r:=by
 unfold Kh at h;split at h
 ·injection h with h;subst h;exact⟨none,0,0,b.Zj,rfl⟩
 ·injection h with h;subst h;obtain⟨ad,cap,rfl,_⟩:=b.oS;exact⟨_,_,_,rfl,rfl⟩
 ·injection h with h;subst h;obtain⟨cap,_,_,_,_,rfl⟩:=b.vK;exact⟨_,_,_,rfl,rfl⟩
 ·rename_i s c es;injection h with h;subst h
  cases b.ch with
  |sl us d e f g i j=>
   rename_i A cap;cases A with
   |none=>have:=d rfl;subst this;simp at e
   |some a=>exact⟨_,_,_,rfl,rfl⟩
 ·cases h
theorem EU(hi:Inv P w S G Y Z){op:BinOp}{t:TypeId}{p q x:O}{u v:Value}(B C:Operand)(h:Qj P op t p q=some x)(f:qf w S G Z p u)(g:qf w S G Z q v) :
  QG dr P w Y Z S G x Y Z ((do eqGuard op t B C u v;binOp op t u v:Sem Value).run P w):=by
 unfold Qj at h;split at h
 ·rename_i k a H b;obtain⟨rfl,_⟩:=f.w8;obtain⟨rfl,_⟩:=g.w8;split at h
  ·rename_i D;subst D;obtain⟨r,rfl,j,l⟩:=NB (P:=P) h t w;exact qt (v:=r) hi (by simp[Y7 (a:=.int k a) rfl (by simp) w,l]) (xw r j)
  ·cases h
 ·rename_i a b;obtain⟨rfl,_⟩:=f.w8;obtain⟨rfl,_⟩:=g.w8;obtain⟨r,rfl,j,l⟩:=NC (P:=P) h t w;exact qt (v:=r) hi (by simp[Y7 (a:=.string a) rfl (by simp) w,l]) (xw r j)
 ·rename_i a b;obtain⟨rfl,_⟩:=f.w8;obtain⟨rfl,_⟩:=g.w8;split at h
  ·rename_i i;injection h with h
   subst h;refine qt (v:=.bool (a==b)) hi ?_ (xw _ rfl);simp only[vQ,Y7 (a:=.bool a) rfl (by simp) w,ku,binOp,lG a b i,WL]
  ·rename_i i;injection h with h
   subst h;refine qt (v:=.bool (!(a==b))) hi ?_ (xw _ rfl);simp only[vQ,Y7 (a:=.bool a) rfl (by simp) w,ku,binOp,lG a b i,WL]
  ·cases h
 ·rename_i xs ys;split at h
  ·rename_i y z;split at h
   ·cases d:wX y xs ys with
    |none=>simp[d]at h
    |some r=>simp[d]at h;subst h;obtain⟨m,o⟩:=rC z d f g;obtain⟨E,rfl,_,_⟩:=f.Wr;obtain⟨F,rfl,_,_⟩:=g.Wr;exact qt (v:=.bool r) hi (by simp[o,binOp,m]) (xw _ rfl)
   ·cases d:wX y xs ys with
    |none=>simp[d]at h
    |some r=>simp[d]at h;subst h;obtain⟨m,o⟩:=rC z d f g;obtain⟨E,rfl,_,_⟩:=f.Wr;obtain⟨F,rfl,_,_⟩:=g.Wr;exact qt (v:=.bool !r) hi (by simp[o,binOp,m]) (xw _ rfl)
   ·cases h
  ·cases h
 ·have:=g.Zj;subst this;split at h
  ·rename_i e r d s;injection h with h
   subst h;obtain⟨A,n,c,rfl,rfl⟩:=rE s f;refine qt (v:=.bool A.isNone) hi ?_ (xw _ rfl);simp only[vQ,eqGuard,binOp,rD A n c (kO d),WL,ku];simp
  ·rename_i e r d s;injection h with h
   subst h;obtain⟨A,n,c,rfl,rfl⟩:=rE s f;refine qt (v:=.bool !A.isNone) hi ?_ (xw _ rfl);simp only[vQ,eqGuard,binOp,rD A n c (kO d),WL,ku];simp
  ·cases h
 ·cases h
theorem IP(hi:Inv P w S G Y Z){op:BinOp}{t:TypeId}{p q x:O}{u v:Value}(f a:Operand)(h:VB (isK a) P op t p q=some x)(g:qf w S G Z p u)(i:qf w S G Z q v) :
  QG dr P w Y Z S G x Y Z ((do eqGuard op t f a u v;binOp op t u v:Sem Value).run P w):=by
 unfold VB at h;split at h
 ·rename_i k;obtain⟨rfl,_⟩:=g.w8;obtain⟨rfl,_⟩:=i.w8;obtain⟨c,rfl⟩:∃c,a=.const c:=by cases a<;>first|exact⟨_,rfl⟩|(simp[isK]at k)
  unfold Hy at h;split at h
  ·rename_i b;unfold EN at b;split at b
   ·rename_i l e;have j:(Op.equal t .nilIface .nilIface).run P w=.ok true w:=by
     have h:∀d:Nat,(Op.equalIn (d+1) t .nilIface .nilIface).run P w=.ok true w:=fun d=>by simp only[Op.equalIn,vQ,zA e,ku,WL]
     exact h 9999
    split at h
    ·injection h with h;subst h;refine qt (v:=.bool true) hi ?_ (xw _ rfl);simp[eqGuard,binOp,j,Result.andThen]
    ·injection h with h;subst h;refine qt (v:=.bool false) hi ?_ (xw _ rfl);simp[eqGuard,binOp,j,Result.andThen]
    ·cases h
   ·cases b
  ·cases h
 ·exact EU hi f a h g i
theorem IQ(hi:Inv P w S G Y Z){op:UnOp}{p x:O}{u:Value}(h:SL op p=some x)(a:qf w S G Z p u):QG dr P w Y Z S G x Y Z ((Op.unary op u).run P w):=by
 unfold SL at h;split at h
 ·obtain⟨rfl,_⟩:=a.w8;split at h
  ·injection h with h;subst h;exact qt (v:=_) hi (by simp[Op.unary]) (xw _ rfl)
  ·cases h
 ·obtain⟨rfl,_⟩:=a.w8;split at h
  ·injection h with h;subst h;exact qt (v:=_) hi (by simp[Op.unary,Op.intArith]) (xw _ rfl)
  ·cases h
 ·cases h
theorem IU(hi:Inv P w S G Y Z){a dst:TypeId}{p x:O}{u:Value}(h:aE P a dst p=some x)(e:qf w S G Z p u):QG dr P w Y Z S G x Y Z ((convert a dst u).run P w):=by
 unfold aE at h;split at h
 ·obtain⟨rfl,_⟩:=e.w8;split at h
  ·rename_i d k b c;injection h with h
   subst h;exact qt (v:=_) hi (by simp[convert,zA b,zA c,Conv.intToInt]) (xw _ rfl)
  ·cases h
 ·obtain⟨rfl,_⟩:=e.w8;split at h
  ·rename_i d b c;injection h with h
   subst h;exact qt (v:=_) hi (by simp[convert,zA b,zA c]) (xw _ rfl)
  ·cases h
 ·cases h
end
end Go.AM
