/- Lemmas. -/
import Derived.WalkKit
import Derived.ChangeAgain
import Derived.Lib.ItoaNum
import Derived.Test.YtmdpcoooleipcaaGreatDoorG0
set_option maxRecDepth 8000
set_option maxHeartbeats 4000000
open Go Proofs Proofs.YtmdpcoooleipcaaGreatDoor Proofs.Tryz RowKit AM SpanLaw Q Zz
namespace Go.AM
variable{dr:Prop}
inductive O where
 |v (x:Value)
 |nil
 |agg (cs:List O)
 |qS (cs:List O)
 |sl (s:Nat) (es:List (List O))
 |em
 |ptr (cs:List O)
 |own (id off n:Nat)
 |ref (id i j:Nat)
 |mp (id:Nat)
 |fn (f:Fn) (first captured:List O)
def lit:Value->Bool
 | .bool _|.int _ _|.string _|.nilFunc|.pointer none|.nilIface|.map none|.slice (some _) 0 0=>true
 |_=>false
def O.we:O->Bool
 | .agg _|.qS _=>false
 |_=>true
inductive qO (w:World) (S:Nat->Prop):O->Value->Prop
 |v {x:Value}:lit x=true->qO w S (.v x) x
 |nil:qO w S .nil (.slice none 0 0)
 |em {ad:Addr} {cap:Nat}:cap<=maxLen->qO w S .em (.slice (some ad) 0 cap)
 |agg {cs:List O} {us:Array Value}:cs.length=us.size->(∀(j:Nat) (pv:O) (u:Value),cs[j]?=some pv->us[j]?=some u->qO w S pv u)->qO w S (.agg cs) (.agg us)
 |qS {cs:List O} {us:Array Value}:cs.length=us.size->(∀(j:Nat) (pv:O) (u:Value),cs[j]?=some pv->us[j]?=some u->qO w S pv u)->qO w S (.qS cs) (.tuple us)
 |sl {es:List (List O)} {A:Option Addr} {cap s:Nat} (us:Nat->Nat->Value):(A=none->cap=0)->es.length<=cap->cap<=maxLen->(∀c∈es,c.length=s) ->
   (∀(i j:Nat) (c:List O) (pv:O),es[i]?=some c->c[j]?=some pv->∃ad,A=some ad/\S ad.block/\w.cell? (ad.add (i*s+j))=some (us i j)/\(us i j).oneCell'=true) ->
   (∀(i j:Nat) (c:List O) (pv:O),es[i]?=some c->c[j]?=some pv->qO w S pv (us i j))->qO w S (.sl s es) (.slice A es.length cap)
 |ptr {cs:List O} {ad:Addr} (us:Nat->Value):(∀(j:Nat) (pv:O),cs[j]?=some pv->S ad.block/\w.cell? (ad.add j)=some (us j)) ->
   (∀(j:Nat) (pv:O),cs[j]?=some pv->qO w S pv (us j))->qO w S (.ptr cs) (.pointer (some ad))
 |fn {f:Fn} {xs ys:List O} {us ts:Array Value}:xs.length=us.size->ys.length=ts.size->(∀(j:Nat) (pv:O) (u:Value),xs[j]?=some pv->us[j]?=some u->qO w S pv u) ->
   (∀(j:Nat) (pv:O) (u:Value),ys[j]?=some pv->ts[j]?=some u->qO w S pv u)->qO w S (.fn f xs ys) (.func f us ts)
structure GI where
 g:Nat
 z:Nat
 s:Nat
inductive zR (w:World) (S:Nat->Prop) (G:Nat->GI) (Z:Nat):O->Value->Prop
 |c {pv:O} {x:Value}:qO w S pv x->zR w S G Z pv x
 |own {id off n cap:Nat}:id<Z->n<=cap->cap<=maxLen->(off+cap)*(G id).s=(G id).z->0<(G id).s->zR w S G Z (.own id off n) (.slice (some ⟨(G id).g,off*(G id).s,none⟩) n cap)
 |ref {id i j:Nat}:id<Z->0<(G id).s->zR w S G Z (.ref id i j) (.pointer (some ⟨(G id).g,i*(G id).s+j,none⟩))
 |mp {id:Nat}:id<Z->(G id).s=0->zR w S G Z (.mp id) (.map (some (G id).g))
 |agg {cs:List O} {us:Array Value}:cs.length=us.size->(∀(j:Nat) (pv:O) (u:Value),cs[j]?=some pv->us[j]?=some u->zR w S G Z pv u)->zR w S G Z (.agg cs) (.agg us)
 |qS {cs:List O} {us:Array Value}:cs.length=us.size->(∀(j:Nat) (pv:O) (u:Value),cs[j]?=some pv->us[j]?=some u->zR w S G Z pv u)->zR w S G Z (.qS cs) (.tuple us)
 |fn {f:Fn} {xs ys:List O} {us ts:Array Value}:xs.length=us.size->ys.length=ts.size->(∀(j:Nat) (pv:O) (u:Value),xs[j]?=some pv->us[j]?=some u->zR w S G Z pv u) ->
   (∀(j:Nat) (pv:O) (u:Value),ys[j]?=some pv->ts[j]?=some u->zR w S G Z pv u)->zR w S G Z (.fn f xs ys) (.func f us ts)
theorem xy(a:Addr)(n:Nat):(a.add n).block=a.block:=by unfold Addr.add;split<;>rfl
theorem KL(a:Addr)(i j:Nat):(a.add i).add j=a.add (i+j):=by unfold Addr.add;by_cases b:i=0<;>by_cases c:j=0<;>simp[b,c,zaU]
theorem qO.mono{w p:World}{S S':Nat->Prop}{d:O}{x:Value}(h:qO w S d x)(g:∀b,S b->S' b/\p.heap[b]?=w.heap[b]?):qO p S' d x:=by
 induction h with
 |v h=>exact .v h
 |nil=>exact .nil
 |em h=>exact .em h
 |agg k _ a=>exact .agg k a
 |qS k _ a=>exact .qS k a
 |sl us q f l r s _ a=>refine .sl us q f l r (fun i j c d t m=>?_) a;obtain⟨u,e,hs,n,o⟩:=s i j c d t m;refine⟨u,e,(g _ hs).1,?_,o⟩;rw[<-n];apply Jc;rw[xy];exact(g _ hs).2
 |ptr us f _ a=>refine .ptr us (fun j d m=>?_) a;obtain⟨hs,n⟩:=f j d m;refine⟨(g _ hs).1,?_⟩;rw[<-n];apply Jc;rw[xy];exact(g _ hs).2
 |fn f l _ _ y z=>exact .fn f l y z
theorem zR.mono{w i:World}{S S':Nat->Prop}{G G':Nat->GI}{Z Z':Nat}{j:O}{x:Value}(h:zR w S G Z j x)(m:∀b,S b->S' b/\i.heap[b]?=w.heap[b]?)
  (q:Z<=Z') (e:∀id,id<Z->G' id=G id):zR i S' G' Z' j x:=by
 induction h with
 |c h=>exact .c (h.mono m)
 |own d a n k l=>rw[<-e _ d]at k l⊢;exact .own (by omega) a n k l
 |ref d a=>rw[<-e _ d]at a⊢;exact .ref (by omega) a
 |mp d a=>rw[<-e _ d]at a⊢;exact .mp (by omega) a
 |agg f _ g=>exact .agg f g
 |qS f _ g=>exact .qS f g
 |fn d a _ _ o p=>exact .fn d a o p
theorem qO.W5{w:World}{S:Nat->Prop}{a:O}{x:Value}(h:qO w S a x)(b:a.we=true):x.oneCell'=true:=by
 cases h with
 |v h=>cases x<;>simp_all[lit,Value.oneCell']
 |agg=>simp[O.we]at b
 |qS=>simp[O.we]at b
 |_=>rfl
theorem zR.W5{w:World}{S:Nat->Prop}{G:Nat->GI}{Z:Nat}{b:O}{x:Value}(h:zR w S G Z b x)(a:b.we=true):x.oneCell'=true:=by
 cases h with
 |c h=>exact h.W5 a
 |agg=>simp[O.we]at a
 |qS=>simp[O.we]at a
 |_=>rfl
structure Blk where
 e:TypeId
 s:Nat
 arr:Bool
 es:List (List O)
abbrev Hp:=Nat->Option Blk
def qb{α:Type}(f:Nat->α)(k:Nat)(x:α):Nat->α:=fun i=>if i=k then x else f i
@[simp]theorem q9{α:Type}(f:Nat->α)(k:Nat)(x:α):qb f k x k=x:=by simp[qb]
theorem zc{α:Type}(f:Nat->α)(k i:Nat)(x:α)(h:i≠k):qb f k x i=f i:=by simp[qb,h]
def jP(w:World)(S:Nat->Prop)(G:Nat->GI)(Z:Nat)(a:Bool)(b:O)(u:Value):Prop:=
 (a=true->qO w S b u)/\zR w S G Z b u/\u.oneCell'=true
structure ob (P:Program) (w:World) (S:Nat->Prop) (G:Nat->GI) (Z:Nat) (gi:GI) (b:Blk):Prop where
 size:(P.info? b.e).map (·.size)=some gi.s
 len:∀c∈b.es,c.length=gi.s
 fit:b.es.length*gi.s<=gi.z
 row:∃cur:Array Value,w.heap[gi.g]?=some (.cells cur b.e (0,0))/\cur.size=gi.z /\
  ∀(i j:Nat) (c:List O) (pv:O),b.es[i]?=some c->c[j]?=some pv->∃u,cur[i*gi.s+j]?=some u/\jP w S G Z b.arr pv u
def VY(w:World)(S:Nat->Prop)(c:List O)(e:MapEntry):Prop:=∃(k:Value) (a:O),c=[.v k,a]/\e.key=k/\lit k=true/\qO w S a e.val
def Stamped(en:Array MapEntry)(a:Nat):Prop:=(∀x∈en.toList,x.born<a)/\(en.toList.map (·.born)).Nodup
structure Nv (w:World) (S:Nat->Prop) (gi:GI) (b:Blk):Prop where
 row:∃(en:Array MapEntry) (clock:Nat),w.heap[gi.g]?=some (.map en clock)/\en.size=b.es.length/\∀(i:Nat) (c:List O) (e:MapEntry),b.es[i]?=some c->en[i]?=some e->VY w S c e
 IZ:∃(en:Array MapEntry) (clock:Nat),w.heap[gi.g]?=some (.map en clock)/\Stamped en clock
structure ji (P:Program) (w:World) (S:Nat->Prop) (G:Nat->GI) (Z:Nat) (gi:GI) (b:Blk):Prop where
 bs:b.s=gi.s
 UI:0<gi.s->ob P w S G Z gi b
 Fa:gi.s=0->Nv w S gi b
theorem ji.size{P:Program}{w:World}{S:Nat->Prop}{G:Nat->GI}{Z:Nat}{a:GI}{b:Blk}(h:ji P w S G Z a b)(c:0<a.s):(P.info? b.e).map (·.size)=some a.s:=(h.UI c).size
theorem ji.len{P:Program}{w:World}{S:Nat->Prop}{G:Nat->GI}{Z:Nat}{a:GI}{b:Blk}(h:ji P w S G Z a b)(d:0<a.s):∀c∈b.es,c.length=a.s:=(h.UI d).len
theorem ji.fit{P:Program}{w:World}{S:Nat->Prop}{G:Nat->GI}{Z:Nat}{a:GI}{b:Blk}(h:ji P w S G Z a b)(c:0<a.s):b.es.length*a.s<=a.z:=(h.UI c).fit
theorem ji.row{P:Program}{w:World}{S:Nat->Prop}{G:Nat->GI}{Z:Nat}{d:GI}{b:Blk}(h:ji P w S G Z d b)(k:0<d.s):∃a:Array Value,w.heap[d.g]?=some (.cells a b.e (0,0))/\a.size=d.z /\
  ∀(i j:Nat) (c:List O) (f:O),b.es[i]?=some c->c[j]?=some f->∃u,a[i*d.s+j]?=some u/\jP w S G Z b.arr f u:=(h.UI k).row
theorem ji.jE{P:Program}{w:World}{S:Nat->Prop}{G:Nat->GI}{Z:Nat}{a:GI}{b:Blk}(d:0<a.s)(c:b.s=a.s)(h:ob P w S G Z a b):ji P w S G Z a b:=
 ⟨c,fun _=>h,fun e=>by omega⟩
def AZ(P:Program)(g:Nat):Prop:=g<P.globals.size/\∃a t,((begin P (fun _ _=>0) default).world.heap[g]?).bind Obj.row?=some (a,t)/\a.size=1/\P.buildable t=true/\P.cellTypes P.depth t=some [t]/\P.underlying t=some (.int .i64)
def ZJ:List (Nat×IntKind×List Int):=[]++[(3,.u64,Lib.pow10Tab)]
def lv(w:World)(S:Nat->Prop)(t:Nat×IntKind×List Int):Prop:=S t.1/\∃ty a,w.heap[t.1]?=some (.cells (t.2.2.map fun z=>Value.int t.2.1 z).toArray ty a)
def tm(P:Program)(w:World)(S:Nat->Prop):Prop:=(∀g,AZ P g->S g/\∃m,w.cell? ⟨g,0,none⟩=some (.int .i64 m))/\∀t∈ZJ,lv w S t
theorem tm.mono{P:Program}{w e:World}{S S':Nat->Prop}(h:tm P w S)(c:∀b,S b->S' b/\e.heap[b]?=w.heap[b]?):tm P e S':=by
 refine⟨fun g f=>?_,fun t i=>?_⟩
 ·obtain⟨a,m,d⟩:=h.1 g f;refine⟨(c g a).1,m,?_⟩;rw[<-d];exact Jc (c g a).2
 ·obtain⟨a,ty,j,d⟩:=h.2 t i;exact⟨(c _ a).1,ty,j,(c _ a).2.trans d⟩
theorem sc{w:World}{a:Addr}{v:Value}(h:w.cell? a=some v):a.block<w.heap.size:=by
 unfold World.cell? at h;split at h
 ·rename_i b;exact(qd.1 b).1
 ·cases h
theorem tm.Ex{P:Program}{w:World}(h:w.ShapedOpen P)(k:∀t∈ZJ,lv w (fun b=>b<w.heap.size) t):tm P w (fun b=>b<w.heap.size):=by
 refine⟨?_,k⟩;rintro g ⟨l,d,t,m,v,n,o,p⟩;obtain⟨cs,q,hs,r⟩:=h.1 g d t l m;obtain⟨ts,e,_,f⟩:=r n;rw[o]at e;cases e;have j:0<cs.size:=by omega
 obtain⟨u,i,c⟩:=f 0 cs[0] (by simp[j]);have:u=t:=by simpa using i.symm
 subst this;have a:w.cell? ⟨g,0,none⟩=some cs[0]:=by simp[World.cell?,q,j]
 refine⟨sc a,?_⟩;rw[a];unfold Cell.ok at c;rw[p]at c;cases s:cs[0]<;>rw[s]at c<;>simp_all
structure Inv (P:Program) (w:World) (S:Nat->Prop) (G:Nat->GI) (Y:Hp) (Z:Nat):Prop where
 st:∀b,S b->b<w.heap.size
 top:∀id b,Y id=some b->id<Z
 live:∀id b,Y id=some b->ji P w S G Z (G id) b
 apart:∀id b,Y id=some b->¬S (G id).g
 inj:∀id id' b b',Y id=some b->Y id'=some b'->(G id).g=(G id').g->id=id'
 KJ:tm P w S
theorem ji.lt{P:Program}{w:World}{S:Nat->Prop}{G:Nat->GI}{Z:Nat}{a:GI}{b:Blk}(h:ji P w S G Z a b):a.g<w.heap.size:=by
 rcases Nat.eq_zero_or_pos a.s with c|c
 ·obtain⟨en,d,e,_⟩:=(h.Fa c).row;exact(qd.1 e).1
 ·obtain⟨f,e,_⟩:=h.row c;exact(qd.1 e).1
theorem jP.mono{w c:World}{S S':Nat->Prop}{G G':Nat->GI}{Z Z':Nat}{a:Bool}{d:O}{u:Value}(h:jP w S G Z a d u)(e:∀b,S b->S' b/\c.heap[b]?=w.heap[b]?)
  (f:Z<=Z') (g:∀id,id<Z->G' id=G id):jP c S' G' Z' a d u:=
 ⟨fun i=>(h.1 i).mono e,h.2.1.mono e f g,h.2.2⟩
theorem ji.mono{P:Program}{w n:World}{S S':Nat->Prop}{G G':Nat->GI}{Z Z':Nat}{m:GI}{b:Blk}(h:ji P w S G Z m b)(t:∀b,S b->S' b/\n.heap[b]?=w.heap[b]?)
  (v:Z<=Z') (x:∀id,id<Z->G' id=G id) (o:n.heap[m.g]?=w.heap[m.g]?):ji P n S' G' Z' m b:=by
 refine⟨h.bs,fun d=>⟨h.size d,h.len d,h.fit d,?_⟩,fun d=>⟨?_,?_⟩⟩
 ·obtain⟨p,f,l,q⟩:=h.row d;refine⟨p,o.trans f,l,fun i j c r s y=>?_⟩;obtain⟨u,z,A⟩:=q i j c r s y;exact⟨u,z,A.mono t v x⟩
 ·obtain⟨en,a,f,l,q⟩:=(h.Fa d).row;refine⟨en,a,o.trans f,l,fun i c e s B=>?_⟩;obtain⟨k,r,C,D,E,F⟩:=q i c e s B;exact⟨k,r,C,D,E,F.mono t⟩
 ·obtain⟨en,a,f,l⟩:=(h.Fa d).IZ;exact⟨en,a,o.trans f,l⟩
structure Fr (dr:Prop) (w:World) (L:Nat->Prop) (w':World):Prop where
 os:w'.os=w.os
 tape:w'.tape=w.tape
 output:w'.output=w.output
 size:w.heap.size<=w'.heap.size
 drawn:dr->w.drawn<=w'.drawn
 block:∀k,k<w.heap.size->¬L k->w'.heap[k]?=w.heap[k]?
theorem Fr.refl(w:World)(L:Nat->Prop):Fr dr w L w:=⟨rfl,rfl,rfl,zi _,fun _=>zi _,fun _ _ _=>rfl⟩
theorem Fr.trans{w f c:World}{L:Nat->Prop}(h:Fr dr w L f){g:Nat->Prop}(a:Fr dr f g c)(j:∀b,b<w.heap.size->g b->L b):Fr dr w L c:=
 ⟨a.os.trans h.os,a.tape.trans h.tape,a.output.trans h.output,qm h.size a.size,fun d=>qm (h.drawn d) (a.drawn d),fun k e i=>(a.block k (q8 e h.size) (fun l=>i (j k e l))).trans (h.block k e i)⟩
theorem Fr.drew(w:World)(L:Nat->Prop):Fr dr w L w.drew:=⟨rfl,rfl,rfl,zi _,fun _=>wS _,fun _ _ _=>rfl⟩
structure St where
 X:Nat->O
 Y:Hp
 Z:Nat
def aj(D:Nat):Deferred:={target:=.collected D,args:=#[]}
def Marks(c:Nat)(w:World)(S:Nat->Prop)(Y:Hp)(G:Nat->GI)(ds:List Deferred):Prop:=c<=w.heap.size/\∃a:List Nat,ds=a.map aj/\a.Nodup/\∀D∈a,c<=D/\w.heap[D]?=some (.deferred (some []))/\¬S D/\∀id b,Y id=some b->(G id).g≠D
theorem Marks.nil{a:Nat}{w:World}{S:Nat->Prop}{Y:Hp}{G:Nat->GI}(h:a<=w.heap.size):Marks a w S Y G []:=⟨h,[],rfl,by simp,by simp⟩
structure xo (dr:Prop) (P:Program) (w0:World) (S0 L:Nat->Prop) (N Z0:Nat) (G0:Nat->GI) (n0:Nat) (st:St) (S:Nat->Prop) (G:Nat->GI) (a:Act) (w:World):Prop where
 inv:Inv P w S G st.Y st.Z
 vT:∀t,zR w S G st.Z (st.X t) (a.tmps.getD t undef)
 size:a.tmps.size=N
 defers:Marks n0 w S st.Y G a.defers
 s0:∀b,S0 b->S b
 s1:∀b,S b->S0 b\/L b\/w0.heap.size<=b
 own:∀id b,st.Y id=some b->L (G id).g\/w0.heap.size<=(G id).g
 fr:Fr dr w0 L w
 up:Z0<=st.Z
 loc:∀id,id<Z0->G id=G0 id
def aW(dr:Prop)(P:Program)(b:World)(c L:Nat->Prop)(N d:Nat)(e:Nat->GI)(f:Nat)(st:St)(a:Act)(w:World):Prop:=∃S G,xo dr P b c L N d e f st S G a w
theorem yX{α:Sort _}(a:α):∃x,a=x:=⟨_,rfl⟩
theorem lx{a:Int}(h:¬a=0):(a != 0)=true:=by simpa using h
theorem vL{α:Type}[BEq α][LawfulBEq α]{a b:α}(h:¬a=b):(a==b)=false:=by simpa using h
abbrev zb:=List O
abbrev Spec:=zb->Hp->Nat->Option (O×Hp×Nat)
abbrev vV:=zb->Hp->Option (zb×Hp)
structure Ctx where
 P:Program
 Γ:FuncId->Option Spec
 dyn:Nat->List (Tmp×Tmp):=fun _=>[]
 AV:Nat->List Tmp:=fun _=>[]
 bk:FuncId->Bool:=fun _=>false
 fz:Nat->List Tmp:=fun _=>[]
 it:FuncId->Option vV:=fun _=>none
def gg(st:St)(a b:Tmp):Prop:=∀id i j,st.X a=.ref id i j->∃id' i' j' blk,st.X b=.ref id' i' j'/\id≠id'/\st.Y id'=some blk/\blk.arr=false
def xz(D:List (Tmp×Tmp))(st:St):Prop:=∀p∈D,gg st p.1 p.2
def O.Zs:O->Bool
 | .v _|.nil|.em|.sl _ _|.ptr _=>true
 |_=>false
def O.shut:O->Bool
 | .agg cs=>cs.all O.Zs
 |x=>x.Zs
def O.Z8:O->Bool
 | .qS _=>true
 |x=>x.shut
abbrev zB:Nat:=1000000
def HX(L:List Tmp)(st:St):Prop:=∀s∈L,(∀id o n,st.X s≠.own id o n)/\∀id i j,st.X s=.ref id i j->id<st.Z/\∃blk,st.Y id=some blk/\blk.arr=false
def vW(L:List Tmp)(st:St):Prop:=∀s∈L,((∀id o n,st.X s≠.own id o n)/\∀id i j,st.X s=.ref id i j->id<st.Z/\∃blk,st.Y id=some blk/\blk.arr=false)/\(zB<=s->(st.X (s-zB)).Z8=true)
def VZ:Value->Option O
 | .slice none 0 0=>some .nil
 | .bool b=>some (.v (.bool b))
 | .int k n=>some (.v (.int k n))
 | .string s=>some (.v (.string s))
 | .nilFunc=>some (.v .nilFunc)
 | .pointer none=>some (.v (.pointer none))
 | .nilIface=>some (.v .nilIface)
 | .map none=>some (.v (.map none))
 |_=>none
def jE:List Value->Option zb
 |[]=>some []
 |x::l=>match VZ x,jE l with
  |some p,some r=>some (p::r)
  |_,_=>none
def aY:Value->Option O
 | .agg cs=>(jE cs.toList).map .agg
 |x=>VZ x
def get(X:Nat->O):Operand->Option O
 | .tmp t=>some (X t)
 | .const x=>aY x
 | .func f=>some (.fn (.func f) [] [])
 | .global _=>none
def qF(P:Program)(t:TypeId):Option Nat:=(P.info? t).map (·.size)
def vX(P:Program)(t:TypeId):Option Nat:=(P.info? t).map (·.bytes)
def y9(P:Program)(t:TypeId):Option zb:=((P.info? t).bind (·.zero)).bind fun z=>jE z.cells.toList
def yr(P:Program)(t:TypeId):Option Bool:=(P.underlying t).map fun
 | .struct _|.array _ _=>true
 |_=>false
def w5(P:Program)(t:TypeId):Option TypeId:=match P.underlying t with
 |some (.slice e)=>some e
 |_=>none
def qX(P:Program)(t:TypeId)(f:Nat):Option (Nat×Nat×Bool):=match P.underlying t with
 |some (.struct b)=>match b[f]? with
  |some x=>match qF P x.type,yr P x.type with
   |some n,some a=>some (x.offset,n,a)
   |_,_=>none
  |none=>none
 |_=>none
def O.cells:O->zb
 | .agg cs=>cs
 |x=>[x]
def qW(P:Program)(t:TypeId)(cs:zb):Option O:=
 match yr P t,qF P t with
 |some true,some n=>if n<=cs.length then some (.agg (cs.take n))else none
 |some false,some _=>cs[0]?
 |_,_=>none
def O.yy:O->Bool
 | .own _ _ _=>true
 |_=>false
def O.noOwn:O->Bool
 | .agg cs=>!cs.any O.yy
 | .own _ _ _=>false
 |_=>true
def qh(Y:Hp):O->Option (O×Hp)
 | .own id off n=>match Y id with
  |some b=>if b.arr=true/\off+n<=b.es.length then some (.sl b.s ((b.es.drop off).take n),qb Y id none)else none
  |none=>none
 | .v x=>some (.v x,Y)
 | .nil=>some (.nil,Y)
 | .sl s es=>some (.sl s es,Y)
 | .em=>some (.em,Y)
 | .ptr cs=>some (.ptr cs,Y)
 | .fn f xs ys=>if xs.all O.shut=true/\ys.all O.shut=true then some (.fn f xs ys,Y)else none
 |_=>none
def qe(Y:Hp):zb->Option (zb×Hp)
 |[]=>some ([],Y)
 |x::l=>match qh Y x with
  |some (y,Y1)=>match qe Y1 l with
   |some (r,Y2)=>some (y::r,Y2)
   |none=>none
  |none=>none
def zS(Y:Hp):O->Option (O×Hp)
 | .agg cs=>match qe Y cs with
  |some (l,h)=>some (.agg l,h)
  |none=>none
 |x=>qh Y x
def zt(Y:Hp):zb->Option (zb×Hp)
 |[]=>some ([],Y)
 |x::l=>match zS Y x with
  |some (y,Y1)=>match zt Y1 l with
   |some (r,Y2)=>some (y::r,Y2)
   |none=>none
  |none=>none
def freeze(Y:Hp):O->Option (O×Hp)
 | .qS cs=>match zt Y cs with
  |some (l,h)=>some (.qS l,h)
  |none=>none
 |x=>zS Y x
def view(Y:Hp)(n:Nat):O->Option (List zb)
 | .nil=>some []
 | .em=>some []
 | .sl s es=>if s=n then some es else none
 | .own id off k=>match Y id with
  |some b=>if b.arr=true/\b.s=n/\off+k<=b.es.length then some ((b.es.drop off).take k)else none
  |none=>none
 |_=>none
def ak(op:BinOp)(k:IntKind)(a b:Int):Option O:=
 match op with
 | .add=>some (.v (.int k (k.wrap (a+b))))
 | .sub=>some (.v (.int k (k.wrap (a-b))))
 | .mul=>some (.v (.int k (k.wrap (a*b))))
 | .quo=>if b=0 then none else some (.v (.int k (k.wrap (a.tdiv b))))
 | .rem=>if b=0 then none else some (.v (.int k (a.tmod b)))
 | .eql=>some (.v (.bool (a==b)))
 | .neq=>some (.v (.bool (a != b)))
 | .lss=>some (.v (.bool (decide (a<b))))
 | .leq=>some (.v (.bool (decide (a<=b))))
 | .gtr=>some (.v (.bool (decide (a>b))))
 | .geq=>some (.v (.bool (decide (a>=b))))
 | .and=>some (.v (.int k (k.wrap (BitVec.ofInt k.bits a &&& BitVec.ofInt k.bits b).toNat)))
 | .or=>some (.v (.int k (k.wrap (BitVec.ofInt k.bits a||| BitVec.ofInt k.bits b).toNat)))
 | .xor=>some (.v (.int k (k.wrap (BitVec.ofInt k.bits a ^^^ BitVec.ofInt k.bits b).toNat)))
 | .andNot=>some (.v (.int k (k.wrap (BitVec.ofInt k.bits a &&& ~~~ BitVec.ofInt k.bits b).toNat)))
 | .shr=>if b<0 then none else some (.v (.int k (a.fdiv (2 ^ (min b.toNat k.bits)))))
 | .shl=>if b<0 then none else some (.v (.int k (k.wrap (a*2 ^ (min b.toNat k.bits)))))
def A0(op:BinOp)(a b:ByteArray):Option O:=
 match op with
 | .add=>if a.size+b.size<=maxLen then some (.v (.string (a++b)))else none
 | .eql=>some (.v (.bool (a.toList==b.toList)))
 | .neq=>some (.v (.bool (!(a.toList==b.toList))))
 | .lss=>some (.v (.bool (Op.bytesLess a.toList b.toList)))
 | .leq=>some (.v (.bool (Op.bytesLess a.toList b.toList||a.toList==b.toList)))
 | .gtr=>some (.v (.bool (!(Op.bytesLess a.toList b.toList||a.toList==b.toList))))
 | .geq=>some (.v (.bool (!(Op.bytesLess a.toList b.toList))))
 |_=>none
def wo:List Nat->zb->zb->Option Bool
 |[],_,_=>some true
 | 0::c,.v (.int k a)::xs,.v (.int d b)::ys=>if k=d then(wo c xs ys).map ((a==b)&&·)else none
 | 1::c,.v (.bool a)::xs,.v (.bool b)::ys=>(wo c xs ys).map ((a==b)&&·)
 | 2::c,.v (.string a)::xs,.v (.string b)::ys=>(wo c xs ys).map ((a==b)&&·)
 |_,_,_=>none
def tx(P:Program)(t:TypeId):Option Nat:=match P.underlying t with
 |some (.int _)=>some 0
 |some .bool=>some 1
 |some .string=>some 2
 |_=>none
def eP(P:Program):Nat->List Field->Option (List Nat)
 |_,[]=>some []
 |i,f::a=>if f.offset=i/\f.name≠ "_" then match tx P f.type,eP P (i+1) a with
   |some k,some b=>some (k::b)
   |_,_=>none
  else none
def I9(P:Program)(t:TypeId):Option (List Nat):=if P.stoodInHeld t=true then none else match P.underlying t with
 |some (.struct b)=>match eP P 0 b.toList with
  |some a=>if qF P t=some a.length then some a else none
  |none=>none
 |_=>none
def eQ(P:Program):Nat->List Field->Option (List Nat)
 |_,[]=>some []
 |i,f::b=>if f.offset=i/\f.name≠ "_" then match tx P f.type with
   |some k=>match eQ P (i+1) b with
    |some a=>some (k::a)
    |none=>none
   |none=>match I9 P f.type with
    |some c=>match eQ P (i+c.length) b with
     |some a=>some (c++a)
     |none=>none
    |none=>none
  else none
def A1(P:Program)(t:TypeId):Option (List Nat):=
 if P.stoodInHeld t=true\/P.eqGuardType P.depth t=true then none else
 match P.underlying t with
 |some (.struct a)=>eQ P 0 a.toList
 |_=>none
def V0:O->Option Bool
 | .nil=>some true
 | .em=>some false
 | .own _ _ _=>some false
 | .sl _ (_::_)=>some false
 |_=>none
def Qa(P:Program)(op:BinOp)(t:TypeId):O->O->Option O
 | .v (.int k a),.v (.int d b)=>if k=d then ak op k a b else none
 | .v (.string a),.v (.string b)=>A0 op a b
 | .v (.bool a),.v (.bool b)=>match op,P.underlying t with
  | .eql,some .bool=>some (.v (.bool (a==b)))
  | .neq,some .bool=>some (.v (.bool (!(a==b))))
  |_,_=>none
 | .agg xs,.agg ys=>match A1 P t with
  |some c=>match op with
   | .eql=>(wo c xs ys).map fun r=>.v (.bool r)
   | .neq=>(wo c xs ys).map fun r=>.v (.bool !r)
   |_=>none
  |none=>none
 |p,.nil=>match w5 P t,V0 p,op with
  |some _,some r,.eql=>some (.v (.bool r))
  |some _,some r,.neq=>some (.v (.bool !r))
  |_,_,_=>none
 |_,_=>none
def oC(P:Program)(t:TypeId):Bool:=match P.underlying t with
 |some (.interface _)=>true
 |_=>false
def HY:Operand->Bool
 | .const _=>true
 |_=>false
def sd(P:Program)(op:BinOp)(t:TypeId):Option O:=if oC P t=true then match op with
 | .eql=>some (.v (.bool true))
 | .neq=>some (.v (.bool false))
 |_=>none
 else none
def Yo(c:Bool)(P:Program)(op:BinOp)(t:TypeId)(p q:O):Option O:=match c,q,p with
 |true,.v .nilIface,.v .nilIface=>sd P op t
 |_,q,p=>Qa P op t p q
@[simp]theorem Pc(P:Program)(op:BinOp)(t:TypeId)(p q:O):Yo false P op t p q=Qa P op t p q:=rfl
@[simp]theorem Ty(t:Tmp):HY (.tmp t)=false:=rfl
@[simp]theorem NR(v:Value):HY (.const v)=true:=rfl
@[simp]theorem Pd(f:FuncId):HY (.func f)=false:=rfl
@[simp]theorem Pe(c:Bool)(P:Program)(op:BinOp)(t:TypeId)(p:O)(k:IntKind)(n:Int):Yo c P op t p (.v (.int k n))=Qa P op t p (.v (.int k n)):=by cases c<;>rfl
@[simp]theorem Pf(c:Bool)(P:Program)(op:BinOp)(t:TypeId)(p:O)(s:ByteArray):Yo c P op t p (.v (.string s))=Qa P op t p (.v (.string s)):=by cases c<;>rfl
@[simp]theorem NS(c:Bool)(P:Program)(op:BinOp)(t:TypeId)(p:O)(b:Bool):Yo c P op t p (.v (.bool b))=Qa P op t p (.v (.bool b)):=by cases c<;>rfl
@[simp]theorem Pg(c:Bool)(P:Program)(op:BinOp)(t:TypeId)(p:O):Yo c P op t p .nil=Qa P op t p .nil:=by cases c<;>rfl
@[simp]theorem NT(P:Program)(op:BinOp)(t:TypeId):Yo true P op t (.v .nilIface) (.v .nilIface)=sd P op t:=rfl
def EW(op:UnOp):O->Option O
 | .v (.bool b)=>match op with
  | .not=>some (.v (.bool !b))
  |_=>none
 | .v (.int k n)=>match op with
  | .neg=>some (.v (.int k (k.wrap (0-n))))
  |_=>none
 |_=>none
def JU(P:Program)(a dst:TypeId):O->Option O
 | .v (.int _ n)=>match P.underlying a,P.underlying dst with
  |some _,some (.int k)=>some (.v (.int k (k.wrap n)))
  |_,_=>none
 | .v (.string s)=>match P.underlying a,P.underlying dst with
  |some _,some .string=>some (.v (.string s))
  |_,_=>none
 |_=>none
def je(a:Nat):Option (Option O)->Option Nat
 |none=>some a
 |some (some (.v (.int _ i)))=>if 0<=i then some i.toNat else none
 |_=>none
def yL(P:Program)(Y:Hp)(t:TypeId)(x:O)(a c:Option (Option O)):Option O:=
 match P.underlying t,x with
 |some .string,.v (.string s)=>match je 0 a,je s.size c with
  |some l,some h=>if l<=h/\h<=s.size then some (.v (.string (s.extract l h)))else none
  |_,_=>none
 |some (.slice e),.sl s es=>match qF P e,je 0 a,je es.length c with
  |some n,some l,some h=>if s=n/\l<=h/\h<=es.length then some (.sl s ((es.drop l).take (h-l)))else none
  |_,_,_=>none
 |some (.slice e),.nil=>match qF P e,je 0 a,je 0 c with
  |some _,some l,some h=>if l=0/\h=0 then some .nil else none
  |_,_,_=>none
 |some (.slice e),.own id off n=>match qF P e,je 0 a,je n c with
  |some m,some l,some h=>match Y id with
   |some b=>if b.s=m/\l<=h/\h<=n then some (if l=0 then .own id off h else if h=l then .sl m []else .own id (off+l) (h-l))else none
   |none=>none
  |_,_,_=>none
 |_,_=>none
def Jg(k:IntKind)(x:Int):zb->Option O
 |[]=>some (.v (.int k x))
 | .v (.int a y)::l=>if k=a then Jg k (if y<x then y else x) l else none
 |_=>none
def A2:zb->Option O
 | .v (.int k x)::l=>Jg k x l
 |_=>none
def Jh(k:IntKind)(x:Int):zb->Option O
 |[]=>some (.v (.int k x))
 | .v (.int a y)::l=>if k=a then Jh k (if y>x then y else x) l else none
 |_=>none
def A3:zb->Option O
 | .v (.int k x)::l=>Jh k x l
 |_=>none
def Yp(P:Program)(t:TypeId):O->Option O
 | .v (.string s)=>match P.underlying t with
  |some .string=>some (.v (.int .i64 s.size))
  |_=>none
 | .v (.slice (some _) 0 0)=>(w5 P t).map fun _=>.v (.int .i64 0)
 | .sl _ es=>(w5 P t).map fun _=>.v (.int .i64 es.length)
 | .nil=>(w5 P t).map fun _=>.v (.int .i64 0)
 | .em=>(w5 P t).map fun _=>.v (.int .i64 0)
 | .own _ _ n=>(w5 P t).map fun _=>.v (.int .i64 n)
 |_=>none
def wW(cs:zb)(off:Nat):zb->zb
 |[]=>cs
 |x::l=>wW (cs.set off x) (off+1) l
def qn(a:Nat->Option (Nat×Nat))(cs:zb):List (Nat×O)->Option zb
 |[]=>some cs
 |(i,x)::rest=>match a i with
  |some (off,n)=>if x.cells.length=n/\off+n<=cs.length/\x.cells.all O.we=true then qn a (wW cs off x.cells) rest else none
  |none=>none
def wz{α:Type}:List (Option α)->Option (List α)
 |[]=>some []
 |some x::l=>(wz l).map (x::·)
 |none::_=>none
def jG(a:Operand->Option O):List (Nat×Operand)->Option (List (Nat×O))
 |[]=>some []
 |(i,x)::l=>match a x,jG a l with
  |some p,some r=>some ((i,p)::r)
  |_,_=>none
def kV(P:Program)(t:TypeId):Option (List (Nat×Nat)):=match P.underlying t with
 |some (.struct a)=>a.toList.mapM (fun f=>(P.info? f.type).map fun i=>(f.offset,i.size))
 |_=>none
def zU(P:Program)(t:TypeId)(a:List (Nat×O)):Option O:=
 match kV P t,y9 P t with
 |some b,some z=>(qn (fun i=>b[i]?) z a).map .agg
 |none,some z=>match P.underlying t with
  |some (.array _ e)=>match qF P e with
   |some n=>(qn (fun i=>some (i*n,n)) z a).map .agg
   |none=>none
  |_=>none
 |_,_=>none
def zr(Y:Hp):List (Nat×O)->Option (List (Nat×O)×Hp)
 |[]=>some ([],Y)
 |(i,x)::l=>match zS Y x with
  |some (y,Y1)=>match zr Y1 l with
   |some (r,Y2)=>some ((i,y)::r,Y2)
   |none=>none
  |none=>none
def zP(n:Nat)(es:List zb):List (Nat×O)->Option (List zb)
 |[]=>some es
 |(i,x)::l=>if x.cells.length=n/\i<es.length/\x.cells.all O.we=true then zP n (es.set i x.cells) l else none
def zu(P:Program)(Y:Hp)(Z:Nat)(t:TypeId)(len:Nat)(a:List (Nat×O)):Option (O×Hp×Nat):=
 match w5 P t with
 |some e=>match qF P e,y9 P e,zr Y a with
  |some n,some z,some (b,Y1)=>if 0<n/\z.length=n/\len*n<=16777216 then
    match zP n (List.replicate len z) b with
    |some es=>some (.own Z 0 len,qb Y1 Z (some ⟨e,n,true,es⟩),Z+1)
    |none=>none
   else none
  |_,_,_=>none
 |none=>none
def ZK(P:Program)(Y:Hp)(Z:Nat)(t:TypeId):O->O->Option (O×Hp×Nat)
 | .v (.int _ l),.v (.int _ c)=>match w5 P t with
  |some e=>match qF P e,vX P e,y9 P e with
   |some n,some a,some z=>if 0<n/\z.length=n/\0<=l/\l<=c/\c.toNat<=maxLen/\c.toNat*a<=140737488355328 then
     some (.own Z 0 l.toNat,qb Y Z (some ⟨e,n,true,List.replicate l.toNat z⟩),Z+1)
    else none
   |_,_,_=>none
  |none=>none
 |_,_=>none
def A4(P:Program)(u:TypeId):Bool:=match P.underlying u with
 |some .string=>true
 |_=>false
def ly(P:Program)(e:TypeId):Bool:=match P.info? e with
 |some i=>match i.zero with
  |some (.int .u8 z)=>z==0&&i.size==1&&i.bytes==1
  |_=>false
 |none=>false
def bt(P:Program)(Y:Hp)(n:Nat)(e t u:TypeId):O->Option (List zb)
 | .v (.string b)=>if A4 P u=true/\ly P e=true then some (b.data.toList.map fun c=>[.v (.int .u8 c.toNat)])else none
 |x=>if u=t then view Y n x else none
def yM(P:Program)(Y:Hp)(Z:Nat)(t u:TypeId)(s x:O):Option (O×Hp×Nat):=
 match w5 P t with
 |some e=>match qF P e,vX P e,y9 P e with
  |some n,some a,some z=>match bt P Y n e t u x with
   |some xs=>match s with
    | .nil=>
     if 0<n/\z.length=n/\xs.length<=maxLen/\xs.length*a<=140737488355328 then
      if xs.length=0 then some (.nil,Y,Z)
      else some (.own Z 0 xs.length,qb Y Z (some ⟨e,n,true,xs⟩),Z+1)
     else none
    | .own id 0 k=>match Y id with
     |some b=>if b.arr=true/\b.e=e/\k=b.es.length/\0<n/\z.length=n/\k+xs.length<=maxLen/\(k+xs.length)*a<=140737488355328 then
       some (.own Z 0 (k+xs.length),qb (qb Y id none) Z (some ⟨e,n,true,b.es++xs⟩),Z+1)
      else none
     |none=>none
    |_=>none
   |none=>none
  |_,_,_=>none
 |none=>none
def se(P:Program)(Y:Hp)(Z:Nat)(t:TypeId)(d x:O):Option (O×Hp×Nat):=
 match w5 P t,d with
 |some e,.own id off k=>match Y id,qF P e with
  |some b,some n=>match view Y n x with
   |some xs=>if b.arr=true/\b.e=e/\off+k<=b.es.length/\0<n then
     some (.v (.int .i64 (min xs.length k:Nat)),qb Y id (some ⟨b.e,b.s,true,b.es.take off++xs.take (min xs.length k)++b.es.drop (off+min xs.length k)⟩),Z)
    else none
   |none=>none
  |_,_=>none
 |_,_=>none
def Yq(P:Program)(Y:Hp)(Z:Nat)(t:TypeId)(x:O):Option (O×Hp×Nat):=
 match w5 P t,x with
 |some e,.own id off k=>match Y id,qF P e,y9 P e with
  |some b,some n,some z=>if(0<n/\z.length=n)/\b.arr=true/\b.e=e/\off+k<=b.es.length/\0<k then
    some (.qS [],qb Y id (some ⟨b.e,b.s,true,b.es.take off++List.replicate k z++b.es.drop (off+k)⟩),Z)
   else none
  |_,_,_=>none
 |_,_=>none
def kx(P:Program)(Y:Hp)(t:TypeId):O->Option O
 | .ptr cs=>qW P t cs
 | .ref id i j=>match Y id with
  |some b=>match b.es[i]? with
   |some c=>qW P t (c.drop j)
   |none=>none
  |none=>none
 |_=>none
def kG(P:Program)(Y:Hp)(t:TypeId)(a x:O):Option Hp:=
 match a with
 | .ref id i j=>match Y id with
  |some d=>match(if d.arr=true then zS Y x else some (x,Y))with
   |some (y,Y1)=>match Y1 id,qF P t with
    |some b,some n=>match b.es[i]? with
     |some c=>if y.cells.length=n/\j+n<=c.length/\y.cells.all O.we=true then
       some (qb Y1 id (some ⟨b.e,b.s,b.arr,b.es.set i (wW c j y.cells)⟩))else none
     |none=>none
    |_,_=>none
   |none=>none
  |none=>none
 |_=>none
def ye(P:Program)(t:TypeId)(f:Nat):O->Option O
 | .ptr cs=>match qX P t f with
  |some (o,n,_)=>if n=0 then none else some (.ptr (cs.drop o))
  |none=>none
 | .ref id i j=>match qX P t f with
  |some (o,n,_)=>if n=0 then none else some (.ref id i (j+o))
  |none=>none
 |_=>none
def kl(P:Program)(t:TypeId)(f:Nat):O->Option O
 | .agg cs=>match qX P t f with
  |some (o,n,true)=>if o+n<=cs.length then some (.agg ((cs.drop o).take n))else none
  |some (o,_,false)=>cs[o]?
  |none=>none
 |_=>none
def lz(P:Program)(t:TypeId):Option (Nat×TypeId):=match P.underlying t with
 |some (.array n e)=>some (n,e)
 |_=>none
def kW(P:Program)(t:TypeId)(i:Int)(x:O):Option O:=
 match lz P t with
 |some (m,e)=>match qF P e with
  |some n=>if 0<=i/\i<m then match x with
    | .ptr cs=>some (.ptr (cs.drop (i.toNat*n)))
    | .ref id a b=>some (.ref id a (b+i.toNat*n))
    |_=>none
   else none
  |none=>none
 |none=>none
def qi(P:Program)(Y:Hp)(t:TypeId):O->O->Option O
 |x,.v (.int _ i)=>match w5 P t with
  |some e=>match qF P e,x with
   |some n,.sl s es=>if s=n/\0<n/\0<=i then(es[i.toNat]?).map .ptr else none
   |some n,.own id off k=>match Y id with
    |some b=>if b.e=e/\0<n/\0<=i/\i.toNat<k then some (.ref id (off+i.toNat) 0)else none
    |none=>none
   |_,_=>none
  |none=>kW P t i x
 |_,_=>none
def xA(P:Program)(t:TypeId):O->O->Option O
 | .v (.string s),.v (.int _ i)=>match P.underlying t with
  |some .string=>if 0<=i then match s[i.toNat]? with
    |some b=>some (.v (.int .u8 b.toNat))
    |none=>none
   else none
  |_=>none
 |_,_=>none
def KM(P:Program)(t:TypeId):Option (Option IntKind×TypeId):=match P.underlying t with
 |some (.map b a)=>match P.underlying b with
  |some (.int k)=>some (some k,a)
  |some .string=>some (none,a)
  |_=>none
 |_=>none
def KN:Option IntKind->Value->Bool
 |some k,.int a _=>a==k
 |none,.string _=>true
 |_,_=>false
def Zt:Value->Value->Option Bool
 | .int k a,.int c b=>if k=c then some (a==b)else none
 | .string a,.string b=>some (a.toList==b.toList)
 |_,_=>none
def QO(k:Value):List zb->Nat->Option (Option (Nat×O))
 |[],_=>some none
 |[.v a,v]::l,i=>match Zt k a with
  |some true=>some (some (i,v))
  |some false=>QO k l (i+1)
  |none=>none
 |_::_,_=>none
def KO(P:Program)(t:TypeId):Option O:=((P.info? t).bind (·.zero)).bind aY
def lA(Y:Hp):O->Option (List zb)
 | .mp id=>match Y id with
  |some b=>if b.s=0 then some b.es else none
  |none=>none
 | .v (.map none)=>some []
 |_=>none
def Qc(P:Program)(Y:Hp)(t:TypeId)(x a:O)(b:Bool):Option O:=
 match KM P t,lA Y x,a with
 |some (c,d),some es,.v k=>if KN c k=true then match QO k es 0 with
   |some (some (_,v))=>some (if b=true then .qS [v,.v (.bool true)]else v)
   |some none=>(KO P d).map fun z=>if b=true then .qS [z,.v (.bool false)]else z
   |none=>none
  else none
 |_,_,_=>none
def vY(P:Program)(Y:Hp)(t:TypeId)(x a y:O):Option Hp:=
 match KM P t,x,a with
 |some (c,_),.mp id,.v k=>if KN c k=true then match zS Y y with
   |some (z,Y1)=>match Y1 id with
    |some b=>if b.s=0 then match QO k b.es 0 with
      |some (some (i,_))=>some (qb Y1 id (some ⟨b.e,b.s,b.arr,b.es.set i [.v k,z]⟩))
      |some none=>some (qb Y1 id (some ⟨b.e,b.s,b.arr,b.es++[[.v k,z]]⟩))
      |none=>none
     else none
    |none=>none
   |none=>none
  else none
 |_,_,_=>none
def wF(P:Program)(Y:Hp)(Z:Nat)(ts:Array TypeId)(b:Builtin)(xs:zb):Option (O×Hp×Nat):=
 match b with
 | .len=>match xs,ts[0]? with
  |[x],some t=>(Yp P t x).map fun y=>(y,Y,Z)
  |_,_=>none
 | .min=>(A2 xs).map fun y=>(y,Y,Z)
 | .max=>(A3 xs).map fun y=>(y,Y,Z)
 | .append=>match xs,ts[0]?,ts[1]? with
  |[s,x],some t,some u=>yM P Y Z t u s x
  |_,_,_=>none
 | .copy=>match xs,ts[0]? with
  |[d,x],some t=>se P Y Z t d x
  |_,_=>none
 | .clear=>match xs,ts[0]? with
  |[x],some t=>Yq P Y Z t x
  |_,_=>none
 |_=>none
def yF(C:Ctx)(Y:Hp)(Z:Nat)(f:Option O)(xs:zb):Option (O×Hp×Nat):=
 match f with
 |some (.fn (.func g) first a)=>match C.Γ g with
  |some b=>b (first++xs++a) Y Z
  |none=>none
 |_=>none
def kH(C:Ctx)(a:Operand->Option O)(Y:Hp)(Z:Nat)(c:Call):Option (O×Hp×Nat):=
 match wz (c.args.toList.map a)with
 |some xs=>match c.callee with
  | .builtin b=>wF C.P Y Z c.argTypes b xs
  | .value f=>yF C Y Z (a f) xs
  | .invoke _ _=>none
 |none=>none
def zF(C:Ctx)(d:Operand->Option O)(Y:Hp)(Z:Nat)(o:Op):Option (O×Hp×Nat):=
 match o with
 | .move x=>(d x).map fun y=>(y,Y,Z)
 | .assign x=>(d x).map fun y=>(y,Y,Z)
 | .pick c a b=>match d c with
  |some (.v (.bool true))=>(d a).map fun y=>(y,Y,Z)
  |some (.v (.bool false))=>(d b).map fun y=>(y,Y,Z)
  |_=>none
 | .alloc t=>match qF C.P t,y9 C.P t with
  |some n,some z=>if 0<n/\z.length=n then some (.ref Z 0 0,qb Y Z (some ⟨t,n,false,[z]⟩),Z+1)else none
  |_,_=>none
 | .box t x=>match qF C.P t,d x with
  |some n,some y=>if 0<n/\y.cells.length=n/\y.cells.all O.we=true then some (.ref Z 0 0,qb Y Z (some ⟨t,n,false,[y.cells]⟩),Z+1)else none
  |_,_=>none
 | .build t e=>match jG d e.toList with
  |some s=>(zU C.P t s).map fun y=>(y,Y,Z)
  |none=>none
 | .buildSlice t len e=>match jG d e.toList with
  |some s=>zu C.P Y Z t len s
  |none=>none
 | .load t a=>match d a with
  |some p=>(kx C.P Y t p).map fun y=>(y,Y,Z)
  |none=>none
 | .store t a x=>match d a,d x with
  |some p,some y=>(kG C.P Y t p y).map fun h=>(.qS [],h,Z)
  |_,_=>none
 | .nilCheck x=>match d x with
  |some (.ref id i j)=>some (.ref id i j,Y,Z)
  |some (.ptr cs)=>some (.ptr cs,Y,Z)
  |_=>none
 | .binOp op t x y _=>match d x,d y with
  |some p,some q=>(Yo (HY y) C.P op t p q).map fun r=>(r,Y,Z)
  |_,_=>none
 | .unOp op _ x=>match d x with
  |some p=>(EW op p).map fun r=>(r,Y,Z)
  |none=>none
 | .convert u dst x=>match d x with
  |some p=>(JU C.P u dst p).map fun r=>(r,Y,Z)
  |none=>none
 | .makeFunc f first g=>match wz (first.toList.map d),wz (g.toList.map d)with
  |some xs,some ys=>some (.fn f xs ys,Y,Z)
  |_,_=>none
 | .makeSlice t l c=>match d l,d c with
  |some p,some q=>ZK C.P Y Z t p q
  |_,_=>none
 | .slice t x w A none=>match d x with
  |some p=>(yL C.P Y t p (w.map d) (A.map d)).map fun r=>(r,Y,Z)
  |none=>none
 | .fieldAddr t x f=>match d x with
  |some p=>(ye C.P t f p).map fun r=>(r,Y,Z)
  |none=>none
 | .field t x f=>match d x with
  |some p=>(kl C.P t f p).map fun r=>(r,Y,Z)
  |none=>none
 | .indexAddr t x i=>match d x,d i with
  |some p,some q=>(qi C.P Y t p q).map fun r=>(r,Y,Z)
  |_,_=>none
 | .index t x i=>match d x,d i with
  |some p,some q=>(xA C.P t p q).map fun r=>(r,Y,Z)
  |_,_=>none
 | .extract x i=>match d x with
  |some (.qS vs)=>(vs[i]?).map fun r=>(r,Y,Z)
  |_=>none
 | .call c=>kH C d Y Z c
 | .makeMap t none=>match KM C.P t with
  |some _=>some (.mp Z,qb Y Z (some ⟨t,0,false,[]⟩),Z+1)
  |none=>none
 | .lookup t x i B=>match d x,d i with
  |some p,some q=>(Qc C.P Y t p q B).map fun r=>(r,Y,Z)
  |_,_=>none
 | .mapUpdate t m k x=>match d m,d k,d x with
  |some p,some q,some y=>(vY C.P Y t p q y).map fun h=>(.qS [],h,Z)
  |_,_,_=>none
 | .insert t m k x=>match d m,d k,d x with
  |some p,some q,some y=>(vY C.P Y t p q y).map fun h=>(.qS [],h,Z)
  |_,_,_=>none
 |_=>none
def put(X:Nat->O)(dst:Option Tmp)(x:O):Nat->O:=
 match dst with
 |some d=>qb X d x
 |none=>X
def xB(a:Array Oper)(X:Nat->O)(j:Nat):Option Bool:=
 match(a[j]?).bind (·.dst)with
 |some d=>match X d with
  | .v (.bool b)=>some b
  |_=>none
 |none=>none
def w7(C:Ctx)(a:Array Oper)(o:Oper)(st:St):Option St:=
 if Region.wanted o (xB a st.X)=true then
  match zF C (get st.X) st.Y st.Z o.op with
  |some (x,Y,Z)=>some ⟨put st.X o.dst x,Y,Z⟩
  |none=>none
 else some ⟨put st.X o.dst (.qS []),st.Y,st.Z⟩
def kh(C:Ctx)(a:Array Oper):List Oper->St->Option St
 |[],st=>some st
 |o::l,st=>match w7 C a o st with
  |some b=>kh C a l b
  |none=>none
def iter(f:St->Option (Exit×St)):Nat->St->Option (Exit×St)
 | 0,_=>none
 |n+1,st=>match f st with
  |some (.normal,a)=>iter f n a
  |r=>r
open Classical in
noncomputable def JV (f:St->Option (Exit×St)) (st:St):Option (Exit×St):=
 if h:∃n,(iter f n st).isSome=true then iter f (Classical.choose h) st else none
def iX:List Tmp->St->Option St
 |[],st=>some st
 |t::l,st=>match zS st.Y (st.X t)with
  |some (y,Y1)=>iX l ⟨qb st.X t y,Y1,st.Z⟩
  |none=>none
def We(b c:St->Option (Exit×St))(X:Nat->O)(p:Tmp):zb->Hp->Nat->Option (Exit×Hp×Nat)
 |[],Y,Z=>some (.normal,Y,Z)
 |x::xs,Y,Z=>match b ⟨qb X p x,Y,Z⟩with
  |some (.normal,d)=>match c d with
   |some (.normal,a)=>We b c X p xs a.Y a.Z
   |some (.ret,a)=>some (.ret,a.Y,a.Z)
   |some (.exit i,a)=>some (.exit i,a.Y,a.Z)
   |_=>none
  |_=>none
open Classical in
noncomputable def qx (C:Ctx):Code->St->Option (Exit×St)
 | .skip,st=>some (.normal,st)
 | .region id j _,k=>match iX (C.fz id) k with
  |some st=>if xz (C.dyn id) st/\vW (C.AV id) st then match kh C j j.toList st with
   |some d=>some (.normal,d)
   |none=>none
   else none
  |none=>none
 | .seq a b,st=>match qx C a st with
  |some (.normal,d)=>qx C b d
  |r=>r
 | .cond c x y,st=>match get st.X c with
  |some (.v (.bool true))=>qx C x st
  |some (.v (.bool false))=>qx C y st
  |_=>none
 | .block id h,st=>match qx C h st with
  |some (.exit i,d)=>if i=id then some (.normal,d)else some (.exit i,d)
  |r=>r
 | .loop h,st=>JV (qx C h) st
 | .exit id,st=>some (.exit id,st)
 | .ret,st=>some (.ret,st)
 | .label _,st=>some (.normal,st)
 | .rangeFunc f m a b,st=>match m.toList,get st.X f with
  |[p],some (.fn (.func g) [] cap)=>match C.it g with
   |some it=>match it cap st.Y with
    |some (xs,Y1)=>match We (qx C a) (qx C b) st.X p xs Y1 st.Z with
     |some (e,Y2,l)=>some (e,⟨st.X,Y2,l⟩)
     |none=>none
    |none=>none
   |none=>none
  |_,_=>none
 |_,_=>none
def Zu(P:Program)(st:St):ResultVar->Option O
 | .tmp t=>some (st.X t)
 | .cell a t=>kx P st.Y t (st.X a)
def kI(P:Program)(fn:Func)(st:St):Option O:=
 match wz (fn.results.toList.map (Zu P st))with
 |some [x]=>some x
 |some xs=>some (.qS xs)
 |none=>none
def ka(args:zb):Nat->O:=fun t=>(args[t]?).getD (.qS [])
noncomputable def yd (C:Ctx) (fn:Func) (args:zb) (Y:Hp) (Z:Nat):Option (O×Hp×Nat):=
 match fn.body with
 |some code=>match qx C code ⟨ka args,Y,Z⟩with
  |some (.normal,st)=>(kI C.P fn st).map fun x=>(x,st.Y,st.Z)
  |some (.ret,st)=>(kI C.P fn st).map fun x=>(x,st.Y,st.Z)
  |_=>none
 |none=>none
noncomputable def zM (C:Ctx) (fn:Func) (args:zb):Option O:=
 match yd C fn args (fun _=>none) 0 with
 |some (x,Y,_)=>(freeze Y x).map (·.1)
 |none=>none
theorem eR(f:St->Option (Exit×St)):∀(n k:Nat) (st:St) (r:Exit×St),iter f n st=some r->iter f (n+k) st=some r:=by
 intro n
 induction n with
 |zero=>intro k st r h;simp[iter]at h
 |succ n b=>
  intro k st r h;rw[show n+1+k=(n+k)+1 from by omega];simp only[iter]at h⊢;split at h
  ·rename_i a c;simp only[b k a r h]
  ·simpa using h
theorem Qy{f:St->Option (Exit×St)}{n:Nat}{st:St}{r:Exit×St}(h:iter f n st=some r):JV f st=some r:=by have c:∃n,(iter f n st).isSome=true:=⟨n,by simp[h]⟩;unfold JV;rw[dif_pos c];have e:=wJ c;obtain⟨g,d⟩:=Option.isSome_iff_exists.1 e;rw[d];have a:=eR f _ (Classical.choose c) st r h;have b:=eR f _ n st g d;rw[iW]at b;rw[a]at b;exact b.symm
theorem xK{f:St->Option (Exit×St)}{st:St}{r:Exit×St}(h:JV f st=some r):∃n,iter f n st=some r:=by
 unfold JV at h;split at h
 ·exact⟨_,h⟩
 ·cases h
theorem gh(f:St->Option (Exit×St))(st:St):JV f st=match f st with
  |some (.normal,a)=>JV f a
  |r=>r:=by
 cases d:f st with
 |none=>
  simp only[];cases c:JV f st with
  |none=>rfl
  |some r=>
   obtain⟨n,b⟩:=xK c;cases n with
   |zero=>simp[iter]at b
   |succ n=>simp[iter,d]at b
 |some p=>
  obtain⟨e,a⟩:=p;by_cases h:e=.normal
  ·subst h;simp only[];cases c:JV f a with
   |some r=>obtain⟨n,b⟩:=xK c;exact Qy (n:=n+1) (by simp[iter,d,b])
   |none=>
    cases g:JV f st with
    |none=>rfl
    |some r=>
     obtain⟨n,b⟩:=xK g;cases n with
     |zero=>simp[iter]at b
     |succ n=>simp only[iter,d]at b;rw[Qy b]at c;cases c
  ·have i:iter f 1 st=some (e,a):=by simp only[iter,d];cases e<;>simp_all
   rw[Qy i];cases e<;>simp_all
variable{dr:Prop}
def yu(Y:Hp)(G:Nat->GI)(b:Nat):Prop:=∃id blk,Y id=some blk/\(G id).g=b
structure jN (dr:Prop) (P:Program) (Y:Hp) (Z:Nat) (S:Nat->Prop) (G:Nat->GI) (w:World) (Y':Hp) (Z':Nat) (S':Nat->Prop) (G':Nat->GI) (w':World):Prop where
 inv:Inv P w' S' G' Y' Z'
 up:Z<=Z'
 loc:∀id,id<Z->G' id=G id
 Wa:∀b,S b->S' b
 from_:∀b,S' b->S b\/yu Y G b\/w.heap.size<=b
 own:∀id blk,Y' id=some blk->yu Y G (G' id).g\/w.heap.size<=(G' id).g
 fr:Fr dr w (yu Y G) w'
theorem jN.same{P:Program}{Y Y':Hp}{Z Z':Nat}{S S':Nat->Prop}{G G':Nat->GI}{w c:World}(h:jN dr P Y Z S G w Y' Z' S' G' c)(d:Inv P w S G Y Z) :
  ∀b,S b->S' b/\c.heap[b]?=w.heap[b]?:=fun b a=>
 ⟨h.Wa b a,h.fr.block b (d.st b a) fun⟨id,blk,hid,e⟩=>d.apart id blk hid (e ▸ a)⟩
theorem jN.refl{P:Program}{Y:Hp}{Z:Nat}{S:Nat->Prop}{G:Nat->GI}{w:World}(h:Inv P w S G Y Z):jN dr P Y Z S G w Y Z S G w:=
 ⟨h,zi _,fun _ _=>rfl,fun _ h=>h,fun _ h=>.inl h,fun id blk a=>.inl ⟨id,blk,a,rfl⟩,Fr.refl _ _⟩
theorem jN.trans{P:Program}{Y Y' a:Hp}{Z Z' c:Nat}{S S' f:Nat->Prop}{G G' g:Nat->GI}{w l i:World}
  (h:jN dr P Y Z S G w Y' Z' S' G' l) (k:jN dr P Y' Z' S' G' l a c f g i):jN dr P Y Z S G w a c f g i:=by
 have j:∀b,yu Y' G' b->yu Y G b\/w.heap.size<=b:=by rintro b ⟨id,blk,h1,rfl⟩;exact h.own id blk h1
 refine⟨k.inv,qm h.up k.up,fun id hid=>(k.loc id (q8 hid h.up)).trans (h.loc id hid),fun b d=>k.Wa b (h.Wa b d),fun b d=>?_,fun id blk d=>?_,?_⟩
 ·rcases k.from_ b d with h1|h1|h1
  ·exact h.from_ b h1
  ·rcases j b h1 with e|e
   ·exact .inr (.inl e)
   ·exact .inr (.inr e)
  ·exact .inr (.inr (qm h.fr.size h1))
 ·rcases k.own id blk d with h1|h1
  ·exact j _ h1
  ·exact .inr (qm h.fr.size h1)
 ·refine h.fr.trans k.fr fun b d h1=>?_
  rcases j b h1 with e|e
  ·exact e
  ·omega
theorem Inv.same{P:Program}{w c:World}{S:Nat->Prop}{G:Nat->GI}{Y:Hp}{Z:Nat}(h:Inv P w S G Y Z)(d:c.heap=w.heap):Inv P c S G Y Z:=by
 have e:∀b,S b->S b/\c.heap[b]?=w.heap[b]?:=fun b a=>⟨a,by rw[d]⟩
 exact⟨fun b a=>by rw[d];exact h.st b a,h.top,fun id b a=>(h.live id b a).mono e (zi _) (fun _ _=>rfl) (by rw[d]),h.apart,h.inj,h.KJ.mono e⟩
theorem jN.alloc{P:Program}{Y:Hp}{Z:Nat}{S:Nat->Prop}{G:Nat->GI}{w:World}(h:Inv P w S G Y Z)(d:Array Value)(e:TypeId)(q:Bool)(es:List zb)(s:Nat)(B:0<s)
  (C:(P.info? e).map (·.size)=some s) (v:∀c∈es,c.length=s) (x:es.length*s<=d.size)
  (y:∀(i j:Nat) (c:zb) (z:O),es[i]?=some c->c[j]?=some z->∃u,d[i*s+j]?=some u/\jP w S G Z q z u) :
  jN dr P Y Z S G w (qb Y Z (some ⟨e,s,q,es⟩)) (Z+1) S (qb G Z ⟨w.heap.size,d.size,s⟩) (w.alloc (.cells d e)):=by
 have m:∀b,b<w.heap.size->(w.alloc (.cells d e)).heap[b]?=w.heap[b]?:=fun b a=>Below.heap_alloc w _ b a
 have D:∀b,S b->S b/\(w.alloc (.cells d e)).heap[b]?=w.heap[b]?:=fun b a=>⟨a,m b (h.st b a)⟩
 have p:∀id,id<Z->qb G Z ⟨w.heap.size,d.size,s⟩ id=G id:=fun id hid=>zc _ _ _ _ (by omega)
 have f:∀id,id≠Z->qb Y Z (some ⟨e,s,q,es⟩) id=Y id:=fun id hid=>zc _ _ _ _ hid
 have n:(w.alloc (.cells d e)).heap.size=w.heap.size+1:=by show(w.heap.push _).size=_;simp
 have r:∀id b,Y id=some b->(G id).g<w.heap.size:=fun id b a=>(h.live id b a).lt
 refine⟨⟨fun b a=>by rw[n];have:=h.st b a;omega,fun id b a=>?_,fun id b a=>?_,fun id b a=>?_,fun id id' b A a l t=>?_,h.KJ.mono D⟩,by omega,p,fun _ a=>a,fun _ a=>.inl a,fun id b a=>?_,⟨rfl,rfl,rfl,by rw[n];omega,fun _=>zi _,fun k E _=>m k E⟩⟩
 ·by_cases hid:id=Z
  ·omega
  ·rw[f id hid]at a;have:=h.top id b a;omega
 ·by_cases hid:id=Z
  ·subst hid;simp only[q9]at a⊢;injection a with a
   subst a;refine .jE B rfl ⟨C,v,x,d,heap_alloc_new w _,rfl,fun i j c z F H=>?_⟩;obtain⟨u,I,J⟩:=y i j c z F H;exact⟨u,I,J.mono D (by omega) p⟩
  ·rw[f id hid]at a;have K:=h.top id b a;rw[p id K];exact(h.live id b a).mono D (by omega) p (m _ (r id b a))
 ·by_cases hid:id=Z
  ·subst hid;simp only[q9];intro hs;have:=h.st _ hs;omega
  ·rw[f id hid]at a;rw[p id (h.top id b a)];exact h.apart id b a
 ·by_cases hid:id=Z<;>by_cases o:id'=Z
  ·omega
  ·subst hid;rw[f id' o]at l;rw[p id' (h.top id' A l)]at t;have:=r id' A l;simp at t;omega
  ·subst o;rw[f id hid]at a;rw[p id (h.top id b a)]at t;have:=r id b a;simp at t;omega
  ·rw[f id hid]at a;rw[f id' o]at l;rw[p id (h.top id b a),p id' (h.top id' A l)]at t;exact h.inj id id' b A a l t
 ·by_cases hid:id=Z
  ·subst hid;simp
  ·rw[f id hid]at a;rw[p id (h.top id b a)];exact .inl ⟨id,b,a,rfl⟩
theorem jN.set{P:Program}{Y:Hp}{Z:Nat}{S:Nat->Prop}{G:Nat->GI}{w:World}(h:Inv P w S G Y Z){id:Nat}{b:Blk}(hid:Y id=some b)(n:0<(G id).s)(f:Array Value)(es:List zb)
  (H:f.size=(G id).z) (o:∀c∈es,c.length=(G id).s) (p:es.length*(G id).s<=(G id).z)
  (q:∀(i j:Nat) (c:zb) (t:O),es[i]?=some c->c[j]?=some t->∃u,f[i*(G id).s+j]?=some u/\jP w S G Z b.arr t u) :
  jN dr P Y Z S G w (qb Y id (some ⟨b.e,b.s,b.arr,es⟩)) Z S G (w.setRow (G id).g f):=by
 have l:∀k,k≠(G id).g->(w.setRow (G id).g f).heap[k]?=w.heap[k]?:=fun k d=>setRow_other w _ k _ d
 have v:∀b,S b->S b/\(w.setRow (G id).g f).heap[b]?=w.heap[b]?:=fun k d=>⟨d,l k fun e=>h.apart id b hid (e ▸ d)⟩
 have m:∀k,k≠id->qb Y id (some ⟨b.e,b.s,b.arr,es⟩) k=Y k:=fun k d=>zc _ _ _ _ d
 obtain⟨x,r,I,_⟩:=(h.live id b hid).row n;refine⟨⟨fun k d=>by rw[setRow_size];exact h.st k d,fun k c d=>?_,fun k c d=>?_,fun k c d=>?_,fun k E c y d A J=>?_,h.KJ.mono v⟩,zi _,fun _ _=>rfl,fun _ B=>B,fun _ B=>.inl B,fun k c d=>?_,⟨rfl,rfl,rfl,by simp,fun _=>zi _,fun k _ K=>l k fun e=>K ⟨id,b,hid,e.symm⟩⟩⟩
 ·by_cases a:k=id
  ·subst a;exact h.top _ b hid
  ·rw[m k a]at d;exact h.top k c d
 ·by_cases a:k=id
  ·subst a;simp only[q9]at d;injection d with d
   subst d;refine .jE n (h.live _ b hid).bs ⟨(h.live _ b hid).size n,o,p,f,setRow_heap w _ x _ _ _ r,H,fun i j c t L M=>?_⟩;obtain⟨u,C,D⟩:=q i j c t L M;exact⟨u,C,D.mono v (zi _) (fun _ _=>rfl)⟩
  ·rw[m k a]at d;exact(h.live k c d).mono v (zi _) (fun _ _=>rfl) (l _ fun e=>a (h.inj k id c b d hid e))
 ·by_cases a:k=id
  ·subst a;exact h.apart _ b hid
  ·rw[m k a]at d;exact h.apart k c d
 ·have F:∀k c,qb Y id (some ⟨b.e,b.s,b.arr,es⟩) k=some c->∃y,Y k=some y:=by
   intro k c d;by_cases a:k=id
   ·subst a;exact⟨b,hid⟩
   ·rw[m k a]at d;exact⟨c,d⟩
  obtain⟨N,C⟩:=F k c d;obtain⟨Q,D⟩:=F E y A;exact h.inj k E N Q C D J
 ·by_cases a:k=id
  ·subst a;exact .inl ⟨_,b,hid,rfl⟩
  ·rw[m k a]at d;exact .inl ⟨k,c,d,rfl⟩
theorem jN.kill{P:Program}{Y:Hp}{Z:Nat}{S:Nat->Prop}{G:Nat->GI}{w:World}(h:Inv P w S G Y Z){id:Nat}{b:Blk}(hid:Y id=some b) :
  jN dr P Y Z S G w (qb Y id none) Z (fun k=>S k\/k=(G id).g) G w:=by
 have i:∀k,S k->(S k\/k=(G id).g)/\w.heap[k]?=w.heap[k]?:=fun k a=>⟨.inl a,rfl⟩
 have d:∀k c,qb Y id none k=some c->k≠id/\Y k=some c:=by
  intro k c a;by_cases e:k=id
  ·subst e;simp at a
  ·rw[zc _ _ _ _ e]at a;exact⟨e,a⟩
 refine⟨⟨fun k a=>?_,fun k c a=>h.top k c (d k c a).2,fun k c a=>(h.live k c (d k c a).2).mono i (zi _) (fun _ _=>rfl) rfl,fun k c a=>?_,fun k j c l a f he=>h.inj k j c l (d k c a).2 (d j l f).2 he,h.KJ.mono i⟩,
  zi _,fun _ _=>rfl,fun _ m=>.inl m,fun k a=>?_,fun k c a=>.inl ⟨k,c,(d k c a).2,rfl⟩,Fr.refl _ _⟩
 ·rcases a with a|rfl
  ·exact h.st k a
  ·exact(h.live id b hid).lt
 ·rintro (hs|he)
  ·exact h.apart k c (d k c a).2 hs
  ·exact(d k c a).1 (h.inj k id c b (d k c a).2 hid he)
 ·rcases a with a|rfl
  ·exact .inl a
  ·exact .inr (.inl ⟨id,b,hid,rfl⟩)
theorem oD{P:Program}{Y:Hp}{Z:Nat}{S:Nat->Prop}{G:Nat->GI}{w:World}(h:Inv P w S G Y Z){id off n cap:Nat}{b:Blk}(hid:Y id=some b)(o:0<(G id).s)(p:b.arr=true)(N:off+n<=b.es.length)
  (E:n<=cap) (q:cap<=maxLen) (S':Nat->Prop) (F:∀k,S k->S' k) (H:S' (G id).g) :
  qO w S' (.sl b.s ((b.es.drop off).take n)) (.slice (some ⟨(G id).g,off*(G id).s,none⟩) n cap):=by
 have A:=h.live id b hid;obtain⟨r,I,Q,J⟩:=A.row o;have K:((b.es.drop off).take n).length=n:=by simp;omega
 have t:∀(i:Nat) (c:zb),((b.es.drop off).take n)[i]?=some c->b.es[off+i]?=some c:=by
  intro i c a;rw[wG]at a;split at a
  ·rwa [wu]at a
  ·cases a
 have m:∀(i j:Nat),∃u,∀(c:zb) (d:O),((b.es.drop off).take n)[i]?=some c->c[j]?=some d->r[(off+i)*(G id).s+j]?=some u/\jP w S G Z b.arr d u:=by
  intro i j;by_cases y:∃c d,((b.es.drop off).take n)[i]?=some c/\c[j]?=some d
  ·obtain⟨c,d,a,l⟩:=y;obtain⟨u,z,v⟩:=J (off+i) j c d (t i c a) l;refine⟨u,fun R L e f=>?_⟩;rw[a]at e;injection e with e;subst e;rw[l]at f;injection f with f;subst f;exact⟨z,v⟩
  ·exact⟨undef,fun c d a l=>(y ⟨c,d,a,l⟩).elim⟩
 rw[A.bs];have B:qO w S' (.sl (G id).s ((b.es.drop off).take n)) (.slice (some ⟨(G id).g,off*(G id).s,none⟩) ((b.es.drop off).take n).length cap):=by
  refine .sl (s:=(G id).s) (fun i j=>Classical.choose (m i j)) (by simp) (by omega) q (fun c y=>A.len o c (aR _ _ (W4 _ _ y))) (fun i j c d a l=>?_) (fun i j c d a l=>?_)
  ·obtain⟨z,v⟩:=wJ (m i j) c d a l;refine⟨_,rfl,H,?_,v.2.2⟩;have x:(⟨(G id).g,off*(G id).s,none⟩:Addr).add (i*(G id).s+j)=⟨(G id).g,(off+i)*(G id).s+j,none⟩:=by
    unfold Addr.add;split
    ·rename_i T;have C:i*(G id).s=0:=by omega
     have D:j=0:=by omega
     simp[w8,C,D]
    ·simp[w8];omega
   rw[x,cell_of_row w _ _ r _ _ I];exact z
  ·obtain⟨z,v⟩:=wJ (m i j) c d a l;exact(v.1 p).mono fun k M=>⟨F k M,rfl⟩
 rwa [K]at B
theorem Marks.step{P:Program}{i:Nat}{Y Y':Hp}{Z Z':Nat}{S S':Nat->Prop}{G G':Nat->GI}{w j:World}{ds:List Deferred}(h:Marks i w S Y G ds)(k:jN dr P Y Z S G w Y' Z' S' G' j):Marks i j S' Y' G' ds:=by
 obtain⟨d,m,e,n,o⟩:=h;refine⟨qm d k.fr.size,m,e,n,fun D p=>?_⟩;obtain⟨q,l,c,f⟩:=o D p;have g:D<w.heap.size:=(qd.1 l).1;refine⟨q,(k.fr.block D g fun⟨id,b,a,e⟩=>f id b a e).trans l,fun hs=>?_,fun id b a e=>?_⟩
 ·rcases k.from_ D hs with h|⟨id,b,a,e⟩|h
  ·exact c h
  ·exact f id b a e
  ·omega
 rcases k.own id b a with⟨id',r,c,s⟩|c
 ·exact f id' r c (s.trans e)
 ·omega
theorem xo.step{P:Program}{i:World}{l L:Nat->Prop}{N m:Nat}{n:Nat->GI}{o:Nat}{st:St}{S S':Nat->Prop}{G G':Nat->GI}{a:Act}{w g:World}{Y':Hp}{Z':Nat}{x:O}{u:Value}{dst:Option Tmp}
  (h:xo dr P i l L N m n o st S G a w) (k:jN dr P st.Y st.Z S G w Y' Z' S' G' g) (p:zR g S' G' Z' x u) (q:∀d,dst=some d->d<N) :
  xo dr P i l L N m n o ⟨put st.X dst x,Y',Z'⟩ S' G' (a.put dst u) g:=by
 have r:=k.same h.inv;have j:∀b,yu st.Y G b->L b\/i.heap.size<=b:=by rintro b ⟨id,blk,h1,rfl⟩;exact h.own id blk h1
 refine⟨k.inv,fun t=>?_,?_,?_,fun b f=>k.Wa b (h.s0 b f),fun b f=>?_,fun id blk f=>?_,?_,qm h.up k.up,fun id hid=>(k.loc id (q8 hid h.up)).trans (h.loc id hid)⟩
 ·have c:zR g S' G' Z' (st.X t) (a.tmps.getD t undef):=(h.vT t).mono r k.up k.loc;cases dst with
  |none=>exact c
  |some d=>
   show zR g S' G' Z' (qb st.X d x t) ((a.tmps.setIfInBounds d u).getD t undef);by_cases e:t=d
   ·subst e;have:t<a.tmps.size:=by rw[h.size];exact q t rfl
    simpa[qb,this]using p
   ·have s:¬d=t:=fun h=>e h.symm
    simp only[qb,e,qf];have:(a.tmps.setIfInBounds d u).getD t undef=a.tmps.getD t undef:=by simp[XH s]
    rw[this];exact c
 ·cases dst with
  |none=>exact h.size
  |some d=>show(a.tmps.setIfInBounds d u).size=N;simp[h.size]
 ·cases dst<;>exact h.defers.step k
 ·rcases k.from_ b f with h1|h1|h1
  ·exact h.s1 b h1
  ·rcases j b h1 with h2|h2
   ·exact .inr (.inl h2)
   ·exact .inr (.inr h2)
  ·exact .inr (.inr (qm h.fr.size h1))
 ·rcases k.own id blk f with h1|h1
  ·exact j _ h1
  ·exact .inr (qm h.fr.size h1)
 ·refine h.fr.trans k.fr fun b f h1=>?_
  rcases j b h1 with h2|h2
  ·exact h2
  ·omega
variable{dr:Prop}
section
variable{P:Program}{w:World}{S:Nat->Prop}{G:Nat->GI}{Y:Hp}{Z:Nat}
theorem qO.wj{x u:Value}(h:qO w S (.v x) u):u=x/\lit x=true:=by cases h;exact⟨rfl,‹_›⟩
theorem zR.wj{x u:Value}(h:zR w S G Z (.v x) u):u=x/\lit x=true:=by
 cases h with
 |c h=>exact h.wj
theorem zR.xp{u:Value}(h:zR w S G Z .nil u):u=.slice none 0 0:=by
 cases h with
 |c h=>cases h;rfl
theorem zR.ed{u:Value}(h:zR w S G Z .em u):∃a cap,u=.slice (some a) 0 cap/\cap<=maxLen:=by
 cases h with
 |c h=>cases h;exact⟨_,_,rfl,‹_›⟩
theorem zR.KG{s:Nat}{es:List zb}{u:Value}(h:zR w S G Z (.sl s es) u):qO w S (.sl s es) u:=by
 cases h with
 |c h=>exact h
theorem zR.W6{cs:zb}{u:Value}(h:zR w S G Z (.ptr cs) u):qO w S (.ptr cs) u:=by
 cases h with
 |c h=>exact h
theorem zR.ve{id off n:Nat}{u:Value}(h:zR w S G Z (.own id off n) u):∃cap,id<Z/\n<=cap/\cap<=maxLen/\(off+cap)*(G id).s=(G id).z/\u=.slice (some ⟨(G id).g,off*(G id).s,none⟩) n cap:=by
 cases h with
 |c h=>cases h
 |own a b d e _=>exact⟨_,a,b,d,e,rfl⟩
theorem zR.vI{id off n:Nat}{u:Value}(h:zR w S G Z (.own id off n) u):0<(G id).s:=by
 cases h with
 |c h=>cases h
 |own _ _ _ _ a=>exact a
theorem zR.jQ{id i j:Nat}{u:Value}(h:zR w S G Z (.ref id i j) u):id<Z/\u=.pointer (some ⟨(G id).g,i*(G id).s+j,none⟩):=by
 cases h with
 |c h=>cases h
 |ref a _=>exact⟨a,rfl⟩
theorem zR.xT{id i j:Nat}{u:Value}(h:zR w S G Z (.ref id i j) u):0<(G id).s:=by
 cases h with
 |c h=>cases h
 |ref _ a=>exact a
theorem zR.Ey{id:Nat}{u:Value}(h:zR w S G Z (.mp id) u):id<Z/\(G id).s=0/\u=.map (some (G id).g):=by
 cases h with
 |c h=>cases h
 |mp a b=>exact⟨a,b,rfl⟩
theorem zR.xU{cs:zb}{u:Value}(h:zR w S G Z (.agg cs) u):∃us:Array Value,u=.agg us/\cs.length=us.size/\∀(j:Nat) (d:O) (x:Value),cs[j]?=some d->us[j]?=some x->zR w S G Z d x:=by
 cases h with
 |c h=>cases h with
  |agg e f=>exact⟨_,rfl,e,fun j d x a b=>.c (f j d x a b)⟩
 |agg e f=>exact⟨_,rfl,e,f⟩
theorem zR.tn{cs:zb}{u:Value}(h:zR w S G Z (.qS cs) u):∃us:Array Value,u=.tuple us/\cs.length=us.size/\∀(j:Nat) (d:O) (x:Value),cs[j]?=some d->us[j]?=some x->zR w S G Z d x:=by
 cases h with
 |c h=>cases h with
  |qS e f=>exact⟨_,rfl,e,fun j d x a b=>.c (f j d x a b)⟩
 |qS e f=>exact⟨_,rfl,e,f⟩
theorem zR.iY{f:Fn}{xs ys:zb}{u:Value}(h:zR w S G Z (.fn f xs ys) u):∃us ts:Array Value,u=.func f us ts/\xs.length=us.size/\ys.length=ts.size /\
  (∀(j:Nat) (d:O) (x:Value),xs[j]?=some d->us[j]?=some x->zR w S G Z d x)/\∀(j:Nat) (d:O) (x:Value),ys[j]?=some d->ts[j]?=some x->zR w S G Z d x:=by
 cases h with
 |c h=>cases h with
  |fn e g i k=>exact⟨_,_,rfl,e,g,fun j d x a b=>.c (i j d x a b),fun j d x a b=>.c (k j d x a b)⟩
 |fn e g i k=>exact⟨_,_,rfl,e,g,i,k⟩
theorem jn:zR w S G Z (.qS []) undef:=.c (.qS rfl (by simp))
theorem bu{x:Value}{a:O}(h:VZ x=some a):qO w S a x/\x.oneCell'=true/\a.we=true:=by
 unfold VZ at h;split at h<;>first
  |(injection h with h;subst h;exact⟨.nil,rfl,rfl⟩)
  |(injection h with h;subst h;exact⟨.v rfl,rfl,rfl⟩)
  |cases h
theorem jz:∀{l:List Value} {r:zb},jE l=some r->r.length=l.length/\(∀(j:Nat) (a:O) (u:Value),r[j]?=some a->l[j]?=some u->qO w S a u/\u.oneCell'=true/\a.we=true)
 |[],r,h=>by simp[jE]at h;subst h;simp
 |x::l,r,h=>by
  simp only[jE]at h;split at h
  ·rename_i p q Y d;injection h with h
   subst h;obtain⟨e,f⟩:=jz d;refine⟨by simp[e],fun j a u b c=>?_⟩;cases j with
   |zero=>simp at b c;subst b;subst c;exact bu Y
   |succ j=>exact f j a u (by simpa using b) (by simpa using c)
  ·cases h
theorem XI{x:Value}{a:O}(h:aY x=some a):qO w S a x:=by
 unfold aY at h;split at h
 ·rename_i cs;cases b:jE cs.toList with
  |none=>simp[b]at h
  |some r=>simp[b]at h;subst h;obtain⟨c,d⟩:=jz (w:=w) (S:=S) b;exact .agg (by simpa using c) (fun j a u e f=>(d j a u e (by simpa using f)).1)
 ·exact(bu h).1
theorem Wf{X:Nat->O}{a:Act}(hs:∀t,zR w S G Z (X t) (a.tmps.getD t undef)){y:Operand}{b:O}(h:get X y=some b):zR w S G Z b (a.eval y):=by
 cases y with
 |tmp t=>simp[get]at h;subst h;exact hs t
 |const x=>exact .c (XI h)
 |global g=>simp[get]at h
 |func f=>simp[get]at h;subst h;exact .c (.fn rfl rfl (by simp) (by simp))
theorem V1{y:O}{u:Value}(h:zR w S G Z y u)(a:y.cells.all O.we=true):y.cells.length=u.cells.size/\∀(j:Nat) (d:O) (c:Value),y.cells[j]?=some d->u.cells[j]?=some c->zR w S G Z d c/\c.oneCell'=true:=by
 by_cases e:∃cs,y=.agg cs
 ·obtain⟨cs,rfl⟩:=e;obtain⟨us,rfl,k,l⟩:=h.xU;refine⟨k,fun j d c b f=>?_⟩;have g:=l j d c b f;refine⟨g,g.W5 ?_⟩;simp only[O.cells]at a b;exact qc.1 a d (zI b)
 ·have m:y.cells=[y]:=by cases y<;>first|rfl|exact(e ⟨_,rfl⟩).elim
  rw[m]at a⊢;have n:y.we=true:=by simpa using a
  have i:=h.W5 n;have f:u.cells=#[u]:=by cases u<;>first|rfl|simp[Value.oneCell']at i
  rw[f];refine⟨rfl,fun j d c b a=>?_⟩;cases j with
  |zero=>simp at b a;subst b;subst a;exact⟨h,i⟩
  |succ j=>simp at b
def xq(dr:Prop)(P:Program)(w:World)(Y:Hp)(Z:Nat)(S:Nat->Prop)(G:Nat->GI)(x:O)(Y':Hp)(Z':Nat)(r:Result Value):Prop:=
 ∃v a S' G',r=.ok v a/\jN dr P Y Z S G w Y' Z' S' G' a/\zR a S' G' Z' x v
theorem zW(a:Inv P w S G Y Z){x:O}{v:Value}{r:Result Value}(b:r=.ok v w)(c:zR w S G Z x v):xq dr P w Y Z S G x Y Z r:=⟨v,w,S,G,b,.refl a,c⟩
theorem gj{t:TypeId}{n:Nat}(h:qF P t=some n):∃i,P.info? t=some i/\i.size=n:=by
 unfold qF at h;cases a:P.info? t with
 |none=>simp[a]at h
 |some i=>exact⟨i,rfl,by simpa[a]using h⟩
theorem wH{t:TypeId}{n:Nat}(h:qF P t=some n)(w:World):(sizeOf t).run P w=.ok n w:=by obtain⟨i,a,rfl⟩:=gj h;simp[sizeOf,typeInfo,a]
theorem km{t:TypeId}{b:Bool}(h:yr P t=some b)(w:World):(isAgg t).run P w=.ok b w:=by
 unfold yr at h;cases a:P.underlying t with
 |none=>simp[a]at h
 |some d=>simp[a]at h;subst h;unfold isAgg;rw[jY,zy a w];cases d<;>rfl
theorem Wg{t:TypeId}{z:zb}(h:y9 P t=some z):∃i v,P.info? t=some i/\i.zero=some v/\jE v.cells.toList=some z:=by
 unfold y9 at h;cases a:P.info? t with
 |none=>simp[a]at h
 |some i=>
  cases b:i.zero with
  |none=>simp[a,b]at h
  |some v=>exact⟨i,v,rfl,b,by simpa[a,b]using h⟩
theorem xL{t:TypeId}{i:TypeInfo}{v:Value}(a:P.info? t=some i)(b:i.zero=some v)(w:World):(zeroValue t).run P w=.ok v w:=by simp[zeroValue,typeInfo,a,b]
theorem oE(a:Inv P w S G Y Z){t:TypeId}{n:Nat}{z:zb}(hs:qF P t=some n)(o:y9 P t=some z)(g:0<n)(e:z.length=n) :
  xq dr P w Y Z S G (.ref Z 0 0) (qb Y Z (some ⟨t,n,false,[z]⟩)) (Z+1) ((Instr.alloc t true (.tuple #[])).run P w):=by
 obtain⟨i,v,p,q,r⟩:=Wg o;obtain⟨s,u⟩:=jz (w:=w) (S:=S) r;have f:(P.info? t).map (·.size)=some n:=hs;have b:v.cells.size=n:=by rw[<-e,s];simp
 have k:=jN.alloc (dr:=dr) a v.cells t false [z] n g f (by simp[e]) (by simp[b]) (fun i j c x a l=>by
  cases i with
  |succ i=>simp at a
  |zero=>
   simp at a;subst a;have d:j<v.cells.size:=by rw[b,<-e];exact(ze.1 l).1
   refine⟨v.cells[j],by simp[d],?_⟩;have m:=u j x v.cells[j] l (by simp[d]);exact⟨fun h=>(by cases h),.c m.1,m.2.1⟩)
 refine⟨.pointer (some ⟨w.heap.size,0,none⟩),_,_,_,?_,k,?_⟩
 ·simp[Instr.alloc,xL p q,newVar,newRow]
 ·have:=zR.ref (w:=w.alloc (.cells v.cells t)) (S:=S) (G:=qb G Z ⟨w.heap.size,v.cells.size,n⟩) (Z:=Z+1) (id:=Z) (i:=0) (j:=0) (by omega) (by simpa using g);simpa using this
theorem A5(a:Inv P w S G Y Z){t:TypeId}{n:Nat}{y:O}{u:Value}(hs:qF P t=some n)(o:zR w S G Z y u)(e:0<n)(f:y.cells.length=n)(p:y.cells.all O.we=true) :
  xq dr P w Y Z S G (.ref Z 0 0) (qb Y Z (some ⟨t,n,false,[y.cells]⟩)) (Z+1) ((Instr.box t u).run P w):=by
 obtain⟨g,q⟩:=V1 o p;have d:u.cells.size=n:=by rw[<-g,f]
 have k:=jN.alloc (dr:=dr) a u.cells t false [y.cells] n e hs (by simp[f]) (by simp[d]) (fun i j c r a l=>by
  cases i with
  |succ i=>simp at a
  |zero=>
   simp at a;subst a;have b:j<u.cells.size:=by rw[<-g];exact(ze.1 l).1
   refine⟨u.cells[j],by simp[b],?_⟩;have m:=q j r u.cells[j] l (by simp[b]);exact⟨fun h=>(by cases h),m.1,m.2⟩)
 refine⟨.pointer (some ⟨w.heap.size,0,none⟩),_,_,_,?_,k,?_⟩
 ·simp[Instr.box,newVar,newRow]
 ·have:=zR.ref (w:=w.alloc (.cells u.cells t)) (S:=S) (G:=qb G Z ⟨w.heap.size,u.cells.size,n⟩) (Z:=Z+1) (id:=Z) (i:=0) (j:=0) (by omega) (by simpa using e);simpa using this
theorem Ji{t:TypeId}{cs:zb}{x:O}(h:qW P t cs=some x)(c:Addr)(us:Nat->Value)(e:∀(j:Nat) (d:O),cs[j]?=some d->w.cell? (c.add j)=some (us j)/\zR w S G Z d (us j)) :
  ∃v,(loadVar t c).run P w=.ok v w/\zR w S G Z x v:=by
 unfold qW at h;split at h
 ·rename_i n f hs;split at h
  ·rename_i i;injection h with h
   subst h;have k:(loadCells c n).run P w=.ok ((List.range n).map us).toArray w:=by
    have:=run_loadCells_list (P:=P) w c ((List.range n).map us) (fun j v a=>by
     have b:j<n:=by simpa using(ze.1 a).1
     have Y:=e j (cs[j]'(by omega)) (zm (by omega));rw[Y.1];rw[z8,xR b]at a;simpa using a)
    simpa using this
   refine⟨.agg ((List.range n).map us).toArray,?_,.agg ?_ ?_⟩
   ·simp[loadVar,km f,wH hs,k]
   ·simp;omega
   ·intro j d u a g;rw[wG]at a;split at a
    ·rename_i b;have:=(e j d a).2;simp[b]at g;rwa [<-g]
    ·cases a
  ·cases h
 ·rename_i n f hs;have:=e 0 x h;refine⟨us 0,?_,this.2⟩;have l:c.add 0=c:=rfl;rw[l]at this;simp[loadVar,km f,this.1]
 ·cases h
theorem eS(l:Inv P w S G Y Z){t:TypeId}{p x:O}{u:Value}(h:kx P Y t p=some x)(Y':zR w S G Z p u):xq dr P w Y Z S G x Y Z ((Instr.loadAt t u).run P w):=by
 unfold kx at h;split at h
 ·rename_i cs;cases Y'.W6 with
  |ptr us m r=>obtain⟨v,n,o⟩:=Ji (G:=G) (Z:=Z) (w:=w) (S:=S) h _ us (fun j f y=>⟨(m j f y).2,.c (r j f y)⟩);exact zW l (v:=v) (by simp[Instr.loadAt,Instr.sureAddr,n]) o
 ·rename_i id i j;have q:=Y'.xT;obtain⟨hid,rfl⟩:=Y'.jQ;split at h
  ·rename_i b A;split at h
   ·rename_i c B;obtain⟨a,m,r,C⟩:=(l.live id b A).row q;have d:∀k:Nat,w.cell? ((⟨(G id).g,i*(G id).s+j,none⟩:Addr).add k)=a[i*(G id).s+j+k]?:=by intro k;rw[JR,cell_of_row w _ _ a _ _ m]
    obtain⟨v,n,o⟩:=Ji (G:=G) (Z:=Z) (w:=w) (S:=S) h ⟨(G id).g,i*(G id).s+j,none⟩ (fun k=>(a[i*(G id).s+j+k]?).getD undef) (fun k f z=>by
     rw[wu]at z;obtain⟨u,D,E⟩:=C i (j+k) c f B z;rw[d];have e:i*(G id).s+j+k=i*(G id).s+(j+k):=by omega
     rw[e,D];exact⟨rfl,E.2.1⟩)
    exact zW l (v:=v) (by simp[Instr.loadAt,Instr.sureAddr,n]) o
   ·cases h
  ·cases h
 ·cases h
end
variable{dr:Prop}
section
variable{P:Program}{w:World}{S:Nat->Prop}{G:Nat->GI}{Y:Hp}{Z:Nat}
def Zip{α a:Type}(R:α->a->Prop)(xs:List α)(us:List a):Prop:=xs.length=us.length/\∀(j:Nat) (x:α) (u:a),xs[j]?=some x->us[j]?=some u->R x u
theorem Zip.nil{α a:Type}{R:α->a->Prop}:Zip R [] ([]:List a):=⟨rfl,by simp⟩
theorem Zip.cons{α a:Type}{R:α->a->Prop}{x:α}{u:a}{xs:List α}{us:List a}(h:R x u)(t:Zip R xs us):Zip R (x::xs) (u::us):=by
 refine⟨by simp[t.1],fun j y v b c=>?_⟩;cases j with
 |zero=>simp at b c;subst b;subst c;exact h
 |succ j=>exact t.2 j y v (by simpa using b) (by simpa using c)
theorem Zip.y8{α b:Type}{R:α->b->Prop}{x:α}{xs:List α}{us:List b}(h:Zip R (x::xs) us):∃u a,us=u::a/\R x u/\Zip R xs a:=by
 cases us with
 |nil=>have:=h.1;simp at this
 |cons u a=>refine⟨u,a,rfl,h.2 0 x u rfl rfl,by have:=h.1;simpa using this,fun j y v c d=>h.2 (j+1) y v (by simpa using c) (by simpa using d)⟩
theorem Zip.Wb{α a:Type}{R:α->a->Prop}{us:List a}(h:Zip R ([]:List α) us):us=[]:=yh h.1.symm
theorem Zip.imp{α c:Type}{R d:α->c->Prop}{xs:List α}{us:List c}(h:Zip R xs us)(e:∀x u,R x u->d x u):Zip d xs us:=⟨h.1,fun j x u a b=>e x u (h.2 j x u a b)⟩
theorem yH{h:Hp}{i k:Nat}{b:Blk}(a:qb h i none k=some b):h k=some b:=by
 unfold qb at a;split at a
 ·cases a
 ·exact a
theorem eT{x:O}{u:Value}(h:zR w S G Z x u)(hs:x.Zs=true):qO w S x u:=by
 cases x with
 |v y=>obtain⟨rfl,a⟩:=h.wj;exact .v a
 |nil=>rw[h.xp];exact .nil
 |em=>obtain⟨c,cap,rfl,b⟩:=h.ed;exact .em b
 |sl s es=>exact h.KG
 |ptr cs=>exact h.W6
 |_=>simp[O.Zs]at hs
theorem lB{x:O}{u:Value}(h:zR w S G Z x u)(hs:x.shut=true):qO w S x u:=by
 cases x with
 |agg cs=>obtain⟨us,rfl,d,e⟩:=h.xU;exact .agg d fun j c y a b=>eT (e j c y a b) (qc.1 hs c (zI a))
 |_=>exact eT h hs
theorem QP(l:Inv P w S G Y Z){x y:O}{Y1:Hp}{u:Value}(h:qh Y x=some (y,Y1))(d:zR w S G Z x u) :
  ∃S',jN dr P Y Z S G w Y1 Z S' G w/\qO w S' y u/\(x.yy=false->S'=S):=by
 have c:∀{m:O} {Y':Hp},some (x,Y)=some (m,Y')->qO w S x u->∃S',jN dr P Y Z S G w Y' Z S' G w/\qO w S' m u/\(x.yy=false->S'=S):=by
  intro m Y' e t;injection e with e
  injection e with z A;subst z;subst A;exact⟨S,.refl l,t,fun _=>rfl⟩
 unfold qh at h;split at h
 ·rename_i id off n;split at h
  ·rename_i b r;split at h
   ·rename_i g;injection h with h
    injection h with o p;subst o;subst p;obtain⟨cap,s,q,B,F,rfl⟩:=d.ve;exact⟨_,jN.kill l r,oD l r d.vI g.1 g.2 q B _ (fun k C=>.inl C) (.inr rfl),fun h=>by simp[O.yy]at h⟩
   ·cases h
  ·cases h
 ·obtain⟨rfl,D⟩:=d.wj;exact c h (.v D)
 ·have:=d.xp;subst this;exact c h .nil
 ·exact c h d.KG
 ·obtain⟨H,cap,rfl,E⟩:=d.ed;exact c h (.em E)
 ·exact c h d.W6
 ·rename_i f xs ys;split at h
  ·rename_i g;obtain⟨us,ts,rfl,o,p,s,q⟩:=d.iY;exact c h (.fn o p (fun j i y a b=>lB (s j i y a b) (qc.1 g.1 i (zI a))) (fun j i y a b=>lB (q j i y a b) (qc.1 g.2 i (zI a))))
  ·cases h
 ·cases h
theorem Qd{Y Y1:Hp}{x y:O}(h:qh Y x=some (y,Y1)):y.we=true:=by
 unfold qh at h;split at h<;>(try (split at h))<;>(try (split at h))<;>first
  |(injection h with h;injection h with a b;subst a;rfl)
  |cases h
theorem Qe:∀{xs ys:zb} {Y Y1:Hp} {S:Nat->Prop} {us:List Value} (_:Inv P w S G Y Z),qe Y xs=some (ys,Y1)->Zip (zR w S G Z) xs us ->
  ∃S',jN dr P Y Z S G w Y1 Z S' G w/\Zip (qO w S') ys us/\ys.all O.we=true/\(xs.any O.yy=false->S'=S)
 |[],ys,Y,Y1,S,us,a,h,c=>by
  simp only[qe]at h;injection h with h
  injection h with f g;subst f;subst g;rw[c.Wb];exact⟨S,.refl a,.nil,rfl,fun _=>rfl⟩
 |x::l,ys,Y,Y1,S,us,a,h,c=>by
  simp only[qe]at h;split at h
  ·rename_i y f i;split at h
   ·rename_i r g k;injection h with h
    injection h with m n;subst m;subst n;obtain⟨u,o,rfl,p,d⟩:=c.y8;obtain⟨q,b,s,n1⟩:=QP (dr:=dr) a i p;have t:=b.same a;obtain⟨v,j,z,A,B⟩:=Qe (S:=q) b.inv k (d.imp fun x u C=>C.mono t (zi _) (fun _ _=>rfl));refine⟨v,b.trans j,.cons (s.mono (j.same b.inv)) z,by simp[A,Qd i],fun e=>?_⟩;simp only[AK,Q8]at e;rw[B e.2,n1 e.1]
   ·cases h
  ·cases h
theorem jy(f:Inv P w S G Y Z){x y:O}{Y1:Hp}{u:Value}(h:zS Y x=some (y,Y1))(g:zR w S G Z x u) :
  ∃S',jN dr P Y Z S G w Y1 Z S' G w/\qO w S' y u/\y.cells.all O.we=true/\(x.noOwn=true->S'=S):=by
 unfold zS at h;split at h
 ·rename_i cs;split at h
  ·rename_i l Y2 i;injection h with h
   injection h with m n;subst m;subst n;obtain⟨us,rfl,o,p⟩:=g.xU;obtain⟨S',k,z,q,d⟩:=Qe (us:=us.toList) f i ⟨by simpa using o,fun j e x a b=>p j e x a (by simpa using b)⟩;exact⟨S',k,.agg (by have:=z.1;simpa using this) (fun j e x a b=>z.2 j e x a (by simpa using b)),q,fun h=>d (by simpa[O.noOwn]using h)⟩
  ·cases h
 ·obtain⟨S',k,c,d⟩:=QP f h g;refine⟨S',k,c,?_,fun r=>d ?_⟩
  ·have:=Qd h;cases y<;>simp_all[O.cells,O.we]
  ·cases x<;>simp_all[O.noOwn,O.yy]
theorem ym:∀{xs ys:zb} {Y Y1:Hp} {S:Nat->Prop} {us:List Value} (_:Inv P w S G Y Z),zt Y xs=some (ys,Y1)->Zip (zR w S G Z) xs us ->
  ∃S',jN dr P Y Z S G w Y1 Z S' G w/\Zip (qO w S') ys us/\(xs.all O.noOwn=true->S'=S)
 |[],ys,Y,Y1,S,us,a,h,c=>by
  simp only[zt]at h;injection h with h
  injection h with f g;subst f;subst g;rw[c.Wb];exact⟨S,.refl a,.nil,fun _=>rfl⟩
 |x::l,ys,Y,Y1,S,us,a,h,c=>by
  simp only[zt]at h;split at h
  ·rename_i y f j;split at h
   ·rename_i r g k;injection h with h
    injection h with m n;subst m;subst n;obtain⟨u,o,rfl,p,d⟩:=c.y8;obtain⟨q,b,s,_,n1⟩:=jy (dr:=dr) a j p;have t:=b.same a;obtain⟨v,i,z,A⟩:=ym (S:=q) b.inv k (d.imp fun x u B=>B.mono t (zi _) (fun _ _=>rfl));refine⟨v,b.trans i,.cons (s.mono (i.same b.inv)) z,fun e=>?_⟩;simp only[wC,zs]at e;rw[A e.2,n1 e.1]
   ·cases h
  ·cases h
theorem vZ(e:Inv P w S G Y Z){x y:O}{Y1:Hp}{u:Value}(h:freeze Y x=some (y,Y1))(f:zR w S G Z x u) :
  ∃S',jN dr P Y Z S G w Y1 Z S' G w/\qO w S' y u:=by
 unfold freeze at h;split at h
 ·rename_i cs;split at h
  ·rename_i l Y2 g;injection h with h
   injection h with i m;subst i;subst m;obtain⟨us,rfl,n,o⟩:=f.tn;obtain⟨S',k,z,_⟩:=ym (us:=us.toList) e g ⟨by simpa using n,fun j d x a b=>o j d x a (by simpa using b)⟩;exact⟨S',k,.qS (by have:=z.1;simpa using this) (fun j d x a b=>z.2 j d x a (by simpa using b))⟩
  ·cases h
 ·obtain⟨S',k,c,_⟩:=jy e h f;exact⟨S',k,c⟩
theorem Ze:∀(l cs:zb) (off:Nat),(wW cs off l).length=cs.length
 |[],cs,off=>rfl
 |x::l,cs,off=>by simp[wW,Ze l]
theorem Wh:∀(l cs:zb) (off k:Nat),off+l.length<=cs.length->(wW cs off l)[k]?=if off<=k/\k<off+l.length then l[k-off]? else cs[k]?
 |[],cs,off,k,_=>by simp[wW];omega
 |x::l,cs,off,k,h=>by
  simp only[zd]at h;have b:=Wh l (cs.set off x) (off+1) k (by simp;omega);simp only[wW];rw[b];by_cases a:off+1<=k/\k<off+1+l.length
  ·rw[zl a,zl ⟨by omega,by simp;omega⟩];obtain⟨d,rfl⟩:∃d,k=off+1+d:=⟨k-(off+1),by omega⟩;rw[show off+1+d-(off+1)=d from by omega,show off+1+d-off=d+1 from by omega];simp
  ·rw[zg a];by_cases c:k=off
   ·subst c;rw[zl ⟨by omega,by simp⟩,HD (by omega)];simp
   ·rw[zg (by simp;omega),ea (by omega)]
theorem xC{α:Type}(l vs:List α)(o k:Nat)(h:o+vs.length<=l.length):(l.take o++vs++l.drop (o+vs.length))[k]?=if o<=k/\k<o+vs.length then vs[k-o]? else l[k]?:=by
 have a:(l.take o).length=o:=by simp;omega
 rw[qt];by_cases b:k<o
 ·rw[zg (by omega),yi (by omega),wG,zl b]
 ·rw[qQ (by omega),a];by_cases c:k<o+vs.length
  ·rw[zl ⟨by omega,c⟩,yi (by omega)]
  ·rw[zg (by omega),qQ (by omega),wu];congr 1;omega
theorem xM{α:Type}(l vs:List α)(o:Nat)(h:o+vs.length<=l.length):(l.take o++vs++l.drop (o+vs.length)).length=l.length:=by simp;omega
theorem bw{s i j i':Nat}(c:j<s)(b:i'≠i)(a n:Nat)(d:a+n<=s):¬(i*s+a<=i'*s+j/\i'*s+j<i*s+a+n):=by
 rcases Nat.lt_or_gt_of_ne b with h|h
 ·have:(i'+1)*s<=i*s:=z6 s h;rw[w8]at this;omega
 ·have:(i+1)*s<=i'*s:=z6 s h;rw[w8]at this;omega
theorem v7{i j n s:Nat}(a:i<n)(b:j<s):i*s+j<n*s:=by have:(i+1)*s<=n*s:=z6 s a;rw[w8]at this;omega
theorem gk(J:Inv P w S G Y Z){id i j:Nat}{b:Blk}{c ys:zb}{vs:List Value}(K:Y id=some b)(d:0<(G id).s)(B:b.es[i]?=some c)(R:ys.length=vs.length)(T:j+ys.length<=c.length)
  (L:∀(k:Nat) (p:O) (u:Value),ys[k]?=some p->vs[k]?=some u->jP w S G Z b.arr p u) :
  ∃M,(storeCells ⟨(G id).g,i*(G id).s+j,none⟩ vs).run P w=.ok () M/\jN dr P Y Z S G w (qb Y id (some ⟨b.e,b.s,b.arr,b.es.set i (wW c j ys)⟩)) Z S G M:=by
 have l:=J.live id b K;obtain⟨n,U,W,N⟩:=l.row d;have C:c.length=(G id).s:=l.len d c (zI B);have q:i<b.es.length:=(ze.1 B).1;have m:i*(G id).s+j+vs.length<=n.size:=by have:(i+1)*(G id).s<=b.es.length*(G id).s:=z6 _ q;have:=l.fit d;rw[w8]at *;omega
 have D:∀v∈vs,v.oneCell'=true:=by
  intro v hv;obtain⟨k,r⟩:=List.getElem?_of_mem hv;have E:k<ys.length:=by rw[R];exact(ze.1 r).1
  exact(L k ys[k] v (zm E) r).2.2
 have t:=run_storeCells_at P (G id).g (i*(G id).s+j) b.e vs 0 n w U (by simpa using m) D;simp only[xm]at t;have x:i*(G id).s+j+vs.length<=n.toList.length:=by simpa using m
 refine⟨_,t,jN.set J K d _ _ ?_ ?_ ?_ ?_⟩
 ·rw[List.size_toArray,xM _ _ _ x];simpa using W
 ·intro A F;rcases rX F with h|h
  ·exact l.len d A h
  ·subst h;rw[Ze];exact C
 ·simpa using l.fit d
 ·intro i' j' A p a f;have Q:i'<b.es.length:=by have:=(ze.1 a).1;simpa using this
  rw[List.getElem?_toArray,xC _ _ _ _ x];by_cases o:i'=i
  ·subst o;rw[HD q]at a;injection a with a
   subst a;rw[Wh _ _ _ _ T]at f;by_cases y:j<=j'/\j'<j+ys.length
   ·rw[zl y]at f;rw[zl ⟨by omega,by omega⟩];have r:j'-j<vs.length:=by omega
    refine⟨vs[j'-j],?_,L (j'-j) p _ f (zm r)⟩;rw[show i'*(G id).s+j'-(i'*(G id).s+j)=j'-j from by omega];exact zm r
   ·rw[zg y]at f;rw[zg (by omega)];obtain⟨u,H,I⟩:=N i' j' c p B f;exact⟨u,by simpa using H,I⟩
  ·rw[ea (fun e=>o e.symm)]at a;have z:j'<(G id).s:=by rw[<-l.len d A (zI a)];exact(ze.1 f).1
   rw[zg (bw z o j vs.length (by omega))];obtain⟨u,H,I⟩:=N i' j' A p a f;exact⟨u,by simpa using H,I⟩
theorem bz(hi:Inv P w S G Y Z){t:TypeId}{a x:O}{Y':Hp}{u v:Value}(h:kG P Y t a x=some Y')(ha:zR w S G Z a u)(hx:zR w S G Z x v) :
  ∃z S' G',(Instr.storeAt t u v).run P w=.ok () z/\jN dr P Y Z S G w Y' Z S' G' z:=by
 unfold kG at h;split at h
 ·rename_i id i j;have N:=ha.xT;obtain⟨hid,rfl⟩:=ha.jQ;split at h
  ·rename_i Q F;have H:∀(y:O) (Y1:Hp) (A:Nat->Prop),jN dr P Y Z S G w Y1 Z A G w->zR w A G Z y v->(Q.arr=true->qO w A y v)->(∀b,Y1 id=some b->b.arr=Q.arr) ->
     (match Y1 id,qF P t with
      |some b,some n=>match b.es[i]? with
       |some c=>if y.cells.length=n/\j+n<=c.length/\y.cells.all O.we=true then some (qb Y1 id (some ⟨b.e,b.s,b.arr,b.es.set i (wW c j y.cells)⟩))else none
       |none=>none
      |_,_=>none)=some Y'->∃z S' G',(Instr.storeAt t (.pointer (some ⟨(G id).g,i*(G id).s+j,none⟩)) v).run P w=.ok () z/\jN dr P Y Z S G w Y' Z S' G' z:=by
    intro y Y1 A L hy R T h;split at h
    ·rename_i b n f hn;split at h
     ·rename_i c M;split at h
      ·rename_i B;obtain⟨U,W,e3⟩:=B;injection h with h
       subst h;obtain⟨hl,hr⟩:=V1 hy e3;have hsz:v.cells.size=n:=by rw[<-hl,U]
       obtain⟨z,AW,k2⟩:=gk (P:=P) L.inv (ys:=y.cells) (vs:=v.cells.toList) (j:=j) f N M (by simpa using hl) (by rw[U];exact W) (fun k pv u E hu=>by
        have m:v.cells[k]?=some u:=by simpa using hu
        have h6:=hr k pv u E m;refine⟨fun I=>?_,h6.1,h6.2⟩;rw[T b f]at I;have C:=R I;by_cases J:∃cs,y=.agg cs
        ·obtain⟨cs,rfl⟩:=J;cases C with
         |agg g1 g2=>exact g2 k pv u E m
        ·have K:y.cells=[y]:=by cases y<;>first|rfl|exact(J ⟨_,rfl⟩).elim
         have ho:=C.W5 (by rw[K]at e3;simpa using e3);have hv1:v.cells=#[v]:=by cases v<;>first|rfl|simp[Value.oneCell']at ho
         rw[K]at E;rw[hv1]at m;cases k with
         |zero=>simp at E m;subst E;subst m;exact C
         |succ k=>simp at E)
       refine⟨z,A,G,?_,L.trans k2⟩;simp[Instr.storeAt,Instr.sureAddr,storeVar,wH hn,hsz,AW]
      ·cases h
     ·cases h
    ·cases h
   by_cases o:Q.arr=true
   ·simp only[o,qa]at h;split at h
    ·rename_i y Y1 d;obtain⟨A,L,M,_,_⟩:=jy hi d hx;refine H y Y1 A L (.c M) (fun _=>M) (fun b f=>?_) h;have:∀b,Y1 id=some b->Y id=some b:=fun b f=>by
      have p:∀{x y:O} {h q:Hp} (_:qh h x=some (y,q)) (k:Nat) (b:Blk),q k=some b->h k=some b:=by
       intro x y h q d k b f;unfold qh at d;split at d<;>(try (split at d))<;>(try (split at d))<;>first
        |(injection d with d;injection d with U W;subst W
          first
           |exact f
           |exact yH f)
        |cases d
      have D:∀(xs ys:zb) (h q:Hp) (_:qe h xs=some (ys,q)) (k:Nat) (b:Blk),q k=some b->h k=some b:=by
       intro xs
       induction xs with
       |nil=>intro ys h q d k b f;simp only[qe]at d;injection d with d;injection d with _ e;subst e;exact f
       |cons x l ih=>
        intro ys h q d k b f;simp only[qe]at d;split at d
        ·rename_i y h1 hc1;split at d
         ·rename_i r h2 hr;injection d with d
          injection d with _ e;subst e;exact p hc1 k b (ih _ _ _ hr k b f)
         ·cases d
        ·cases d
      unfold zS at d;split at d
      ·split at d
       ·rename_i l h2 Ez;injection d with d
        injection d with _ e;subst e;exact D _ _ _ _ Ez id b f
       ·cases d
      ·exact p d id b f
     have:=this b f;rw[F]at this;injection this with this
     rw[this]
    ·cases h
   ·simp only[o]at h;exact H x Y S (.refl hi) hx (fun h=>(o h).elim) (fun b f=>by rw[F]at f;injection f with f;rw[f]) h
  ·cases h
 ·cases h
end
variable{dr:Prop}
section
variable{P:Program}{w:World}{S:Nat->Prop}{G:Nat->GI}{Y:Hp}{Z:Nat}
theorem Yr{t:TypeId}{f o n:Nat}{b:Bool}(h:qX P t f=some (o,n,b)):∃(a:Array Field) (x:Field),P.underlying t=some (.struct a)/\a[f]?=some x/\x.offset=o/\qF P x.type=some n/\yr P x.type=some b:=by
 unfold qX at h;split at h
 ·rename_i a c;split at h
  ·rename_i x d;split at h
   ·rename_i l m e g;injection h with h
    injection h with i h;injection h with j k;subst i;subst j;subst k;exact⟨a,x,c,d,rfl,e,g⟩
   ·cases h
  ·cases h
 ·cases h
theorem bA(q:Inv P w S G Y Z){t:TypeId}{f:Nat}{p x:O}{u:Value}(h:ye P t f p=some x)(Y':zR w S G Z p u):xq dr P w Y Z S G x Y Z ((Instr.fieldAt t u f).run P w):=by
 have a:∀{o n:Nat} {g:Bool} {k:Addr},qX P t f=some (o,n,g)->n≠0->(Instr.fieldAt t (.pointer (some k)) f).run P w=.ok (.pointer (some (k.add o))) w:=by intro o n g k b d;obtain⟨z,x,r,s,rfl,hs,_⟩:=Yr b;simp[Instr.fieldAt,zy r,s,Instr.sureAddr,fieldPlace,wH hs,d]
 unfold ye at h;split at h
 ·rename_i cs;split at h
  ·rename_i o n g b;split at h
   ·cases h
   ·rename_i d;injection h with h
    subst h;cases Y'.W6 with
    |ptr us v y=>
     refine zW q (a b d) (.c (.ptr (fun j=>us (o+j)) (fun j l e=>?_) (fun j l e=>?_)))
     ·rw[wu]at e;rw[xy,KL];exact v _ l e
     ·rw[wu]at e;exact y _ l e
  ·cases h
 ·rename_i id i j;have m:=Y'.xT;obtain⟨hid,rfl⟩:=Y'.jQ;split at h
  ·rename_i o n g b;split at h
   ·cases h
   ·rename_i d;injection h with h
    subst h;refine zW q (a b d) ?_;rw[JR,zaU];exact .ref hid m
  ·cases h
 ·cases h
theorem oF(l:Inv P w S G Y Z){t:TypeId}{f:Nat}{p x:O}{u:Value}(h:kl P t f p=some x)(Y':zR w S G Z p u):xq dr P w Y Z S G x Y Z ((Instr.field t u f).run P w):=by
 unfold kl at h;split at h
 ·rename_i cs;obtain⟨us,rfl,q,m⟩:=Y'.xU;split at h
  ·rename_i o n d;split at h
   ·rename_i r;injection h with h
    subst h;obtain⟨s,x,e,g,rfl,hs,i⟩:=Yr d;refine zW (v:=.agg (us.extract x.offset (x.offset+n))) l ?_ (.agg ?_ ?_)
    ·simp[Instr.field,zy e,g,asAgg,part,km i,wH hs]
    ·simp;omega
    ·intro j z v a c;rw[wG]at a;split at a
     ·rw[wu]at a;rw[Array.getElem?_extract]at c;split at c
      ·exact m _ z v a c
      ·cases c
     ·cases a
   ·cases h
  ·rename_i o n d;obtain⟨s,y,e,g,rfl,hs,i⟩:=Yr d;have k:y.offset<us.size:=by rw[<-q];exact(ze.1 h).1
   have b:us[y.offset]?=some us[y.offset]:=by simp[k]
   refine zW (v:=us[y.offset]) l ?_ (m _ x _ h b);simp[Instr.field,zy e,g,asAgg,part,km i,b]
  ·cases h
 ·cases h
theorem kn{t e:TypeId}(h:w5 P t=some e):P.underlying t=some (.slice e):=by
 unfold w5 at h;split at h
 ·injection h with h;subst h;assumption
 ·cases h
theorem A6{t:TypeId}{m:Nat}{e:TypeId}(h:lz P t=some (m,e)):P.underlying t=some (.array m e):=by
 unfold lz at h;split at h
 ·injection h with h;injection h with a b;subst a;subst b;assumption
 ·cases h
theorem ef(r:Inv P w S G Y Z){t:TypeId}{p x:O}{u:Value}{k:IntKind}{i:Int}(h:kW P t i p=some x)(Y':zR w S G Z p u):xq dr P w Y Z S G x Y Z ((Instr.indexAt t u (.int k i)).run P w):=by
 unfold kW at h;split at h
 ·rename_i m e A;have y:=A6 A;split at h
  ·rename_i n z;split at h
   ·rename_i B;obtain⟨d,f⟩:=B;split at h
    ·rename_i cs;injection h with h
     subst h;cases Y'.W6 with
     |ptr us C D=>
      rename_i E;refine zW (v:=.pointer (some (E.add (i.toNat*n)))) r ?_ (.c (.ptr (fun j=>us (i.toNat*n+j)) (fun j o l=>?_) (fun j o l=>?_)))
      ·simp[Instr.indexAt,zy y,asIntOf,d,f,Instr.sureAddr,wH z]
      ·rw[wu]at l;rw[xy,KL];exact C _ o l
      ·rw[wu]at l;exact D _ o l
    ·rename_i id a b;injection h with h
     subst h;have q:=Y'.xT;obtain⟨hid,rfl⟩:=Y'.jQ;refine zW (v:=.pointer (some ((⟨(G id).g,a*(G id).s+b,none⟩:Addr).add (i.toNat*n)))) r ?_ ?_
     ·simp[Instr.indexAt,zy y,asIntOf,d,f,Instr.sureAddr,wH z]
     ·rw[JR,zaU];exact .ref hid q
    ·cases h
   ·cases h
  ·cases h
 ·cases h
theorem bB(r:Inv P w S G Y Z){t:TypeId}{p q x:O}{u v:Value}(h:qi P Y t p q=some x)(Y':zR w S G Z p u)(M:zR w S G Z q v):xq dr P w Y Z S G x Y Z ((Instr.indexAt t u v).run P w):=by
 unfold qi at h;split at h
 ·rename_i k i;obtain⟨rfl,_⟩:=M.wj;split at h
  ·rename_i e N;have J:=kn N;split at h
   ·rename_i n s es hs;split at h
    ·rename_i y;obtain⟨rfl,Q,d⟩:=y;cases a:es[i.toNat]? with
     |none=>simp[a]at h
     |some c=>
      simp[a]at h;subst h;cases Y'.KG with
      |sl us h0 h1 h2 z B K=>
       rename_i A cap;have R:=z c (zI a);have T:i.toNat<es.length:=(ze.1 a).1;have C:c[0]?=some (c[0]'(by omega)):=zm (by omega);obtain⟨U,rfl,hS,_⟩:=B i.toNat 0 c _ a C;have f:i<es.length:=by omega
       refine zW (v:=.pointer (some (U.add (i.toNat*s)))) r ?_ (.c (.ptr (fun j=>us i.toNat j) (fun j D E=>?_) (fun j D E=>K i.toNat j c D a E)))
       ·simp[Instr.indexAt,zy J,asIntOf,d,f,wH hs]
       ·obtain⟨W,F,L,H,_⟩:=B i.toNat j c D a E;injection F with F;subst F;rw[xy,KL];exact⟨L,H⟩
    ·cases h
   ·rename_i n id off m hs;split at h
    ·rename_i b hb;split at h
     ·rename_i y;obtain⟨rfl,hn0,d,UJ⟩:=y;injection h with h
      subst h;have l:=Y'.vI;obtain⟨cap,z,B,K,L,rfl⟩:=Y'.ve;have I:(G id).s=n:=by
       have:=(r.live id b hb).size l;have H:(P.info? b.e).map (·.size)=some n:=hs;rw[H]at this;injection this with this
       exact this.symm
      have o:i<m:=by omega
      refine zW (v:=.pointer (some ((⟨(G id).g,off*(G id).s,none⟩:Addr).add (i.toNat*n)))) r ?_ ?_
      ·simp[Instr.indexAt,zy J,asIntOf,d,o,wH hs]
      ·rw[JR,<-I,<-w8];have:=zR.ref (w:=w) (S:=S) (G:=G) (Z:=Z) (id:=id) (i:=off+i.toNat) (j:=0) z l;simpa using this
     ·cases h
    ·cases h
   ·cases h
  ·exact ef r h Y'
 ·cases h
theorem oG(a:Inv P w S G Y Z){t:TypeId}{p q x:O}{u v:Value}(h:xA P t p q=some x)(Y':zR w S G Z p u)(d:zR w S G Z q v):xq dr P w Y Z S G x Y Z ((Instr.index t u v).run P w):=by
 unfold xA at h;split at h
 ·rename_i s k i;obtain⟨rfl,_⟩:=d.wj;obtain⟨rfl,_⟩:=Y'.wj;split at h
  ·rename_i e;split at h
   ·rename_i f;split at h
    ·rename_i b g;injection h with h
     subst h;refine zW (v:=.int .u8 b.toNat) a ?_ (.c (.v rfl));simp[Instr.index,zy e,asIntOf,f,g]
    ·cases h
   ·cases h
  ·cases h
 ·cases h
theorem gn(c:Inv P w S G Y Z){vs:zb}{x:O}{i:Nat}{u:Value}(h:vs[i]?=some x)(Y':zR w S G Z (.qS vs) u):xq dr P w Y Z S G x Y Z ((Instr.extract u i).run P w):=by
 obtain⟨us,rfl,d,e⟩:=Y'.tn;have b:i<us.size:=by rw[<-d];exact(ze.1 h).1
 have a:us[i]?=some us[i]:=by simp[b]
 exact zW (v:=us[i]) c (by simp[Instr.extract,a]) (e i x _ h a)
theorem ky(x:Value)(h:lit x=true):zR w S G Z (.v x) x:=.c (.v h)
theorem A7{op:BinOp}{k:IntKind}{a b:Int}{x:O}(h:ak op k a b=some x)(t:TypeId)(w:World):∃v,x=.v v/\lit v=true/\(binOp op t (.int k a) (.int k b)).run P w=.ok v w:=by
 unfold ak at h;split at h<;>(try (split at h))<;>first
  |(injection h with h;subst h;exact⟨_,rfl,rfl,by simp[binOp,Op.intArith,Op.intDiv,Op.intCmp,Op.intBits,Op.shift, *]⟩)
  |cases h
theorem A8{op:BinOp}{a b:ByteArray}{x:O}(h:A0 op a b=some x)(t:TypeId)(w:World):∃v,x=.v v/\lit v=true/\(binOp op t (.string a) (.string b)).run P w=.ok v w:=by
 have d:IntKind.i64.max=9223372036854775807:=by decide
 unfold A0 at h;split at h
 ·split at h
  ·rename_i c;injection h with h
   subst h;refine⟨_,rfl,rfl,?_⟩;have e:(a.size:Int)+(b.size:Int)<=9223372036854775807:=by simp only[maxLen]at c;omega
   simp[binOp,Op.stringOp,e]
  ·cases h
 all_goals first
  |(injection h with h;subst h;exact⟨_,rfl,rfl,by simp[binOp,Op.stringOp]⟩)
  |cases h
theorem Qf{op:BinOp}{t:TypeId}{x y:Operand}{a b:Value}(h:lit a=true)(c:a≠.nilIface)(w:World):(eqGuard op t x y a b).run P w=.ok () w:=by unfold eqGuard;cases op<;>simp<;>(cases a<;>cases b<;>simp_all[lit])
theorem sf{t:TypeId}{k:Nat}(h:tx P t=some k):yr P t=some false:=by
 unfold tx at h;unfold yr;split at h<;>first
  |(rename_i a;rw[a];rfl)
  |cases h
theorem KP(w:World)(d:Nat)(B C:Array Value):∀(D:List Field) (k:Nat) (N:List Nat) (E F:zb) (r:Bool),eP P k D=some N->wo N E F=some r ->
  (∀(j:Nat) (t:O),E[j]?=some t->∃u,B[k+j]?=some u/\zR w S G Z t u)->(∀(j:Nat) (t:O),F[j]?=some t->∃u,C[k+j]?=some u/\zR w S G Z t u) ->
  (Op.eqFields (d+1) B C D).run P w=.ok r w
 |[],k,N,E,F,r,g,e,_,_=>by
  simp only[eP]at g;injection g with g
  subst g;simp only[wo]at e;injection e with e
  subst e;simp[Op.eqFields]
 |f::D,k,N,E,F,r,g,e,U,W=>by
  simp only[eP]at g;split at g
  ·rename_i z;split at g
   ·rename_i tg i H h2;injection g with g
    subst g;have A:∀(p q:O) (x y:zb) (b s:Bool),E=p::x->F=q::y->(∀u v,zR w S G Z p u->zR w S G Z q v->(Op.equalIn (d+1) f.type u v).run P w=.ok b w)->wo i x y=some s->r=(b&&s) ->
      (Op.eqFields (d+1) B C (f::D)).run P w=.ok r w:=by
     intro p q x y b s h e2 h3 h4 h5;subst h;subst e2;subst h5;obtain⟨u,I,Q⟩:=U 0 p rfl;obtain⟨v,J,R⟩:=W 0 q rfl;simp only[xm]at I J;have ha:=sf H;have Y1:(part f.type B f.offset).run P w=.ok u w:=by simp[part,km ha,z.1,I]
     have Y2:(part f.type C f.offset).run P w=.ok v w:=by simp[part,km ha,z.1,J]
     have ih:=KP w d B C D (k+1) i x y s h2 h4 (fun j t T=>by have:=U (j+1) t (by simpa using T);rwa [show k+(j+1)=k+1+j from by omega]at this) (fun j t T=>by have:=W (j+1) t (by simpa using T);rwa [show k+(j+1)=k+1+j from by omega]at this);cases b<;>simp[Op.eqFields,z.2,Y1,Y2,h3 u v Q R,ih]
    unfold wo at e;unfold tx at H;split at e
    ·simp_all
    ·rename_i K kk a l kk' b m h;injection h with h n
     subst h;subst n;split at e
     ·rename_i hk;subst hk;cases c:wo i l m with
      |none=>simp[c]at e
      |some s=>
       simp[c]at e;refine A _ _ _ _ (a==b) s rfl rfl (fun u v L M=>?_) c e.symm;obtain⟨rfl,_⟩:=L.wj;obtain⟨rfl,_⟩:=M.wj;split at H<;>first
        |(rename_i o;simp[Op.equalIn,zy o];done)
        |simp_all
     ·cases e
    ·rename_i K a l b m h;injection h with h n
     subst h;subst n;cases c:wo i l m with
     |none=>simp[c]at e
     |some s=>
      simp[c]at e;refine A _ _ _ _ (a==b) s rfl rfl (fun u v L M=>?_) c e.symm;obtain⟨rfl,_⟩:=L.wj;obtain⟨rfl,_⟩:=M.wj;split at H<;>first
       |(rename_i o;simp[Op.equalIn,zy o];done)
       |simp_all
    ·rename_i K a l b m h;injection h with h n
     subst h;subst n;cases c:wo i l m with
     |none=>simp[c]at e
     |some s=>
      simp[c]at e;refine A _ _ _ _ (a==b) s rfl rfl (fun u v L M=>?_) c e.symm;obtain⟨rfl,_⟩:=L.wj;obtain⟨rfl,_⟩:=M.wj;split at H<;>first
       |(rename_i o;simp[Op.equalIn,zy o];done)
       |simp_all
    ·cases e
   ·cases g
  ·cases g
def U1:Nat->O->O->Option Bool
 | 0,.v (.int k a),.v (.int c b)=>if k=c then some (a==b)else none
 | 1,.v (.bool a),.v (.bool b)=>some (a==b)
 | 2,.v (.string a),.v (.string b)=>some (a==b)
 |_,_,_=>none
theorem Wi(k:Nat)(a:List Nat)(b:zb):wo (k::a) [] b=none:=by unfold wo;split<;>first|rfl|simp_all
theorem Wj(k:Nat)(a:List Nat)(b:zb):wo (k::a) b []=none:=by unfold wo;split<;>first|rfl|simp_all
theorem Zv(k:Nat)(c:List Nat)(p q:O)(d e:zb):wo (k::c) (p::d) (q::e)=(U1 k p q).bind fun b=>(wo c d e).map (b&&·):=by
 match k with
 | 0=>
  cases p with
  |v x=>cases x with
   |int w a=>cases q with
    |v y=>cases y with
     |int f b=>simp only[wo,U1];split<;>rfl
     |_=>rfl
    |_=>rfl
   |_=>rfl
  |_=>rfl
 | 1=>
  cases p with
  |v x=>cases x with
   |bool a=>cases q with
    |v y=>cases y<;>rfl
    |_=>rfl
   |_=>rfl
  |_=>rfl
 | 2=>
  cases p with
  |v x=>cases x with
   |string a=>cases q with
    |v y=>cases y<;>rfl
    |_=>rfl
   |_=>rfl
  |_=>rfl
 |k+3=>rfl
theorem Ys:∀(a c:List Nat) (d e:zb) (r:Bool),wo (a++c) d e=some r->∃f g,wo a d e=some f/\wo c (d.drop a.length) (e.drop a.length)=some g/\r=(f&&g)
 |[],c,d,e,r,h=>⟨true,r,rfl,h,rfl⟩
 |k::a,c,[],e,r,h=>by rw[qg,Wi]at h;cases h
 |k::a,c,p::d,[],r,h=>by rw[qg,Wj]at h;cases h
 |k::a,c,p::d,q::e,r,h=>by
  rw[qg,Zv]at h;cases i:U1 k p q with
  |none=>rw[i]at h;cases h
  |some b=>rw[i,zH]at h;obtain⟨j,l,rfl⟩:=VT.1 h;obtain⟨f,g,m,n,rfl⟩:=Ys a c d e j l;exact⟨b&&f,g,by rw[Zv,i,zH,m];rfl,n,by rw[Bool.and_assoc]⟩
theorem KQ:∀(a:List Nat) (b c:zb),wo a (b.take a.length) (c.take a.length)=wo a b c
 |[],b,c=>by simp only[wo]
 |k::a,[],c=>by rw[List.take_nil,Wi,Wi]
 |k::a,p::b,[]=>by rw[List.take_nil,Wj,Wj]
 |k::a,p::b,q::c=>by rw[zd,xS,xS,Zv,Zv,KQ a b c]
theorem A9{t:TypeId}{b:List Nat}(h:I9 P t=some b):∃a,P.underlying t=some (.struct a)/\eP P 0 a.toList=some b/\P.stoodInHeld t=false/\qF P t=some b.length:=by
 unfold I9 at h;split at h
 ·cases h
 ·rename_i g;split at h
  ·rename_i a c;split at h
   ·rename_i d e;split at h
    ·rename_i f;injection h with h
     subst h;exact⟨a,c,e,by cases i:P.stoodInHeld t<;>simp_all,f⟩
    ·cases h
   ·cases h
  ·cases h
theorem Qz(w:World)(d:Nat)(s t:Array Value):∀(Q:List Field) (k:Nat) (ks:List Nat) (I J:zb) (r:Bool),eQ P k Q=some ks->wo ks I J=some r ->
  (∀(j:Nat) (c:O),I[j]?=some c->∃u,s[k+j]?=some u/\zR w S G Z c u)->(∀(j:Nat) (c:O),J[j]?=some c->∃u,t[k+j]?=some u/\zR w S G Z c u) ->
  (Op.eqFields (d+2) s t Q).run P w=.ok r w
 |[],k,ks,I,J,r,g,h,_,_=>by
  simp only[eQ]at g;injection g with g
  subst g;simp only[wo]at h;injection h with h
  subst h;simp[Op.eqFields]
 |f::Q,k,ks,I,J,r,g,h,hx,hy=>by
  simp only[eQ]at g;split at g
  ·rename_i o;split at g
   ·rename_i tg R;split at g
    case h_2=>cases g
    rename_i l h2;injection g with g
    subst g;have K:∀(p q:O) (E F:zb) (b C:Bool),I=p::E->J=q::F->(∀u v,zR w S G Z p u->zR w S G Z q v->(Op.equalIn (d+2) f.type u v).run P w=.ok b w)->wo l E F=some C->r=(b&&C) ->
      (Op.eqFields (d+2) s t (f::Q)).run P w=.ok r w:=by
     intro p q E F b C i e2 h3 h4 h5;subst i;subst e2;subst h5;obtain⟨u,m,x⟩:=hx 0 p rfl;obtain⟨v,T,hv2⟩:=hy 0 q rfl;simp only[xm]at m T;have ha:=sf R;have Y1:(part f.type s f.offset).run P w=.ok u w:=by simp[part,km ha,o.1,m]
     have Y2:(part f.type t f.offset).run P w=.ok v w:=by simp[part,km ha,o.1,T]
     have ih:=Qz w d s t Q (k+1) l E F C h2 h4 (fun j c D=>by have:=hx (j+1) c (by simpa using D);rwa [show k+(j+1)=k+1+j from by omega]at this) (fun j c D=>by have:=hy (j+1) c (by simpa using D);rwa [show k+(j+1)=k+1+j from by omega]at this);cases b<;>simp[Op.eqFields,o.2,Y1,Y2,h3 u v x hv2,ih]
    unfold wo at h;unfold tx at R;split at h
    ·simp_all
    ·rename_i U kk a y kk' b z i;injection i with i A
     subst i;subst A;split at h
     ·rename_i hk;subst hk;cases e:wo l y z with
      |none=>simp[e]at h
      |some C=>
       simp[e]at h;refine K _ _ _ _ (a==b) C rfl rfl (fun u v W hv=>?_) e h.symm;obtain⟨rfl,_⟩:=W.wj;obtain⟨rfl,_⟩:=hv.wj;split at R<;>first
        |(rename_i B;simp[Op.equalIn,zy B];done)
        |simp_all
     ·cases h
    ·rename_i U a y b z i;injection i with i A
     subst i;subst A;cases e:wo l y z with
     |none=>simp[e]at h
     |some C=>
      simp[e]at h;refine K _ _ _ _ (a==b) C rfl rfl (fun u v W hv=>?_) e h.symm;obtain⟨rfl,_⟩:=W.wj;obtain⟨rfl,_⟩:=hv.wj;split at R<;>first
       |(rename_i B;simp[Op.equalIn,zy B];done)
       |simp_all
    ·rename_i U a y b z i;injection i with i A
     subst i;subst A;cases e:wo l y z with
     |none=>simp[e]at h
     |some C=>
      simp[e]at h;refine K _ _ _ _ (a==b) C rfl rfl (fun u v W hv=>?_) e h.symm;obtain⟨rfl,_⟩:=W.wj;obtain⟨rfl,_⟩:=hv.wj;split at R<;>first
       |(rename_i B;simp[Op.equalIn,zy B];done)
       |simp_all
    ·cases h
   ·split at g
    case h_2=>cases g
    rename_i n hs1;split at g
    case h_2=>cases g
    rename_i l h2;injection g with g
    subst g;obtain⟨r1,r2,i,e2,rfl⟩:=Ys _ _ _ _ _ h;rw[<-KQ]at i;obtain⟨gs,L,hgt,OW,hgn⟩:=A9 hs1;have H:yr P f.type=some true:=by unfold yr;rw[L];rfl
    have hfo:P.fieldsOf f.type=gs:=by simp[Program.fieldsOf,L]
    have Y1:(part f.type s f.offset).run P w=.ok (.agg (s.extract k (k+n.length))) w:=by simp[part,km H,o.1,wH hgn]
    have Y2:(part f.type t f.offset).run P w=.ok (.agg (t.extract k (k+n.length))) w:=by simp[part,km H,o.1,wH hgn]
    have hin:∀(M:zb) (N:Array Value),(∀(j:Nat) (c:O),M[j]?=some c->∃u,N[k+j]?=some u/\zR w S G Z c u)->∀(j:Nat) (c:O),(M.take n.length)[j]?=some c->∃u,(N.extract k (k+n.length))[0+j]?=some u/\zR w S G Z c u:=by
     intro M N hz j c D;have UK:j<n.length:=by have:=(ze.1 D).1;rw[Eu]at this;omega
     rw[List.getElem?_take_of_lt UK]at D;obtain⟨u,m,x⟩:=hz j c D;refine⟨u,?_,x⟩;rw[zo,Array.getElem?_extract];have hlt:=(qd.1 m).1;rw[zl (by omega)];exact m
    have hrun:(Op.equalIn (d+2) f.type (.agg (s.extract k (k+n.length))) (.agg (t.extract k (k+n.length)))).run P w=.ok r1 w:=by rw[run_equalIn_struct w (d+1) f.type _ _ (by rw[hfo];exact L) OW,hfo];exact KP w d _ _ gs.toList 0 n _ _ r1 hgt i (hin I s hx) (hin J t hy)
    have AX:∀(M:zb) (N:Array Value),(∀(j:Nat) (c:O),M[j]?=some c->∃u,N[k+j]?=some u/\zR w S G Z c u)->∀(j:Nat) (c:O),(M.drop n.length)[j]?=some c->∃u,N[k+n.length+j]?=some u/\zR w S G Z c u:=by intro M N hz j c D;rw[wu]at D;obtain⟨u,m,x⟩:=hz (n.length+j) c D;exact⟨u,by rwa [show k+(n.length+j)=k+n.length+j by omega]at m,x⟩
    have ih:=Qz w d s t Q (k+n.length) l _ _ r2 h2 e2 (AX I s hx) (AX J t hy);cases r1<;>simp[Op.eqFields,o.2,Y1,Y2,hrun,ih]
  ·cases g
theorem eU{t:TypeId}{g:List Nat}{xs ys:zb}{r:Bool}{u v:Value}(b:A1 P t=some g)(z:wo g xs ys=some r)(A:zR w S G Z (.agg xs) u)(B:zR w S G Z (.agg ys) v) :
  (Op.equal t u v).run P w=.ok r w/\∀(op:BinOp) (x y:Operand),(eqGuard op t x y u v).run P w=.ok () w:=by
 obtain⟨e,rfl,i,k⟩:=A.xU;obtain⟨f,rfl,l,m⟩:=B.xU;unfold A1 at b;split at b
 ·cases b
 ·rename_i C;have n:P.stoodInHeld t=false:=by cases h:P.stoodInHeld t<;>simp_all
  have o:P.eqGuardType P.depth t=false:=by cases h:P.eqGuardType P.depth t<;>simp_all
  split at b
  ·rename_i q s;have c:P.fieldsOf t=q:=by simp[Program.fieldsOf,s]
   constructor
   ·unfold Op.equal Op.maxDepth;rw[show(10000:Nat)=9999+1 from rfl,run_equalIn_struct w 9999 t e f (by rw[c];exact s) n,c];exact Qz w 9997 e f q.toList 0 g xs ys r b z
     (fun j p d=>by
      have a:j<e.size:=by rw[<-i];exact(ze.1 d).1
      exact⟨e[j],by simp[a],k j p _ d (by simp[a])⟩)
     (fun j p d=>by
      have a:j<f.size:=by rw[<-l];exact(ze.1 d).1
      exact⟨f[j],by simp[a],m j p _ d (by simp[a])⟩)
   ·intro op x y;unfold eqGuard;cases op<;>simp[o]
  ·cases b
theorem bC{t:TypeId}(a b:Bool)(c:P.underlying t=some .bool)(w:World):(Op.equal t (.bool a) (.bool b)).run P w=.ok (a==b) w:=by
 have h:∀d:Nat,(Op.equalIn (d+1) t (.bool a) (.bool b)).run P w=.ok (a==b) w:=fun d=>by simp only[Op.equalIn,jY,zy c,jm,Zd]
 exact h 9999
theorem eV{t e:TypeId}(A:Option Addr)(n c:Nat)(a:P.underlying t=some (.slice e))(w:World):(Op.equal t (.slice A n c) (.slice none 0 0)).run P w=.ok A.isNone w:=by
 have h:∀d:Nat,(Op.equalIn (d+1) t (.slice A n c) (.slice none 0 0)).run P w=.ok A.isNone w:=fun d=>by cases A<;>simp only[Op.equalIn,jY,zy a,jm,Zd]<;>rfl
 exact h 9999
theorem eW{p:O}{u:Value}{r:Bool}(h:V0 p=some r)(b:zR w S G Z p u):∃A n c,u=.slice A n c/\A.isNone=r:=by
 unfold V0 at h;split at h
 ·injection h with h;subst h;exact⟨none,0,0,b.xp,rfl⟩
 ·injection h with h;subst h;obtain⟨f,cap,rfl,_⟩:=b.ed;exact⟨_,_,_,rfl,rfl⟩
 ·injection h with h;subst h;obtain⟨cap,_,_,_,_,rfl⟩:=b.ve;exact⟨_,_,_,rfl,rfl⟩
 ·rename_i s c es;injection h with h;subst h
  cases b.KG with
  |sl us d e g i j k=>
   rename_i A cap;cases A with
   |none=>have:=d rfl;subst this;simp at e
   |some a=>exact⟨_,_,_,rfl,rfl⟩
 ·cases h
theorem oH(g:Inv P w S G Y Z){op:BinOp}{t:TypeId}{p q x:O}{u v:Value}(C D:Operand)(h:Qa P op t p q=some x)(f:zR w S G Z p u)(i:zR w S G Z q v) :
  xq dr P w Y Z S G x Y Z ((do eqGuard op t C D u v;binOp op t u v:Sem Value).run P w):=by
 unfold Qa at h;split at h
 ·rename_i k a I b;obtain⟨rfl,_⟩:=f.wj;obtain⟨rfl,_⟩:=i.wj;split at h
  ·rename_i E;subst E;obtain⟨r,rfl,l,m⟩:=A7 (P:=P) h t w;exact zW (v:=r) g (by simp[Qf (a:=.int k a) rfl (by simp) w,m]) (ky r l)
  ·cases h
 ·rename_i a b;obtain⟨rfl,_⟩:=f.wj;obtain⟨rfl,_⟩:=i.wj;obtain⟨r,rfl,l,m⟩:=A8 (P:=P) h t w;exact zW (v:=r) g (by simp[Qf (a:=.string a) rfl (by simp) w,m]) (ky r l)
 ·rename_i a b;obtain⟨rfl,_⟩:=f.wj;obtain⟨rfl,_⟩:=i.wj;split at h
  ·rename_i j;injection h with h
   subst h;refine zW (v:=.bool (a==b)) g ?_ (ky _ rfl);simp only[jY,Qf (a:=.bool a) rfl (by simp) w,jm,binOp,bC a b j,Zd]
  ·rename_i j;injection h with h
   subst h;refine zW (v:=.bool (!(a==b))) g ?_ (ky _ rfl);simp only[jY,Qf (a:=.bool a) rfl (by simp) w,jm,binOp,bC a b j,Zd]
  ·cases h
 ·rename_i xs ys;split at h
  ·rename_i z B;split at h
   ·cases d:wo z xs ys with
    |none=>simp[d]at h
    |some r=>simp[d]at h;subst h;obtain⟨o,s⟩:=eU B d f i;obtain⟨F,rfl,_,_⟩:=f.xU;obtain⟨H,rfl,_,_⟩:=i.xU;exact zW (v:=.bool r) g (by simp[s,binOp,o]) (ky _ rfl)
   ·cases d:wo z xs ys with
    |none=>simp[d]at h
    |some r=>simp[d]at h;subst h;obtain⟨o,s⟩:=eU B d f i;obtain⟨F,rfl,_,_⟩:=f.xU;obtain⟨H,rfl,_,_⟩:=i.xU;exact zW (v:=.bool !r) g (by simp[s,binOp,o]) (ky _ rfl)
   ·cases h
  ·cases h
 ·have:=i.xp;subst this;split at h
  ·rename_i e r d y;injection h with h
   subst h;obtain⟨A,n,c,rfl,rfl⟩:=eW y f;refine zW (v:=.bool A.isNone) g ?_ (ky _ rfl);simp only[jY,eqGuard,binOp,eV A n c (kn d),Zd,jm];simp
  ·rename_i e r d y;injection h with h
   subst h;obtain⟨A,n,c,rfl,rfl⟩:=eW y f;refine zW (v:=.bool !A.isNone) g ?_ (ky _ rfl);simp only[jY,eqGuard,binOp,eV A n c (kn d),Zd,jm];simp
  ·cases h
 ·cases h
theorem tz(b:Inv P w S G Y Z){op:BinOp}{t:TypeId}{p q x:O}{u v:Value}(g a:Operand)(h:Yo (HY a) P op t p q=some x)(i:zR w S G Z p u)(j:zR w S G Z q v) :
  xq dr P w Y Z S G x Y Z ((do eqGuard op t g a u v;binOp op t u v:Sem Value).run P w):=by
 unfold Yo at h;split at h
 ·rename_i l;obtain⟨rfl,_⟩:=i.wj;obtain⟨rfl,_⟩:=j.wj;obtain⟨c,rfl⟩:∃c,a=.const c:=by cases a<;>first|exact⟨_,rfl⟩|(simp[HY]at l)
  unfold sd at h;split at h
  ·rename_i e;unfold oC at e;split at e
   ·rename_i m f;have k:(Op.equal t .nilIface .nilIface).run P w=.ok true w:=by
     have h:∀d:Nat,(Op.equalIn (d+1) t .nilIface .nilIface).run P w=.ok true w:=fun d=>by simp only[Op.equalIn,jY,zy f,jm,Zd]
     exact h 9999
    split at h
    ·injection h with h;subst h;refine zW (v:=.bool true) b ?_ (ky _ rfl);simp[eqGuard,binOp,k,Result.andThen]
    ·injection h with h;subst h;refine zW (v:=.bool false) b ?_ (ky _ rfl);simp[eqGuard,binOp,k,Result.andThen]
    ·cases h
   ·cases e
  ·cases h
 ·exact oH b g a h i j
theorem tA(a:Inv P w S G Y Z){op:UnOp}{p x:O}{u:Value}(h:EW op p=some x)(b:zR w S G Z p u):xq dr P w Y Z S G x Y Z ((Op.unary op u).run P w):=by
 unfold EW at h;split at h
 ·obtain⟨rfl,_⟩:=b.wj;split at h
  ·injection h with h;subst h;exact zW (v:=_) a (by simp[Op.unary]) (ky _ rfl)
  ·cases h
 ·obtain⟨rfl,_⟩:=b.wj;split at h
  ·injection h with h;subst h;exact zW (v:=_) a (by simp[Op.unary,Op.intArith]) (ky _ rfl)
  ·cases h
 ·cases h
theorem tB(e:Inv P w S G Y Z){a dst:TypeId}{p x:O}{u:Value}(h:JU P a dst p=some x)(f:zR w S G Z p u):xq dr P w Y Z S G x Y Z ((convert a dst u).run P w):=by
 unfold JU at h;split at h
 ·obtain⟨rfl,_⟩:=f.wj;split at h
  ·rename_i d k b c;injection h with h
   subst h;exact zW (v:=_) e (by simp[convert,zy b,zy c,Conv.intToInt]) (ky _ rfl)
  ·cases h
 ·obtain⟨rfl,_⟩:=f.wj;split at h
  ·rename_i d b c;injection h with h
   subst h;exact zW (v:=_) e (by simp[convert,zy b,zy c]) (ky _ rfl)
  ·cases h
 ·cases h
end
end Go.AM
