/- Lemmas. -/
import Derived.WalkKit
import Derived.ChangeAgain
import Derived.Lib.ItoaNum
import Derived.Maps.AppendAt
import Derived.Lib.AppendStr
import Derived.MapKept
import Derived.Test.YtdlbkbojibiiaaaGreatDoorG0
set_option maxRecDepth 8000
set_option maxHeartbeats 4000000
open Go Proofs Proofs.YtdlbkbojibiiaaaGreatDoor Proofs.Tryz RowKit AM SpanLaw Q Zz
namespace Go.AM
variable{dr:Prop}
inductive O where
 |v (x:Value)
 |nil
 |agg (cs:List O)
 |wY (cs:List O)
 |sl (s:Nat) (es:List (List O))
 |em
 |ptr (cs:List O)
 |own (id off n:Nat)
 |ref (id i j:Nat)
 |mp (id:Nat)
 |fn (f:Fn) (first captured:List O)
def lit:Value->Bool
 | .bool _|.int _ _|.string _|.nilFunc|.pointer none|.nilIface|.map none|.slice (some _) 0 0=>true
 |_=>false
def O.yo:O->Bool
 | .agg _|.wY _=>false
 |_=>true
inductive yb (w:World) (S:Nat->Prop):O->Value->Prop
 |v {x:Value}:lit x=true->yb w S (.v x) x
 |nil:yb w S .nil (.slice none 0 0)
 |em {ad:Addr} {cap:Nat}:cap<=maxLen->yb w S .em (.slice (some ad) 0 cap)
 |agg {cs:List O} {us:Array Value}:cs.length=us.size->(∀(j:Nat) (pv:O) (u:Value),cs[j]?=some pv->us[j]?=some u->yb w S pv u)->yb w S (.agg cs) (.agg us)
 |wY {cs:List O} {us:Array Value}:cs.length=us.size->(∀(j:Nat) (pv:O) (u:Value),cs[j]?=some pv->us[j]?=some u->yb w S pv u)->yb w S (.wY cs) (.tuple us)
 |sl {es:List (List O)} {A:Option Addr} {cap s:Nat} (us:Nat->Nat->Value):(A=none->cap=0)->es.length<=cap->cap<=maxLen->(∀c∈es,c.length=s) ->
   (∀(i j:Nat) (c:List O) (pv:O),es[i]?=some c->c[j]?=some pv->∃ad,A=some ad/\S ad.block/\w.cell? (ad.add (i*s+j))=some (us i j)/\(us i j).oneCell'=true) ->
   (∀(i j:Nat) (c:List O) (pv:O),es[i]?=some c->c[j]?=some pv->yb w S pv (us i j))->yb w S (.sl s es) (.slice A es.length cap)
 |ptr {cs:List O} {ad:Addr} (us:Nat->Value):(∀(j:Nat) (pv:O),cs[j]?=some pv->S ad.block/\w.cell? (ad.add j)=some (us j)) ->
   (∀(j:Nat) (pv:O),cs[j]?=some pv->yb w S pv (us j))->yb w S (.ptr cs) (.pointer (some ad))
 |fn {f:Fn} {xs ys:List O} {us ts:Array Value}:xs.length=us.size->ys.length=ts.size->(∀(j:Nat) (pv:O) (u:Value),xs[j]?=some pv->us[j]?=some u->yb w S pv u) ->
   (∀(j:Nat) (pv:O) (u:Value),ys[j]?=some pv->ts[j]?=some u->yb w S pv u)->yb w S (.fn f xs ys) (.func f us ts)
structure GI where
 g:Nat
 z:Nat
 s:Nat
inductive qx (w:World) (S:Nat->Prop) (G:Nat->GI) (Z:Nat):O->Value->Prop
 |c {pv:O} {x:Value}:yb w S pv x->qx w S G Z pv x
 |own {id off n cap:Nat}:id<Z->n<=cap->cap<=maxLen->(off+cap)*(G id).s=(G id).z->0<(G id).s->qx w S G Z (.own id off n) (.slice (some ⟨(G id).g,off*(G id).s,none⟩) n cap)
 |ref {id i j:Nat}:id<Z->0<(G id).s->qx w S G Z (.ref id i j) (.pointer (some ⟨(G id).g,i*(G id).s+j,none⟩))
 |mp {id:Nat}:id<Z->(G id).s=0->qx w S G Z (.mp id) (.map (some (G id).g))
 |agg {cs:List O} {us:Array Value}:cs.length=us.size->(∀(j:Nat) (pv:O) (u:Value),cs[j]?=some pv->us[j]?=some u->qx w S G Z pv u)->qx w S G Z (.agg cs) (.agg us)
 |wY {cs:List O} {us:Array Value}:cs.length=us.size->(∀(j:Nat) (pv:O) (u:Value),cs[j]?=some pv->us[j]?=some u->qx w S G Z pv u)->qx w S G Z (.wY cs) (.tuple us)
 |fn {f:Fn} {xs ys:List O} {us ts:Array Value}:xs.length=us.size->ys.length=ts.size->(∀(j:Nat) (pv:O) (u:Value),xs[j]?=some pv->us[j]?=some u->qx w S G Z pv u) ->
   (∀(j:Nat) (pv:O) (u:Value),ys[j]?=some pv->ts[j]?=some u->qx w S G Z pv u)->qx w S G Z (.fn f xs ys) (.func f us ts)
theorem WK(a:Addr)(n:Nat):(a.add n).block=a.block:=by unfold Addr.add;split<;>rfl
theorem eu(a:Addr)(i j:Nat):(a.add i).add j=a.add (i+j):=by unfold Addr.add;by_cases hi:i=0<;>by_cases b:j=0<;>simp[hi,b,nZ]
theorem yb.mono{w w':World}{S p:Nat->Prop}{d:O}{x:Value}(h:yb w S d x)(g:∀b,S b->p b/\w'.heap[b]?=w.heap[b]?):yb w' p d x:=by
 induction h with
 |v h=>exact .v h
 |nil=>exact .nil
 |em h=>exact .em h
 |agg k _ a=>exact .agg k a
 |wY k _ a=>exact .wY k a
 |sl us q f l r s _ a=>refine .sl us q f l r (fun i j c d hi m=>?_) a;obtain⟨ad,e,hs,n,o⟩:=s i j c d hi m;refine⟨ad,e,(g _ hs).1,?_,o⟩;rw[<-n];apply bd;rw[WK];exact(g _ hs).2
 |ptr us f _ a=>refine .ptr us (fun j d m=>?_) a;obtain⟨hs,n⟩:=f j d m;refine⟨(g _ hs).1,?_⟩;rw[<-n];apply bd;rw[WK];exact(g _ hs).2
 |fn f l _ _ t u=>exact .fn f l t u
theorem qx.mono{w w':World}{S i:Nat->Prop}{G j:Nat->GI}{Z k:Nat}{l:O}{x:Value}(h:qx w S G Z l x)(o:∀b,S b->i b/\w'.heap[b]?=w.heap[b]?)
  (s:Z<=k) (e:∀id,id<Z->j id=G id):qx w' i j k l x:=by
 induction h with
 |c h=>exact .c (h.mono o)
 |own d a p m n=>rw[<-e _ d]at m n⊢;exact .own (by omega) a p m n
 |ref d a=>rw[<-e _ d]at a⊢;exact .ref (by omega) a
 |mp d a=>rw[<-e _ d]at a⊢;exact .mp (by omega) a
 |agg f _ g=>exact .agg f g
 |wY f _ g=>exact .wY f g
 |fn d a _ _ q r=>exact .fn d a q r
theorem yb.XE{w:World}{S:Nat->Prop}{a:O}{x:Value}(h:yb w S a x)(b:a.yo=true):x.oneCell'=true:=by
 cases h with
 |v h=>cases x<;>simp_all[lit,Value.oneCell']
 |agg=>simp[O.yo]at b
 |wY=>simp[O.yo]at b
 |_=>rfl
theorem qx.XE{w:World}{S:Nat->Prop}{G:Nat->GI}{Z:Nat}{b:O}{x:Value}(h:qx w S G Z b x)(a:b.yo=true):x.oneCell'=true:=by
 cases h with
 |c h=>exact h.XE a
 |agg=>simp[O.yo]at a
 |wY=>simp[O.yo]at a
 |_=>rfl
structure kV where
 e:TypeId
 s:Nat
 arr:Bool
 es:List (List O)
abbrev Hp:=Nat->Option kV
def qR{α:Type}(f:Nat->α)(k:Nat)(x:α):Nat->α:=fun i=>if i=k then x else f i
@[simp]theorem yd{α:Type}(f:Nat->α)(k:Nat)(x:α):qR f k x k=x:=by simp[qR]
theorem wM{α:Type}(f:Nat->α)(k i:Nat)(x:α)(h:i≠k):qR f k x i=f i:=by simp[qR,h]
def jN(w:World)(S:Nat->Prop)(G:Nat->GI)(Z:Nat)(a:Bool)(b:O)(u:Value):Prop:=
 (a=true->yb w S b u)/\qx w S G Z b u/\u.oneCell'=true
structure H6 (P:Program) (w:World) (S:Nat->Prop) (G:Nat->GI) (Z:Nat) (gi:GI) (b:kV):Prop where
 size:(P.info? b.e).map (·.size)=some gi.s
 len:∀c∈b.es,c.length=gi.s
 fit:b.es.length*gi.s<=gi.z
 row:∃cur:Array Value,w.heap[gi.g]?=some (.cells cur b.e (0,0))/\cur.size=gi.z /\
  ∀(i j:Nat) (c:List O) (pv:O),b.es[i]?=some c->c[j]?=some pv->∃u,cur[i*gi.s+j]?=some u/\jN w S G Z b.arr pv u
def Bf(w:World)(S:Nat->Prop)(c:List O)(e:MapEntry):Prop:=∃(k:Value) (a:O),c=[.v k,a]/\e.key=k/\lit k=true/\yb w S a e.val
structure zhS (w:World) (S:Nat->Prop) (gi:GI) (b:kV):Prop where
 row:∃(en:Array MapEntry) (clock:Nat),w.heap[gi.g]?=some (.map en clock)/\en.size=b.es.length/\∀(i:Nat) (c:List O) (e:MapEntry),b.es[i]?=some c->en[i]?=some e->Bf w S c e
structure xN (P:Program) (w:World) (S:Nat->Prop) (G:Nat->GI) (Z:Nat) (gi:GI) (b:kV):Prop where
 bs:b.s=gi.s
 cel:0<gi.s->H6 P w S G Z gi b
 ent:gi.s=0->zhS w S gi b
theorem xN.size{P:Program}{w:World}{S:Nat->Prop}{G:Nat->GI}{Z:Nat}{a:GI}{b:kV}(h:xN P w S G Z a b)(c:0<a.s):(P.info? b.e).map (·.size)=some a.s:=(h.cel c).size
theorem xN.len{P:Program}{w:World}{S:Nat->Prop}{G:Nat->GI}{Z:Nat}{a:GI}{b:kV}(h:xN P w S G Z a b)(d:0<a.s):∀c∈b.es,c.length=a.s:=(h.cel d).len
theorem xN.fit{P:Program}{w:World}{S:Nat->Prop}{G:Nat->GI}{Z:Nat}{a:GI}{b:kV}(h:xN P w S G Z a b)(c:0<a.s):b.es.length*a.s<=a.z:=(h.cel c).fit
theorem xN.row{P:Program}{w:World}{S:Nat->Prop}{G:Nat->GI}{Z:Nat}{d:GI}{b:kV}(h:xN P w S G Z d b)(k:0<d.s):∃a:Array Value,w.heap[d.g]?=some (.cells a b.e (0,0))/\a.size=d.z /\
  ∀(i j:Nat) (c:List O) (f:O),b.es[i]?=some c->c[j]?=some f->∃u,a[i*d.s+j]?=some u/\jN w S G Z b.arr f u:=(h.cel k).row
theorem xN.xz{P:Program}{w:World}{S:Nat->Prop}{G:Nat->GI}{Z:Nat}{a:GI}{b:kV}(d:0<a.s)(c:b.s=a.s)(h:H6 P w S G Z a b):xN P w S G Z a b:=
 ⟨c,fun _=>h,fun e=>by omega⟩
def S9(P:Program)(g:Nat):Prop:=g<P.globals.size/\∃zero t,((begin P (fun _ _=>0) default).world.heap[g]?).bind Obj.row?=some (zero,t)/\zero.size=1/\P.buildable t=true/\P.cellTypes P.depth t=some [t]/\P.underlying t=some (.int .i64)
def K4:List (Nat×IntKind×List Int):=[]++[(5,.u64,Lib.pow10Tab)]
def D7(w:World)(S:Nat->Prop)(t:Nat×IntKind×List Int):Prop:=S t.1/\∃ty a,w.heap[t.1]?=some (.cells (t.2.2.map fun z=>Value.int t.2.1 z).toArray ty a)
def OB(P:Program)(w:World)(S:Nat->Prop):Prop:=(∀g,S9 P g->S g/\∃m,w.cell? ⟨g,0,none⟩=some (.int .i64 m))/\∀t∈K4,D7 w S t
theorem OB.mono{P:Program}{w w':World}{S e:Nat->Prop}(h:OB P w S)(c:∀b,S b->e b/\w'.heap[b]?=w.heap[b]?):OB P w' e:=by
 refine⟨fun g f=>?_,fun t i=>?_⟩
 ·obtain⟨a,m,d⟩:=h.1 g f;refine⟨(c g a).1,m,?_⟩;rw[<-d];exact bd (c g a).2
 ·obtain⟨a,ty,j,d⟩:=h.2 t i;exact⟨(c _ a).1,ty,j,(c _ a).2.trans d⟩
theorem Nn{w:World}{a:Addr}{v:Value}(h:w.cell? a=some v):a.block<w.heap.size:=by
 unfold World.cell? at h;split at h
 ·rename_i b;exact(qE.1 b).1
 ·cases h
theorem OB.zb6{P:Program}{w:World}(h:w.ShapedOpen P)(j:∀t∈K4,D7 w (fun b=>b<w.heap.size) t):OB P w (fun b=>b<w.heap.size):=by
 refine⟨?_,j⟩;rintro g ⟨k,zero,t,l,s,m,n,o⟩;obtain⟨cs,p,hs,q⟩:=h.1 g zero t k l;obtain⟨ts,d,_,e⟩:=q m;rw[n]at d;cases d;have i:0<cs.size:=by omega
 obtain⟨u,f,c⟩:=e 0 cs[0] (by simp[i]);have:u=t:=by simpa using f.symm
 subst this;have a:w.cell? ⟨g,0,none⟩=some cs[0]:=by simp[World.cell?,p,i]
 refine⟨Nn a,?_⟩;rw[a];unfold Cell.ok at c;rw[o]at c;cases r:cs[0]<;>rw[r]at c<;>simp_all
structure Inv (P:Program) (w:World) (S:Nat->Prop) (G:Nat->GI) (Y:Hp) (Z:Nat):Prop where
 st:∀b,S b->b<w.heap.size
 top:∀id b,Y id=some b->id<Z
 live:∀id b,Y id=some b->xN P w S G Z (G id) b
 apart:∀id b,Y id=some b->¬S (G id).g
 inj:∀id id' b b',Y id=some b->Y id'=some b'->(G id).g=(G id').g->id=id'
 oa:OB P w S
theorem xN.lt{P:Program}{w:World}{S:Nat->Prop}{G:Nat->GI}{Z:Nat}{a:GI}{b:kV}(h:xN P w S G Z a b):a.g<w.heap.size:=by
 rcases Nat.eq_zero_or_pos a.s with c|c
 ·obtain⟨en,d,e,_⟩:=(h.ent c).row;exact(qE.1 e).1
 ·obtain⟨f,e,_⟩:=h.row c;exact(qE.1 e).1
theorem jN.mono{w w':World}{S c:Nat->Prop}{G d:Nat->GI}{Z e:Nat}{a:Bool}{f:O}{u:Value}(h:jN w S G Z a f u)(g:∀b,S b->c b/\w'.heap[b]?=w.heap[b]?)
  (i:Z<=e) (j:∀id,id<Z->d id=G id):jN w' c d e a f u:=
 ⟨fun k=>(h.1 k).mono g,h.2.1.mono g i j,h.2.2⟩
theorem xN.mono{P:Program}{w w':World}{S q:Nat->Prop}{G r:Nat->GI}{Z s:Nat}{f:GI}{b:kV}(h:xN P w S G Z f b)(t:∀b,S b->q b/\w'.heap[b]?=w.heap[b]?)
  (x:Z<=s) (y:∀id,id<Z->r id=G id) (v:w'.heap[f.g]?=w.heap[f.g]?):xN P w' q r s f b:=by
 refine⟨h.bs,fun d=>⟨h.size d,h.len d,h.fit d,?_⟩,fun d=>⟨?_⟩⟩
 ·obtain⟨l,m,n,o⟩:=h.row d;refine⟨l,v.trans m,n,fun i j c p hi z=>?_⟩;obtain⟨u,A,B⟩:=o i j c p hi z;exact⟨u,A,B.mono t x y⟩
 ·obtain⟨en,a,m,n,o⟩:=(h.ent d).row;refine⟨en,a,v.trans m,n,fun i c e hi C=>?_⟩;obtain⟨k,p,D,E,F,H⟩:=o i c e hi C;exact⟨k,p,D,E,F,H.mono t⟩
structure Fr (dr:Prop) (w:World) (L:Nat->Prop) (w':World):Prop where
 os:w'.os=w.os
 tape:w'.tape=w.tape
 output:w'.output=w.output
 size:w.heap.size<=w'.heap.size
 drawn:dr->w.drawn<=w'.drawn
 block:∀k,k<w.heap.size->¬L k->w'.heap[k]?=w.heap[k]?
theorem Fr.refl(w:World)(L:Nat->Prop):Fr dr w L w:=⟨rfl,rfl,rfl,zl _,fun _=>zl _,fun _ _ _=>rfl⟩
theorem Fr.trans{w w' c:World}{L:Nat->Prop}(h:Fr dr w L w'){f:Nat->Prop}(a:Fr dr w' f c)(i:∀b,b<w.heap.size->f b->L b):Fr dr w L c:=
 ⟨a.os.trans h.os,a.tape.trans h.tape,a.output.trans h.output,zG h.size a.size,fun d=>zG (h.drawn d) (a.drawn d),fun k e g=>(a.block k (jF e h.size) (fun j=>g (i k e j))).trans (h.block k e g)⟩
theorem Fr.drew(w:World)(L:Nat->Prop):Fr dr w L w.drew:=⟨rfl,rfl,rfl,zl _,fun _=>Ws _,fun _ _ _=>rfl⟩
structure St where
 U:Nat->O
 Y:Hp
 Z:Nat
def mP(D:Nat):Deferred:={target:=.collected D,args:=#[]}
def Marks(c:Nat)(w:World)(S:Nat->Prop)(Y:Hp)(G:Nat->GI)(ds:List Deferred):Prop:=c<=w.heap.size/\∃a:List Nat,ds=a.map mP/\a.Nodup/\∀D∈a,c<=D/\w.heap[D]?=some (.deferred (some []))/\¬S D/\∀id b,Y id=some b->(G id).g≠D
theorem Marks.nil{a:Nat}{w:World}{S:Nat->Prop}{Y:Hp}{G:Nat->GI}(h:a<=w.heap.size):Marks a w S Y G []:=⟨h,[],rfl,by simp,by simp⟩
structure YT (dr:Prop) (P:Program) (w0:World) (S0 L:Nat->Prop) (N Z0:Nat) (G0:Nat->GI) (n0:Nat) (st:St) (S:Nat->Prop) (G:Nat->GI) (a:Act) (w:World):Prop where
 inv:Inv P w S G st.Y st.Z
 xO:∀t,qx w S G st.Z (st.U t) (a.tmps.getD t undef)
 size:a.tmps.size=N
 defers:Marks n0 w S st.Y G a.defers
 s0:∀b,S0 b->S b
 s1:∀b,S b->S0 b\/L b\/w0.heap.size<=b
 own:∀id b,st.Y id=some b->L (G id).g\/w0.heap.size<=(G id).g
 fr:Fr dr w0 L w
 up:Z0<=st.Z
 loc:∀id,id<Z0->G id=G0 id
def nF(dr:Prop)(P:Program)(b:World)(c L:Nat->Prop)(N Z0:Nat)(d:Nat->GI)(e:Nat)(st:St)(a:Act)(w:World):Prop:=∃S G,YT dr P b c L N Z0 d e st S G a w
theorem exI{α:Sort _}(a:α):∃x,a=x:=⟨_,rfl⟩
theorem nzT{a:Int}(h:¬a=0):(a != 0)=true:=by simpa using h
theorem eqF0{α:Type}[BEq α][LawfulBEq α]{a b:α}(h:¬a=b):(a==b)=false:=by simpa using h
abbrev zb:=List O
abbrev Spec:=zb->Hp->Nat->Option (O×Hp×Nat)
abbrev Q1:=zb->Hp->Option (zb×Hp)
structure Ctx where
 P:Program
 Γ:FuncId->Option Spec
 dyn:Nat->List (Tmp×Tmp):=fun _=>[]
 S6:Nat->List Tmp:=fun _=>[]
 bk:FuncId->Bool:=fun _=>false
 fz:Nat->List Tmp:=fun _=>[]
 it:FuncId->Option Q1:=fun _=>none
def Bg(st:St)(a b:Tmp):Prop:=∀id i j,st.U a=.ref id i j->∃id' i' j' blk,st.U b=.ref id' i' j'/\id≠id'/\st.Y id'=some blk/\blk.arr=false
def YV(D:List (Tmp×Tmp))(st:St):Prop:=∀p∈D,Bg st p.1 p.2
def O.Jk:O->Bool
 | .v _|.nil|.em|.sl _ _|.ptr _=>true
 |_=>false
def O.shut:O->Bool
 | .agg cs=>cs.all O.Jk
 |x=>x.Jk
def O.Kd:O->Bool
 | .wY _=>true
 |x=>x.shut
abbrev zB:Nat:=1000000
def zfa(L:List Tmp)(st:St):Prop:=∀s∈L,(∀id o n,st.U s≠.own id o n)/\∀id i j,st.U s=.ref id i j->id<st.Z/\∃blk,st.Y id=some blk/\blk.arr=false
def QI(L:List Tmp)(st:St):Prop:=∀s∈L,((∀id o n,st.U s≠.own id o n)/\∀id i j,st.U s=.ref id i j->id<st.Z/\∃blk,st.Y id=some blk/\blk.arr=false)/\(zB<=s->(st.U (s-zB)).Kd=true)
def gL:Value->Option O
 | .slice none 0 0=>some .nil
 | .bool b=>some (.v (.bool b))
 | .int k n=>some (.v (.int k n))
 | .string s=>some (.v (.string s))
 | .nilFunc=>some (.v .nilFunc)
 | .pointer none=>some (.v (.pointer none))
 | .nilIface=>some (.v .nilIface)
 | .map none=>some (.v (.map none))
 |_=>none
def xz:List Value->Option zb
 |[]=>some []
 |x::l=>match gL x,xz l with
  |some p,some r=>some (p::r)
  |_,_=>none
def nG:Value->Option O
 | .agg cs=>(xz cs.toList).map .agg
 |x=>gL x
def get(U:Nat->O):Operand->Option O
 | .tmp t=>some (U t)
 | .const x=>nG x
 | .func f=>some (.fn (.func f) [] [])
 | .global _=>none
def qF(P:Program)(t:TypeId):Option Nat:=(P.info? t).map (·.size)
def j7(P:Program)(t:TypeId):Option Nat:=(P.info? t).map (·.bytes)
def yN(P:Program)(t:TypeId):Option zb:=((P.info? t).bind (·.zero)).bind fun z=>xz z.cells.toList
def wT(P:Program)(t:TypeId):Option Bool:=(P.underlying t).map fun
 | .struct _|.array _ _=>true
 |_=>false
def yg(P:Program)(t:TypeId):Option TypeId:=match P.underlying t with
 |some (.slice e)=>some e
 |_=>none
def qU(P:Program)(t:TypeId)(f:Nat):Option (Nat×Nat×Bool):=match P.underlying t with
 |some (.struct b)=>match b[f]? with
  |some x=>match qF P x.type,wT P x.type with
   |some n,some a=>some (x.offset,n,a)
   |_,_=>none
  |none=>none
 |_=>none
def O.cells:O->zb
 | .agg cs=>cs
 |x=>[x]
def zL(P:Program)(t:TypeId)(cs:zb):Option O:=
 match wT P t,qF P t with
 |some true,some n=>if n<=cs.length then some (.agg (cs.take n))else none
 |some false,some _=>cs[0]?
 |_,_=>none
def O.v7:O->Bool
 | .own _ _ _=>true
 |_=>false
def O.noOwn:O->Bool
 | .agg cs=>!cs.any O.v7
 | .own _ _ _=>false
 |_=>true
def yf(Y:Hp):O->Option (O×Hp)
 | .own id off n=>match Y id with
  |some b=>if b.arr=true/\off+n<=b.es.length then some (.sl b.s ((b.es.drop off).take n),qR Y id none)else none
  |none=>none
 | .v x=>some (.v x,Y)
 | .nil=>some (.nil,Y)
 | .sl s es=>some (.sl s es,Y)
 | .em=>some (.em,Y)
 | .ptr cs=>some (.ptr cs,Y)
 | .fn f xs ys=>if xs.all O.shut=true/\ys.all O.shut=true then some (.fn f xs ys,Y)else none
 |_=>none
def wV(Y:Hp):zb->Option (zb×Hp)
 |[]=>some ([],Y)
 |x::l=>match yf Y x with
  |some (y,Y1)=>match wV Y1 l with
   |some (r,Y2)=>some (y::r,Y2)
   |none=>none
  |none=>none
def qH(Y:Hp):O->Option (O×Hp)
 | .agg cs=>match wV Y cs with
  |some (l,h)=>some (.agg l,h)
  |none=>none
 |x=>yf Y x
def zv(Y:Hp):zb->Option (zb×Hp)
 |[]=>some ([],Y)
 |x::l=>match qH Y x with
  |some (y,Y1)=>match zv Y1 l with
   |some (r,Y2)=>some (y::r,Y2)
   |none=>none
  |none=>none
def freeze(Y:Hp):O->Option (O×Hp)
 | .wY cs=>match zv Y cs with
  |some (l,h)=>some (.wY l,h)
  |none=>none
 |x=>qH Y x
def view(Y:Hp)(n:Nat):O->Option (List zb)
 | .nil=>some []
 | .em=>some []
 | .sl s es=>if s=n then some es else none
 | .own id off k=>match Y id with
  |some b=>if b.arr=true/\b.s=n/\off+k<=b.es.length then some ((b.es.drop off).take k)else none
  |none=>none
 |_=>none
def Tb(op:BinOp)(k:IntKind)(a b:Int):Option O:=
 match op with
 | .add=>some (.v (.int k (k.wrap (a+b))))
 | .sub=>some (.v (.int k (k.wrap (a-b))))
 | .mul=>some (.v (.int k (k.wrap (a*b))))
 | .quo=>if b=0 then none else some (.v (.int k (k.wrap (a.tdiv b))))
 | .rem=>if b=0 then none else some (.v (.int k (a.tmod b)))
 | .eql=>some (.v (.bool (a==b)))
 | .neq=>some (.v (.bool (a != b)))
 | .lss=>some (.v (.bool (decide (a<b))))
 | .leq=>some (.v (.bool (decide (a<=b))))
 | .gtr=>some (.v (.bool (decide (a>b))))
 | .geq=>some (.v (.bool (decide (a>=b))))
 | .and=>some (.v (.int k (k.wrap (BitVec.ofInt k.bits a &&& BitVec.ofInt k.bits b).toNat)))
 | .or=>some (.v (.int k (k.wrap (BitVec.ofInt k.bits a||| BitVec.ofInt k.bits b).toNat)))
 | .xor=>some (.v (.int k (k.wrap (BitVec.ofInt k.bits a ^^^ BitVec.ofInt k.bits b).toNat)))
 | .andNot=>some (.v (.int k (k.wrap (BitVec.ofInt k.bits a &&& ~~~ BitVec.ofInt k.bits b).toNat)))
 | .shr=>if b<0 then none else some (.v (.int k (a.fdiv (2 ^ (min b.toNat k.bits)))))
 | .shl=>if b<0 then none else some (.v (.int k (k.wrap (a*2 ^ (min b.toNat k.bits)))))
def Tc(op:BinOp)(a b:ByteArray):Option O:=
 match op with
 | .add=>if a.size+b.size<=maxLen then some (.v (.string (a++b)))else none
 | .eql=>some (.v (.bool (a.toList==b.toList)))
 | .neq=>some (.v (.bool (!(a.toList==b.toList))))
 | .lss=>some (.v (.bool (Op.bytesLess a.toList b.toList)))
 | .leq=>some (.v (.bool (Op.bytesLess a.toList b.toList||a.toList==b.toList)))
 | .gtr=>some (.v (.bool (!(Op.bytesLess a.toList b.toList||a.toList==b.toList))))
 | .geq=>some (.v (.bool (!(Op.bytesLess a.toList b.toList))))
 |_=>none
def yi:List Nat->zb->zb->Option Bool
 |[],_,_=>some true
 | 0::c,.v (.int k a)::xs,.v (.int d b)::ys=>if k=d then(yi c xs ys).map ((a==b)&&·)else none
 | 1::c,.v (.bool a)::xs,.v (.bool b)::ys=>(yi c xs ys).map ((a==b)&&·)
 | 2::c,.v (.string a)::xs,.v (.string b)::ys=>(yi c xs ys).map ((a==b)&&·)
 |_,_,_=>none
def ON(P:Program)(t:TypeId):Option Nat:=match P.underlying t with
 |some (.int _)=>some 0
 |some .bool=>some 1
 |some .string=>some 2
 |_=>none
def uq(P:Program):Nat->List Field->Option (List Nat)
 |_,[]=>some []
 |i,f::a=>if f.offset=i/\f.name≠ "_" then match ON P f.type,uq P (i+1) a with
   |some k,some b=>some (k::b)
   |_,_=>none
  else none
def subA(P:Program)(t:TypeId):Option (List Nat):=if P.stoodInHeld t=true then none else match P.underlying t with
 |some (.struct gs)=>match uq P 0 gs.toList with
  |some a=>if qF P t=some a.length then some a else none
  |none=>none
 |_=>none
def ur(P:Program):Nat->List Field->Option (List Nat)
 |_,[]=>some []
 |i,f::b=>if f.offset=i/\f.name≠ "_" then match ON P f.type with
   |some k=>match ur P (i+1) b with
    |some a=>some (k::a)
    |none=>none
   |none=>match subA P f.type with
    |some c=>match ur P (i+c.length) b with
     |some a=>some (c++a)
     |none=>none
    |none=>none
  else none
def uu(P:Program)(t:TypeId):Option (List Nat):=
 if P.stoodInHeld t=true\/P.eqGuardType P.depth t=true then none else
 match P.underlying t with
 |some (.struct a)=>ur P 0 a.toList
 |_=>none
def VJ:O->Option Bool
 | .nil=>some true
 | .em=>some false
 | .own _ _ _=>some false
 | .sl _ (_::_)=>some false
 |_=>none
def ZZ(P:Program)(op:BinOp)(t:TypeId):O->O->Option O
 | .v (.int k a),.v (.int d b)=>if k=d then Tb op k a b else none
 | .v (.string a),.v (.string b)=>Tc op a b
 | .v (.bool a),.v (.bool b)=>match op,P.underlying t with
  | .eql,some .bool=>some (.v (.bool (a==b)))
  | .neq,some .bool=>some (.v (.bool (!(a==b))))
  |_,_=>none
 | .agg xs,.agg ys=>match uu P t with
  |some c=>match op with
   | .eql=>(yi c xs ys).map fun r=>.v (.bool r)
   | .neq=>(yi c xs ys).map fun r=>.v (.bool !r)
   |_=>none
  |none=>none
 |p,.nil=>match yg P t,VJ p,op with
  |some _,some r,.eql=>some (.v (.bool r))
  |some _,some r,.neq=>some (.v (.bool !r))
  |_,_,_=>none
 |_,_=>none
def Iw(P:Program)(t:TypeId):Bool:=match P.underlying t with
 |some (.interface _)=>true
 |_=>false
def isK:Operand->Bool
 | .const _=>true
 |_=>false
def Np(P:Program)(op:BinOp)(t:TypeId):Option O:=if Iw P t=true then match op with
 | .eql=>some (.v (.bool true))
 | .neq=>some (.v (.bool false))
 |_=>none
 else none
def X5(c:Bool)(P:Program)(op:BinOp)(t:TypeId)(p q:O):Option O:=match c,q,p with
 |true,.v .nilIface,.v .nilIface=>Np P op t
 |_,q,p=>ZZ P op t p q
@[simp]theorem zi8(P:Program)(op:BinOp)(t:TypeId)(p q:O):X5 false P op t p q=ZZ P op t p q:=rfl
@[simp]theorem zle(t:Tmp):isK (.tmp t)=false:=rfl
@[simp]theorem zhV(v:Value):isK (.const v)=true:=rfl
@[simp]theorem zi9(f:FuncId):isK (.func f)=false:=rfl
@[simp]theorem zja(c:Bool)(P:Program)(op:BinOp)(t:TypeId)(p:O)(k:IntKind)(n:Int):X5 c P op t p (.v (.int k n))=ZZ P op t p (.v (.int k n)):=by cases c<;>rfl
@[simp]theorem zjb(c:Bool)(P:Program)(op:BinOp)(t:TypeId)(p:O)(s:ByteArray):X5 c P op t p (.v (.string s))=ZZ P op t p (.v (.string s)):=by cases c<;>rfl
@[simp]theorem zhW(c:Bool)(P:Program)(op:BinOp)(t:TypeId)(p:O)(b:Bool):X5 c P op t p (.v (.bool b))=ZZ P op t p (.v (.bool b)):=by cases c<;>rfl
@[simp]theorem zjc(c:Bool)(P:Program)(op:BinOp)(t:TypeId)(p:O):X5 c P op t p .nil=ZZ P op t p .nil:=by cases c<;>rfl
@[simp]theorem zhX(P:Program)(op:BinOp)(t:TypeId):X5 true P op t (.v .nilIface) (.v .nilIface)=Np P op t:=rfl
def unA(op:UnOp):O->Option O
 | .v (.bool b)=>match op with
  | .not=>some (.v (.bool !b))
  |_=>none
 | .v (.int k n)=>match op with
  | .neg=>some (.v (.int k (k.wrap (0-n))))
  |_=>none
 |_=>none
def cq(P:Program)(a dst:TypeId):O->Option O
 | .v (.int _ n)=>match P.underlying a,P.underlying dst with
  |some _,some (.int k)=>some (.v (.int k (k.wrap n)))
  |_,_=>none
 | .v (.string s)=>match P.underlying a,P.underlying dst with
  |some _,some .string=>some (.v (.string s))
  |_,_=>none
 |_=>none
def vH(a:Nat):Option (Option O)->Option Nat
 |none=>some a
 |some (some (.v (.int _ i)))=>if 0<=i then some i.toNat else none
 |_=>none
def jO(P:Program)(Y:Hp)(t:TypeId)(x:O)(lo hi:Option (Option O)):Option O:=
 match P.underlying t,x with
 |some .string,.v (.string s)=>match vH 0 lo,vH s.size hi with
  |some l,some h=>if l<=h/\h<=s.size then some (.v (.string (s.extract l h)))else none
  |_,_=>none
 |some (.slice e),.sl s es=>match qF P e,vH 0 lo,vH es.length hi with
  |some n,some l,some h=>if s=n/\l<=h/\h<=es.length then some (.sl s ((es.drop l).take (h-l)))else none
  |_,_,_=>none
 |some (.slice e),.nil=>match qF P e,vH 0 lo,vH 0 hi with
  |some _,some l,some h=>if l=0/\h=0 then some .nil else none
  |_,_,_=>none
 |some (.slice e),.own id off n=>match qF P e,vH 0 lo,vH n hi with
  |some m,some l,some h=>match Y id with
   |some b=>if b.s=m/\l<=h/\h<=n then some (if l=0 then .own id off h else if h=l then .sl m []else .own id (off+l) (h-l))else none
   |none=>none
  |_,_,_=>none
 |_,_=>none
def bl(k:IntKind)(x:Int):zb->Option O
 |[]=>some (.v (.int k x))
 | .v (.int a y)::l=>if k=a then bl k (if y<x then y else x) l else none
 |_=>none
def Td:zb->Option O
 | .v (.int k x)::l=>bl k x l
 |_=>none
def bm(k:IntKind)(x:Int):zb->Option O
 |[]=>some (.v (.int k x))
 | .v (.int a y)::l=>if k=a then bm k (if y>x then y else x) l else none
 |_=>none
def Te:zb->Option O
 | .v (.int k x)::l=>bm k x l
 |_=>none
def VK(P:Program)(t:TypeId):O->Option O
 | .v (.string s)=>match P.underlying t with
  |some .string=>some (.v (.int .i64 s.size))
  |_=>none
 | .v (.slice (some _) 0 0)=>(yg P t).map fun _=>.v (.int .i64 0)
 | .sl _ es=>(yg P t).map fun _=>.v (.int .i64 es.length)
 | .nil=>(yg P t).map fun _=>.v (.int .i64 0)
 | .em=>(yg P t).map fun _=>.v (.int .i64 0)
 | .own _ _ n=>(yg P t).map fun _=>.v (.int .i64 n)
 |_=>none
def jz(cs:zb)(off:Nat):zb->zb
 |[]=>cs
 |x::l=>jz (cs.set off x) (off+1) l
def qM(a:Nat->Option (Nat×Nat))(cs:zb):List (Nat×O)->Option zb
 |[]=>some cs
 |(i,x)::b=>match a i with
  |some (off,n)=>if x.cells.length=n/\off+n<=cs.length/\x.cells.all O.yo=true then qM a (jz cs off x.cells) b else none
  |none=>none
def yF{α:Type}:List (Option α)->Option (List α)
 |[]=>some []
 |some x::l=>(yF l).map (x::·)
 |none::_=>none
def xb(a:Operand->Option O):List (Nat×Operand)->Option (List (Nat×O))
 |[]=>some []
 |(i,x)::l=>match a x,xb a l with
  |some p,some r=>some ((i,p)::r)
  |_,_=>none
def xU(P:Program)(t:TypeId):Option (List (Nat×Nat)):=match P.underlying t with
 |some (.struct a)=>a.toList.mapM (fun f=>(P.info? f.type).map fun i=>(f.offset,i.size))
 |_=>none
def qe(P:Program)(t:TypeId)(a:List (Nat×O)):Option O:=
 match xU P t,yN P t with
 |some b,some z=>(qM (fun i=>b[i]?) z a).map .agg
 |none,some z=>match P.underlying t with
  |some (.array _ e)=>match qF P e with
   |some n=>(qM (fun i=>some (i*n,n)) z a).map .agg
   |none=>none
  |_=>none
 |_,_=>none
def zy(Y:Hp):List (Nat×O)->Option (List (Nat×O)×Hp)
 |[]=>some ([],Y)
 |(i,x)::l=>match qH Y x with
  |some (y,Y1)=>match zy Y1 l with
   |some (r,Y2)=>some ((i,y)::r,Y2)
   |none=>none
  |none=>none
def zS(n:Nat)(es:List zb):List (Nat×O)->Option (List zb)
 |[]=>some es
 |(i,x)::l=>if x.cells.length=n/\i<es.length/\x.cells.all O.yo=true then zS n (es.set i x.cells) l else none
def zz(P:Program)(Y:Hp)(Z:Nat)(t:TypeId)(len:Nat)(a:List (Nat×O)):Option (O×Hp×Nat):=
 match yg P t with
 |some e=>match qF P e,yN P e,zy Y a with
  |some n,some z,some (b,Y1)=>if 0<n/\z.length=n/\len*n<=16777216 then
    match zS n (List.replicate len z) b with
    |some es=>some (.own Z 0 len,qR Y1 Z (some ⟨e,n,true,es⟩),Z+1)
    |none=>none
   else none
  |_,_,_=>none
 |none=>none
def ZA(P:Program)(Y:Hp)(Z:Nat)(t:TypeId):O->O->Option (O×Hp×Nat)
 | .v (.int _ l),.v (.int _ c)=>match yg P t with
  |some e=>match qF P e,j7 P e,yN P e with
   |some n,some by_,some z=>if 0<n/\z.length=n/\0<=l/\l<=c/\c.toNat<=maxLen/\c.toNat*by_<=140737488355328 then
     some (.own Z 0 l.toNat,qR Y Z (some ⟨e,n,true,List.replicate l.toNat z⟩),Z+1)
    else none
   |_,_,_=>none
  |none=>none
 |_,_=>none
def strU(P:Program)(u:TypeId):Bool:=match P.underlying u with
 |some .string=>true
 |_=>false
def Nq(P:Program)(e:TypeId):Bool:=match P.info? e with
 |some i=>match i.zero with
  |some (.int .u8 z)=>z==0&&i.size==1&&i.bytes==1
  |_=>false
 |none=>false
def od(P:Program)(Y:Hp)(n:Nat)(e t u:TypeId):O->Option (List zb)
 | .v (.string b)=>if strU P u=true/\Nq P e=true then some (b.data.toList.map fun c=>[.v (.int .u8 c.toNat)])else none
 |x=>if u=t then view Y n x else none
def jU(P:Program)(Y:Hp)(Z:Nat)(t u:TypeId)(s x:O):Option (O×Hp×Nat):=
 match yg P t with
 |some e=>match qF P e,j7 P e,yN P e with
  |some n,some by_,some z=>match od P Y n e t u x with
   |some xs=>match s with
    | .nil=>
     if 0<n/\z.length=n/\xs.length<=maxLen/\xs.length*by_<=140737488355328 then
      if xs.length=0 then some (.nil,Y,Z)
      else some (.own Z 0 xs.length,qR Y Z (some ⟨e,n,true,xs⟩),Z+1)
     else none
    | .own id 0 k=>match Y id with
     |some b=>if b.arr=true/\b.e=e/\k=b.es.length/\0<n/\z.length=n/\k+xs.length<=maxLen/\(k+xs.length)*by_<=140737488355328 then
       some (.own Z 0 (k+xs.length),qR (qR Y id none) Z (some ⟨e,n,true,b.es++xs⟩),Z+1)
      else none
     |none=>none
    |_=>none
   |none=>none
  |_,_,_=>none
 |none=>none
def Nr(P:Program)(Y:Hp)(Z:Nat)(t:TypeId)(d x:O):Option (O×Hp×Nat):=
 match yg P t,d with
 |some e,.own id off k=>match Y id,qF P e with
  |some b,some n=>match view Y n x with
   |some xs=>if b.arr=true/\b.e=e/\off+k<=b.es.length/\0<n then
     some (.v (.int .i64 (min xs.length k:Nat)),qR Y id (some ⟨b.e,b.s,true,b.es.take off++xs.take (min xs.length k)++b.es.drop (off+min xs.length k)⟩),Z)
    else none
   |none=>none
  |_,_=>none
 |_,_=>none
def gM(P:Program)(Y:Hp)(Z:Nat)(t:TypeId)(x:O):Option (O×Hp×Nat):=
 match yg P t,x with
 |some e,.own id off k=>match Y id,qF P e,yN P e with
  |some b,some n,some [z]=>if n=1/\b.arr=true/\b.e=e/\off+k<=b.es.length/\0<k then
    some (.wY [],qR Y id (some ⟨b.e,b.s,true,b.es.take off++List.replicate k [z]++b.es.drop (off+k)⟩),Z)
   else none
  |_,_,_=>none
 |_,_=>none
def Zm(P:Program)(Y:Hp)(t:TypeId):O->Option O
 | .ptr cs=>zL P t cs
 | .ref id i j=>match Y id with
  |some b=>match b.es[i]? with
   |some c=>zL P t (c.drop j)
   |none=>none
  |none=>none
 |_=>none
def WL(P:Program)(Y:Hp)(t:TypeId)(a x:O):Option Hp:=
 match a with
 | .ref id i j=>match Y id with
  |some d=>match(if d.arr=true then qH Y x else some (x,Y))with
   |some (y,Y1)=>match Y1 id,qF P t with
    |some b,some n=>match b.es[i]? with
     |some c=>if y.cells.length=n/\j+n<=c.length/\y.cells.all O.yo=true then
       some (qR Y1 id (some ⟨b.e,b.s,b.arr,b.es.set i (jz c j y.cells)⟩))else none
     |none=>none
    |_,_=>none
   |none=>none
  |none=>none
 |_=>none
def jt(P:Program)(t:TypeId)(f:Nat):O->Option O
 | .ptr cs=>match qU P t f with
  |some (o,n,_)=>if n=0 then none else some (.ptr (cs.drop o))
  |none=>none
 | .ref id i j=>match qU P t f with
  |some (o,n,_)=>if n=0 then none else some (.ref id i (j+o))
  |none=>none
 |_=>none
def QJ(P:Program)(t:TypeId)(f:Nat):O->Option O
 | .agg cs=>match qU P t f with
  |some (o,n,true)=>if o+n<=cs.length then some (.agg ((cs.drop o).take n))else none
  |some (o,_,false)=>cs[o]?
  |none=>none
 |_=>none
def D8(P:Program)(t:TypeId):Option (Nat×TypeId):=match P.underlying t with
 |some (.array n e)=>some (n,e)
 |_=>none
def ZO(P:Program)(t:TypeId)(i:Int)(x:O):Option O:=
 match D8 P t with
 |some (m,e)=>match qF P e with
  |some n=>if 0<=i/\i<m then match x with
    | .ptr cs=>some (.ptr (cs.drop (i.toNat*n)))
    | .ref id a b=>some (.ref id a (b+i.toNat*n))
    |_=>none
   else none
  |none=>none
 |none=>none
def q6(P:Program)(Y:Hp)(t:TypeId):O->O->Option O
 |x,.v (.int _ i)=>match yg P t with
  |some e=>match qF P e,x with
   |some n,.sl s es=>if s=n/\0<n/\0<=i then(es[i.toNat]?).map .ptr else none
   |some n,.own id off k=>match Y id with
    |some b=>if b.e=e/\0<n/\0<=i/\i.toNat<k then some (.ref id (off+i.toNat) 0)else none
    |none=>none
   |_,_=>none
  |none=>ZO P t i x
 |_,_=>none
def WM(P:Program)(t:TypeId):O->O->Option O
 | .v (.string s),.v (.int _ i)=>match P.underlying t with
  |some .string=>if 0<=i then match s[i.toNat]? with
    |some b=>some (.v (.int .u8 b.toNat))
    |none=>none
   else none
  |_=>none
 |_,_=>none
def X6(P:Program)(t:TypeId):Option (Option IntKind×TypeId):=match P.underlying t with
 |some (.map b a)=>match P.underlying b with
  |some (.int k)=>some (some k,a)
  |some .string=>some (none,a)
  |_=>none
 |_=>none
def XK:Option IntKind->Value->Bool
 |some k,.int a _=>a==k
 |none,.string _=>true
 |_,_=>false
def Qo:Value->Value->Option Bool
 | .int k a,.int c b=>if k=c then some (a==b)else none
 | .string a,.string b=>some (a.toList==b.toList)
 |_,_=>none
def Q2(k:Value):List zb->Nat->Option (Option (Nat×O))
 |[],_=>some none
 |[.v a,v]::l,i=>match Qo k a with
  |some true=>some (some (i,v))
  |some false=>Q2 k l (i+1)
  |none=>none
 |_::_,_=>none
def ew(P:Program)(t:TypeId):Option O:=((P.info? t).bind (·.zero)).bind nG
def oe(Y:Hp):O->Option (List zb)
 | .mp id=>match Y id with
  |some b=>if b.s=0 then some b.es else none
  |none=>none
 | .v (.map none)=>some []
 |_=>none
def Qp(P:Program)(Y:Hp)(t:TypeId)(x a:O)(b:Bool):Option O:=
 match X6 P t,oe Y x,a with
 |some (c,d),some es,.v k=>if XK c k=true then match Q2 k es 0 with
   |some (some (_,v))=>some (if b=true then .wY [v,.v (.bool true)]else v)
   |some none=>(ew P d).map fun z=>if b=true then .wY [z,.v (.bool false)]else z
   |none=>none
  else none
 |_,_,_=>none
def Q3(P:Program)(Y:Hp)(t:TypeId)(x a y:O):Option Hp:=
 match X6 P t,x,a with
 |some (c,_),.mp id,.v k=>if XK c k=true then match qH Y y with
   |some (z,Y1)=>match Y1 id with
    |some b=>if b.s=0 then match Q2 k b.es 0 with
      |some (some (i,_))=>some (qR Y1 id (some ⟨b.e,b.s,b.arr,b.es.set i [.v k,z]⟩))
      |some none=>some (qR Y1 id (some ⟨b.e,b.s,b.arr,b.es++[[.v k,z]]⟩))
      |none=>none
     else none
    |none=>none
   |none=>none
  else none
 |_,_,_=>none
def yO(P:Program)(Y:Hp)(Z:Nat)(ts:Array TypeId)(b:Builtin)(xs:zb):Option (O×Hp×Nat):=
 match b with
 | .len=>match xs,ts[0]? with
  |[x],some t=>(VK P t x).map fun y=>(y,Y,Z)
  |_,_=>none
 | .min=>(Td xs).map fun y=>(y,Y,Z)
 | .max=>(Te xs).map fun y=>(y,Y,Z)
 | .append=>match xs,ts[0]?,ts[1]? with
  |[s,x],some t,some u=>jU P Y Z t u s x
  |_,_,_=>none
 | .copy=>match xs,ts[0]? with
  |[d,x],some t=>Nr P Y Z t d x
  |_,_=>none
 | .clear=>match xs,ts[0]? with
  |[x],some t=>gM P Y Z t x
  |_,_=>none
 |_=>none
def kd(C:Ctx)(Y:Hp)(Z:Nat)(f:Option O)(xs:zb):Option (O×Hp×Nat):=
 match f with
 |some (.fn (.func g) first a)=>match C.Γ g with
  |some b=>b (first++xs++a) Y Z
  |none=>none
 |_=>none
def ZB(C:Ctx)(a:Operand->Option O)(Y:Hp)(Z:Nat)(c:Call):Option (O×Hp×Nat):=
 match yF (c.args.toList.map a)with
 |some xs=>match c.callee with
  | .builtin b=>yO C.P Y Z c.argTypes b xs
  | .value f=>kd C Y Z (a f) xs
  | .invoke _ _=>none
 |none=>none
def qf(C:Ctx)(d:Operand->Option O)(Y:Hp)(Z:Nat)(o:Op):Option (O×Hp×Nat):=
 match o with
 | .move x=>(d x).map fun y=>(y,Y,Z)
 | .assign x=>(d x).map fun y=>(y,Y,Z)
 | .pick c a b=>match d c with
  |some (.v (.bool true))=>(d a).map fun y=>(y,Y,Z)
  |some (.v (.bool false))=>(d b).map fun y=>(y,Y,Z)
  |_=>none
 | .alloc t=>match qF C.P t,yN C.P t with
  |some n,some z=>if 0<n/\z.length=n then some (.ref Z 0 0,qR Y Z (some ⟨t,n,false,[z]⟩),Z+1)else none
  |_,_=>none
 | .box t x=>match qF C.P t,d x with
  |some n,some y=>if 0<n/\y.cells.length=n/\y.cells.all O.yo=true then some (.ref Z 0 0,qR Y Z (some ⟨t,n,false,[y.cells]⟩),Z+1)else none
  |_,_=>none
 | .build t e=>match xb d e.toList with
  |some s=>(qe C.P t s).map fun y=>(y,Y,Z)
  |none=>none
 | .buildSlice t len e=>match xb d e.toList with
  |some s=>zz C.P Y Z t len s
  |none=>none
 | .load t a=>match d a with
  |some p=>(Zm C.P Y t p).map fun y=>(y,Y,Z)
  |none=>none
 | .store t a x=>match d a,d x with
  |some p,some y=>(WL C.P Y t p y).map fun h=>(.wY [],h,Z)
  |_,_=>none
 | .nilCheck x=>match d x with
  |some (.ref id i j)=>some (.ref id i j,Y,Z)
  |some (.ptr cs)=>some (.ptr cs,Y,Z)
  |_=>none
 | .binOp op t x y _=>match d x,d y with
  |some p,some q=>(X5 (isK y) C.P op t p q).map fun r=>(r,Y,Z)
  |_,_=>none
 | .unOp op _ x=>match d x with
  |some p=>(unA op p).map fun r=>(r,Y,Z)
  |none=>none
 | .convert u dst x=>match d x with
  |some p=>(cq C.P u dst p).map fun r=>(r,Y,Z)
  |none=>none
 | .makeFunc f first g=>match yF (first.toList.map d),yF (g.toList.map d)with
  |some xs,some ys=>some (.fn f xs ys,Y,Z)
  |_,_=>none
 | .makeSlice t l c=>match d l,d c with
  |some p,some q=>ZA C.P Y Z t p q
  |_,_=>none
 | .slice t x lo hi none=>match d x with
  |some p=>(jO C.P Y t p (lo.map d) (hi.map d)).map fun r=>(r,Y,Z)
  |none=>none
 | .fieldAddr t x f=>match d x with
  |some p=>(jt C.P t f p).map fun r=>(r,Y,Z)
  |none=>none
 | .field t x f=>match d x with
  |some p=>(QJ C.P t f p).map fun r=>(r,Y,Z)
  |none=>none
 | .indexAddr t x i=>match d x,d i with
  |some p,some q=>(q6 C.P Y t p q).map fun r=>(r,Y,Z)
  |_,_=>none
 | .index t x i=>match d x,d i with
  |some p,some q=>(WM C.P t p q).map fun r=>(r,Y,Z)
  |_,_=>none
 | .extract x i=>match d x with
  |some (.wY vs)=>(vs[i]?).map fun r=>(r,Y,Z)
  |_=>none
 | .call c=>ZB C d Y Z c
 | .makeMap t none=>match X6 C.P t with
  |some _=>some (.mp Z,qR Y Z (some ⟨t,0,false,[]⟩),Z+1)
  |none=>none
 | .lookup t x i w=>match d x,d i with
  |some p,some q=>(Qp C.P Y t p q w).map fun r=>(r,Y,Z)
  |_,_=>none
 | .mapUpdate t m k x=>match d m,d k,d x with
  |some p,some q,some y=>(Q3 C.P Y t p q y).map fun h=>(.wY [],h,Z)
  |_,_,_=>none
 | .insert t m k x=>match d m,d k,d x with
  |some p,some q,some y=>(Q3 C.P Y t p q y).map fun h=>(.wY [],h,Z)
  |_,_,_=>none
 |_=>none
def put(U:Nat->O)(dst:Option Tmp)(x:O):Nat->O:=
 match dst with
 |some d=>qR U d x
 |none=>U
def WN(a:Array Oper)(U:Nat->O)(j:Nat):Option Bool:=
 match(a[j]?).bind (·.dst)with
 |some d=>match U d with
  | .v (.bool b)=>some b
  |_=>none
 |none=>none
def jf(C:Ctx)(a:Array Oper)(o:Oper)(st:St):Option St:=
 if Region.wanted o (WN a st.U)=true then
  match qf C (get st.U) st.Y st.Z o.op with
  |some (x,Y,Z)=>some ⟨put st.U o.dst x,Y,Z⟩
  |none=>none
 else some ⟨put st.U o.dst (.wY []),st.Y,st.Z⟩
def Zc(C:Ctx)(a:Array Oper):List Oper->St->Option St
 |[],st=>some st
 |o::l,st=>match jf C a o st with
  |some b=>Zc C a l b
  |none=>none
def iter(f:St->Option (Exit×St)):Nat->St->Option (Exit×St)
 | 0,_=>none
 |n+1,st=>match f st with
  |some (.normal,a)=>iter f n a
  |r=>r
open Classical in
noncomputable def cr (f:St->Option (Exit×St)) (st:St):Option (Exit×St):=
 if h:∃n,(iter f n st).isSome=true then iter f (Classical.choose h) st else none
def DV:List Tmp->St->Option St
 |[],st=>some st
 |t::l,st=>match qH st.Y (st.U t)with
  |some (y,Y1)=>DV l ⟨qR st.U t y,Y1,st.Z⟩
  |none=>none
def VL(b c:St->Option (Exit×St))(U:Nat->O)(p:Tmp):zb->Hp->Nat->Option (Exit×Hp×Nat)
 |[],Y,Z=>some (.normal,Y,Z)
 |x::xs,Y,Z=>match b ⟨qR U p x,Y,Z⟩with
  |some (.normal,d)=>match c d with
   |some (.normal,a)=>VL b c U p xs a.Y a.Z
   |some (.ret,a)=>some (.ret,a.Y,a.Z)
   |some (.exit i,a)=>some (.exit i,a.Y,a.Z)
   |_=>none
  |_=>none
open Classical in
noncomputable def wx (C:Ctx):Code->St->Option (Exit×St)
 | .skip,st=>some (.normal,st)
 | .region id j _,k=>match DV (C.fz id) k with
  |some st=>if YV (C.dyn id) st/\QI (C.S6 id) st then match Zc C j j.toList st with
   |some d=>some (.normal,d)
   |none=>none
   else none
  |none=>none
 | .seq a b,st=>match wx C a st with
  |some (.normal,d)=>wx C b d
  |r=>r
 | .cond c x y,st=>match get st.U c with
  |some (.v (.bool true))=>wx C x st
  |some (.v (.bool false))=>wx C y st
  |_=>none
 | .block id h,st=>match wx C h st with
  |some (.exit i,d)=>if i=id then some (.normal,d)else some (.exit i,d)
  |r=>r
 | .loop h,st=>cr (wx C h) st
 | .exit id,st=>some (.exit id,st)
 | .ret,st=>some (.ret,st)
 | .label _,st=>some (.normal,st)
 | .rangeFunc f m a b,st=>match m.toList,get st.U f with
  |[p],some (.fn (.func g) [] cap)=>match C.it g with
   |some it=>match it cap st.Y with
    |some (xs,Y1)=>match VL (wx C a) (wx C b) st.U p xs Y1 st.Z with
     |some (e,Y2,l)=>some (e,⟨st.U,Y2,l⟩)
     |none=>none
    |none=>none
   |none=>none
  |_,_=>none
 |_,_=>none
def Jn(P:Program)(st:St):ResultVar->Option O
 | .tmp t=>some (st.U t)
 | .cell a t=>Zm P st.Y t (st.U a)
def ZC(P:Program)(fn:Func)(st:St):Option O:=
 match yF (fn.results.toList.map (Jn P st))with
 |some [x]=>some x
 |some xs=>some (.wY xs)
 |none=>none
def vn(args:zb):Nat->O:=fun t=>(args[t]?).getD (.wY [])
noncomputable def kj (C:Ctx) (fn:Func) (args:zb) (Y:Hp) (Z:Nat):Option (O×Hp×Nat):=
 match fn.body with
 |some code=>match wx C code ⟨vn args,Y,Z⟩with
  |some (.normal,st)=>(ZC C.P fn st).map fun x=>(x,st.Y,st.Z)
  |some (.ret,st)=>(ZC C.P fn st).map fun x=>(x,st.Y,st.Z)
  |_=>none
 |none=>none
noncomputable def zr (C:Ctx) (fn:Func) (args:zb):Option O:=
 match kj C fn args (fun _=>none) 0 with
 |some (x,Y,_)=>(freeze Y x).map (·.1)
 |none=>none
theorem uv(f:St->Option (Exit×St)):∀(n k:Nat) (st:St) (r:Exit×St),iter f n st=some r->iter f (n+k) st=some r:=by
 intro n
 induction n with
 |zero=>intro k st r h;simp[iter]at h
 |succ n b=>
  intro k st r h;rw[show n+1+k=(n+k)+1 from by omega];simp only[iter]at h⊢;split at h
  ·rename_i a c;simp only[b k a r h]
  ·simpa using h
theorem KH{f:St->Option (Exit×St)}{n:Nat}{st:St}{r:Exit×St}(h:iter f n st=some r):cr f st=some r:=by have c:∃n,(iter f n st).isSome=true:=⟨n,by simp[h]⟩;unfold cr;rw[Oy c];have e:=jT c;obtain⟨g,d⟩:=Option.isSome_iff_exists.1 e;rw[d];have a:=uv f _ (Classical.choose c) st r h;have b:=uv f _ n st g d;rw[DT]at b;rw[a]at b;exact b.symm
theorem Ye{f:St->Option (Exit×St)}{st:St}{r:Exit×St}(h:cr f st=some r):∃n,iter f n st=some r:=by
 unfold cr at h;split at h
 ·exact⟨_,h⟩
 ·cases h
theorem Bh(f:St->Option (Exit×St))(st:St):cr f st=match f st with
  |some (.normal,a)=>cr f a
  |r=>r:=by
 cases d:f st with
 |none=>
  simp only[];cases c:cr f st with
  |none=>rfl
  |some r=>
   obtain⟨n,b⟩:=Ye c;cases n with
   |zero=>simp[iter]at b
   |succ n=>simp[iter,d]at b
 |some p=>
  obtain⟨e,a⟩:=p;by_cases h:e=.normal
  ·subst h;simp only[];cases c:cr f a with
   |some r=>obtain⟨n,b⟩:=Ye c;exact KH (n:=n+1) (by simp[iter,d,b])
   |none=>
    cases g:cr f st with
    |none=>rfl
    |some r=>
     obtain⟨n,b⟩:=Ye g;cases n with
     |zero=>simp[iter]at b
     |succ n=>simp only[iter,d]at b;rw[KH b]at c;cases c
  ·have i:iter f 1 st=some (e,a):=by simp only[iter,d];cases e<;>simp_all
   rw[KH i];cases e<;>simp_all
variable{dr:Prop}
def vo(Y:Hp)(G:Nat->GI)(b:Nat):Prop:=∃id blk,Y id=some blk/\(G id).g=b
structure vA (dr:Prop) (P:Program) (Y:Hp) (Z:Nat) (S:Nat->Prop) (G:Nat->GI) (w:World) (Y':Hp) (Z':Nat) (S':Nat->Prop) (G':Nat->GI) (w':World):Prop where
 inv:Inv P w' S' G' Y' Z'
 up:Z<=Z'
 loc:∀id,id<Z->G' id=G id
 keep:∀b,S b->S' b
 from_:∀b,S' b->S b\/vo Y G b\/w.heap.size<=b
 own:∀id blk,Y' id=some blk->vo Y G (G' id).g\/w.heap.size<=(G' id).g
 fr:Fr dr w (vo Y G) w'
theorem vA.same{P:Program}{Y d:Hp}{Z f:Nat}{S c:Nat->Prop}{G g:Nat->GI}{w w':World}(h:vA dr P Y Z S G w d f c g w')(hi:Inv P w S G Y Z) :
  ∀b,S b->c b/\w'.heap[b]?=w.heap[b]?:=fun b a=>
 ⟨h.keep b a,h.fr.block b (hi.st b a) fun⟨id,blk,hid,e⟩=>hi.apart id blk hid (e ▸ a)⟩
theorem vA.refl{P:Program}{Y:Hp}{Z:Nat}{S:Nat->Prop}{G:Nat->GI}{w:World}(h:Inv P w S G Y Z):vA dr P Y Z S G w Y Z S G w:=
 ⟨h,zl _,fun _ _=>rfl,fun _ h=>h,fun _ h=>.inl h,fun id blk a=>.inl ⟨id,blk,a,rfl⟩,Fr.refl _ _⟩
theorem vA.trans{P:Program}{Y j a:Hp}{Z n c:Nat}{S o f:Nat->Prop}{G l g:Nat->GI}{w w' i:World}
  (h:vA dr P Y Z S G w j n o l w') (k:vA dr P j n o l w' a c f g i):vA dr P Y Z S G w a c f g i:=by
 have m:∀b,vo j l b->vo Y G b\/w.heap.size<=b:=by rintro b ⟨id,blk,h1,rfl⟩;exact h.own id blk h1
 refine⟨k.inv,zG h.up k.up,fun id hid=>(k.loc id (jF hid h.up)).trans (h.loc id hid),fun b d=>k.keep b (h.keep b d),fun b d=>?_,fun id blk d=>?_,?_⟩
 ·rcases k.from_ b d with h1|h1|h1
  ·exact h.from_ b h1
  ·rcases m b h1 with e|e
   ·exact .inr (.inl e)
   ·exact .inr (.inr e)
  ·exact .inr (.inr (zG h.fr.size h1))
 ·rcases k.own id blk d with h1|h1
  ·exact m _ h1
  ·exact .inr (zG h.fr.size h1)
 ·refine h.fr.trans k.fr fun b d h1=>?_
  rcases m b h1 with e|e
  ·exact e
  ·omega
theorem Inv.same{P:Program}{w w':World}{S:Nat->Prop}{G:Nat->GI}{Y:Hp}{Z:Nat}(h:Inv P w S G Y Z)(c:w'.heap=w.heap):Inv P w' S G Y Z:=by
 have d:∀b,S b->S b/\w'.heap[b]?=w.heap[b]?:=fun b a=>⟨a,by rw[c]⟩
 exact⟨fun b a=>by rw[c];exact h.st b a,h.top,fun id b a=>(h.live id b a).mono d (zl _) (fun _ _=>rfl) (by rw[c]),h.apart,h.inj,h.oa.mono d⟩
theorem vA.drew{P:Program}{Y:Hp}{Z:Nat}{S:Nat->Prop}{G:Nat->GI}{w:World}(h:Inv P w S G Y Z):vA dr P Y Z S G w Y Z S G w.drew:=
 ⟨h.same rfl,zl _,fun _ _=>rfl,fun _ h=>h,fun _ h=>.inl h,fun id blk a=>.inl ⟨id,blk,a,rfl⟩,Fr.drew _ _⟩
theorem vA.alloc{P:Program}{Y:Hp}{Z:Nat}{S:Nat->Prop}{G:Nat->GI}{w:World}(h:Inv P w S G Y Z)(d:Array Value)(e:TypeId)(q:Bool)(es:List zb)(s:Nat)(B:0<s)
  (C:(P.info? e).map (·.size)=some s) (v:∀c∈es,c.length=s) (x:es.length*s<=d.size)
  (y:∀(i j:Nat) (c:zb) (z:O),es[i]?=some c->c[j]?=some z->∃u,d[i*s+j]?=some u/\jN w S G Z q z u) :
  vA dr P Y Z S G w (qR Y Z (some ⟨e,s,q,es⟩)) (Z+1) S (qR G Z ⟨w.heap.size,d.size,s⟩) (w.alloc (.cells d e)):=by
 have m:∀b,b<w.heap.size->(w.alloc (.cells d e)).heap[b]?=w.heap[b]?:=fun b a=>Below.heap_alloc w _ b a
 have D:∀b,S b->S b/\(w.alloc (.cells d e)).heap[b]?=w.heap[b]?:=fun b a=>⟨a,m b (h.st b a)⟩
 have p:∀id,id<Z->qR G Z ⟨w.heap.size,d.size,s⟩ id=G id:=fun id hid=>wM _ _ _ _ (by omega)
 have f:∀id,id≠Z->qR Y Z (some ⟨e,s,q,es⟩) id=Y id:=fun id hid=>wM _ _ _ _ hid
 have n:(w.alloc (.cells d e)).heap.size=w.heap.size+1:=by show(w.heap.push _).size=_;simp
 have r:∀id b,Y id=some b->(G id).g<w.heap.size:=fun id b a=>(h.live id b a).lt
 refine⟨⟨fun b a=>by rw[n];have:=h.st b a;omega,fun id b a=>?_,fun id b a=>?_,fun id b a=>?_,fun id id' b A a l t=>?_,h.oa.mono D⟩,by omega,p,fun _ a=>a,fun _ a=>.inl a,fun id b a=>?_,⟨rfl,rfl,rfl,by rw[n];omega,fun _=>zl _,fun k E _=>m k E⟩⟩
 ·by_cases hid:id=Z
  ·omega
  ·rw[f id hid]at a;have:=h.top id b a;omega
 ·by_cases hid:id=Z
  ·subst hid;simp only[yd]at a⊢;injection a with a
   subst a;refine .xz B rfl ⟨C,v,x,d,heap_alloc_new w _,rfl,fun i j c z hi F=>?_⟩;obtain⟨u,H,I⟩:=y i j c z hi F;exact⟨u,H,I.mono D (by omega) p⟩
  ·rw[f id hid]at a;have J:=h.top id b a;rw[p id J];exact(h.live id b a).mono D (by omega) p (m _ (r id b a))
 ·by_cases hid:id=Z
  ·subst hid;simp only[yd];intro hs;have:=h.st _ hs;omega
  ·rw[f id hid]at a;rw[p id (h.top id b a)];exact h.apart id b a
 ·by_cases hid:id=Z<;>by_cases o:id'=Z
  ·omega
  ·subst hid;rw[f id' o]at l;rw[p id' (h.top id' A l)]at t;have:=r id' A l;simp at t;omega
  ·subst o;rw[f id hid]at a;rw[p id (h.top id b a)]at t;have:=r id b a;simp at t;omega
  ·rw[f id hid]at a;rw[f id' o]at l;rw[p id (h.top id b a),p id' (h.top id' A l)]at t;exact h.inj id id' b A a l t
 ·by_cases hid:id=Z
  ·subst hid;simp
  ·rw[f id hid]at a;rw[p id (h.top id b a)];exact .inl ⟨id,b,a,rfl⟩
theorem vA.set{P:Program}{Y:Hp}{Z:Nat}{S:Nat->Prop}{G:Nat->GI}{w:World}(h:Inv P w S G Y Z){id:Nat}{b:kV}(hid:Y id=some b)(n:0<(G id).s)(f:Array Value)(es:List zb)
  (H:f.size=(G id).z) (o:∀c∈es,c.length=(G id).s) (p:es.length*(G id).s<=(G id).z)
  (q:∀(i j:Nat) (c:zb) (t:O),es[i]?=some c->c[j]?=some t->∃u,f[i*(G id).s+j]?=some u/\jN w S G Z b.arr t u) :
  vA dr P Y Z S G w (qR Y id (some ⟨b.e,b.s,b.arr,es⟩)) Z S G (w.setRow (G id).g f):=by
 have l:∀k,k≠(G id).g->(w.setRow (G id).g f).heap[k]?=w.heap[k]?:=fun k d=>setRow_other w _ k _ d
 have v:∀b,S b->S b/\(w.setRow (G id).g f).heap[b]?=w.heap[b]?:=fun k d=>⟨d,l k fun e=>h.apart id b hid (e ▸ d)⟩
 have m:∀k,k≠id->qR Y id (some ⟨b.e,b.s,b.arr,es⟩) k=Y k:=fun k d=>wM _ _ _ _ d
 obtain⟨x,r,I,_⟩:=(h.live id b hid).row n;refine⟨⟨fun k d=>by rw[setRow_size];exact h.st k d,fun k c d=>?_,fun k c d=>?_,fun k c d=>?_,fun k E c y d A J=>?_,h.oa.mono v⟩,zl _,fun _ _=>rfl,fun _ B=>B,fun _ B=>.inl B,fun k c d=>?_,⟨rfl,rfl,rfl,by simp,fun _=>zl _,fun k _ K=>l k fun e=>K ⟨id,b,hid,e.symm⟩⟩⟩
 ·by_cases a:k=id
  ·subst a;exact h.top _ b hid
  ·rw[m k a]at d;exact h.top k c d
 ·by_cases a:k=id
  ·subst a;simp only[yd]at d;injection d with d
   subst d;refine .xz n (h.live _ b hid).bs ⟨(h.live _ b hid).size n,o,p,f,setRow_heap w _ x _ _ _ r,H,fun i j c t hi L=>?_⟩;obtain⟨u,C,D⟩:=q i j c t hi L;exact⟨u,C,D.mono v (zl _) (fun _ _=>rfl)⟩
  ·rw[m k a]at d;exact(h.live k c d).mono v (zl _) (fun _ _=>rfl) (l _ fun e=>a (h.inj k id c b d hid e))
 ·by_cases a:k=id
  ·subst a;exact h.apart _ b hid
  ·rw[m k a]at d;exact h.apart k c d
 ·have F:∀k c,qR Y id (some ⟨b.e,b.s,b.arr,es⟩) k=some c->∃y,Y k=some y:=by
   intro k c d;by_cases a:k=id
   ·subst a;exact⟨b,hid⟩
   ·rw[m k a]at d;exact⟨c,d⟩
  obtain⟨M,C⟩:=F k c d;obtain⟨N,D⟩:=F E y A;exact h.inj k E M N C D J
 ·by_cases a:k=id
  ·subst a;exact .inl ⟨_,b,hid,rfl⟩
  ·rw[m k a]at d;exact .inl ⟨k,c,d,rfl⟩
theorem vA.kill{P:Program}{Y:Hp}{Z:Nat}{S:Nat->Prop}{G:Nat->GI}{w:World}(h:Inv P w S G Y Z){id:Nat}{b:kV}(hid:Y id=some b) :
  vA dr P Y Z S G w (qR Y id none) Z (fun k=>S k\/k=(G id).g) G w:=by
 have i:∀k,S k->(S k\/k=(G id).g)/\w.heap[k]?=w.heap[k]?:=fun k a=>⟨.inl a,rfl⟩
 have d:∀k c,qR Y id none k=some c->k≠id/\Y k=some c:=by
  intro k c a;by_cases e:k=id
  ·subst e;simp at a
  ·rw[wM _ _ _ _ e]at a;exact⟨e,a⟩
 refine⟨⟨fun k a=>?_,fun k c a=>h.top k c (d k c a).2,fun k c a=>(h.live k c (d k c a).2).mono i (zl _) (fun _ _=>rfl) rfl,fun k c a=>?_,fun k j c l a f he=>h.inj k j c l (d k c a).2 (d j l f).2 he,h.oa.mono i⟩,
  zl _,fun _ _=>rfl,fun _ m=>.inl m,fun k a=>?_,fun k c a=>.inl ⟨k,c,(d k c a).2,rfl⟩,Fr.refl _ _⟩
 ·rcases a with a|rfl
  ·exact h.st k a
  ·exact(h.live id b hid).lt
 ·rintro (hs|he)
  ·exact h.apart k c (d k c a).2 hs
  ·exact(d k c a).1 (h.inj k id c b (d k c a).2 hid he)
 ·rcases a with a|rfl
  ·exact .inl a
  ·exact .inr (.inl ⟨id,b,hid,rfl⟩)
theorem Ix{P:Program}{Y:Hp}{Z:Nat}{S:Nat->Prop}{G:Nat->GI}{w:World}(h:Inv P w S G Y Z){id off n cap:Nat}{b:kV}(hid:Y id=some b)(m:0<(G id).s)(o:b.arr=true)(N:off+n<=b.es.length)
  (E:n<=cap) (p:cap<=maxLen) (x:Nat->Prop) (F:∀k,S k->x k) (H:x (G id).g) :
  yb w x (.sl b.s ((b.es.drop off).take n)) (.slice (some ⟨(G id).g,off*(G id).s,none⟩) n cap):=by
 have A:=h.live id b hid;obtain⟨q,I,Q,J⟩:=A.row m;have K:((b.es.drop off).take n).length=n:=by simp;omega
 have r:∀(i:Nat) (c:zb),((b.es.drop off).take n)[i]?=some c->b.es[off+i]?=some c:=by
  intro i c hi;rw[qN]at hi;split at hi
  ·rwa [wc]at hi
  ·cases hi
 have l:∀(i j:Nat),∃u,∀(c:zb) (a:O),((b.es.drop off).take n)[i]?=some c->c[j]?=some a->q[(off+i)*(G id).s+j]?=some u/\jN w S G Z b.arr a u:=by
  intro i j;by_cases y:∃c a,((b.es.drop off).take n)[i]?=some c/\c[j]?=some a
  ·obtain⟨c,a,hi,f⟩:=y;obtain⟨u,z,t⟩:=J (off+i) j c a (r i c hi) f;refine⟨u,fun R L d e=>?_⟩;rw[hi]at d;injection d with d;subst d;rw[f]at e;injection e with e;subst e;exact⟨z,t⟩
  ·exact⟨undef,fun c a hi f=>(y ⟨c,a,hi,f⟩).elim⟩
 rw[A.bs];have B:yb w x (.sl (G id).s ((b.es.drop off).take n)) (.slice (some ⟨(G id).g,off*(G id).s,none⟩) ((b.es.drop off).take n).length cap):=by
  refine .sl (s:=(G id).s) (fun i j=>Classical.choose (l i j)) (by simp) (by omega) p (fun c y=>A.len m c (YP _ _ (XB _ _ y))) (fun i j c a hi f=>?_) (fun i j c a hi f=>?_)
  ·obtain⟨z,t⟩:=jT (l i j) c a hi f;refine⟨_,rfl,H,?_,t.2.2⟩;have v:(⟨(G id).g,off*(G id).s,none⟩:Addr).add (i*(G id).s+j)=⟨(G id).g,(off+i)*(G id).s+j,none⟩:=by
    unfold Addr.add;split
    ·rename_i T;have C:i*(G id).s=0:=by omega
     have D:j=0:=by omega
     simp[q7,C,D]
    ·simp[q7];omega
   rw[v,zga w _ _ q _ _ I];exact z
  ·obtain⟨z,t⟩:=jT (l i j) c a hi f;exact(t.1 o).mono fun k M=>⟨F k M,rfl⟩
 rwa [K]at B
theorem Marks.step{P:Program}{i:Nat}{Y j:Hp}{Z o:Nat}{S l:Nat->Prop}{G m:Nat->GI}{w w':World}{ds:List Deferred}(h:Marks i w S Y G ds)(k:vA dr P Y Z S G w j o l m w'):Marks i w' l j m ds:=by
 obtain⟨d,p,e,q,r⟩:=h;refine⟨zG d k.fr.size,p,e,q,fun D hd=>?_⟩;obtain⟨s,n,c,f⟩:=r D hd;have g:D<w.heap.size:=(qE.1 n).1;refine⟨s,(k.fr.block D g fun⟨id,b,a,e⟩=>f id b a e).trans n,fun hs=>?_,fun id b a e=>?_⟩
 ·rcases k.from_ D hs with h|⟨id,b,a,e⟩|h
  ·exact c h
  ·exact f id b a e
  ·omega
 rcases k.own id b a with⟨id',t,c,u⟩|c
 ·exact f id' t c (u.trans e)
 ·omega
theorem YT.step{P:Program}{l:World}{n L:Nat->Prop}{N Z0:Nat}{o:Nat->GI}{p:Nat}{st:St}{S g:Nat->Prop}{G i:Nat->GI}{a:Act}{w w':World}{q:Hp}{j:Nat}{x:O}{u:Value}{dst:Option Tmp}
  (h:YT dr P l n L N Z0 o p st S G a w) (k:vA dr P st.Y st.Z S G w q j g i w') (r:qx w' g i j x u) (hd:∀d,dst=some d->d<N) :
  YT dr P l n L N Z0 o p ⟨put st.U dst x,q,j⟩ g i (a.put dst u) w':=by
 have s:=k.same h.inv;have m:∀b,vo st.Y G b->L b\/l.heap.size<=b:=by rintro b ⟨id,blk,h1,rfl⟩;exact h.own id blk h1
 refine⟨k.inv,fun t=>?_,?_,?_,fun b f=>k.keep b (h.s0 b f),fun b f=>?_,fun id blk f=>?_,?_,zG h.up k.up,fun id hid=>(k.loc id (jF hid h.up)).trans (h.loc id hid)⟩
 ·have c:qx w' g i j (st.U t) (a.tmps.getD t undef):=(h.xO t).mono s k.up k.loc;cases dst with
  |none=>exact c
  |some d=>
   show qx w' g i j (qR st.U d x t) ((a.tmps.setIfInBounds d u).getD t undef);by_cases e:t=d
   ·subst e;have:t<a.tmps.size:=by rw[h.size];exact hd t rfl
    simpa[qR,this]using r
   ·have v:¬d=t:=fun h=>e h.symm
    simp only[qR,e,qJ];have:(a.tmps.setIfInBounds d u).getD t undef=a.tmps.getD t undef:=by simp[lE v]
    rw[this];exact c
 ·cases dst with
  |none=>exact h.size
  |some d=>show(a.tmps.setIfInBounds d u).size=N;simp[h.size]
 ·cases dst<;>exact h.defers.step k
 ·rcases k.from_ b f with h1|h1|h1
  ·exact h.s1 b h1
  ·rcases m b h1 with h2|h2
   ·exact .inr (.inl h2)
   ·exact .inr (.inr h2)
  ·exact .inr (.inr (zG h.fr.size h1))
 ·rcases k.own id blk f with h1|h1
  ·exact m _ h1
  ·exact .inr (zG h.fr.size h1)
 ·refine h.fr.trans k.fr fun b f h1=>?_
  rcases m b h1 with h2|h2
  ·exact h2
  ·omega
variable{dr:Prop}
section
variable{P:Program}{w:World}{S:Nat->Prop}{G:Nat->GI}{Y:Hp}{Z:Nat}
theorem yb.yq{x u:Value}(h:yb w S (.v x) u):u=x/\lit x=true:=by cases h;exact⟨rfl,‹_›⟩
theorem qx.yq{x u:Value}(h:qx w S G Z (.v x) u):u=x/\lit x=true:=by
 cases h with
 |c h=>exact h.yq
theorem qx.ZV{u:Value}(h:qx w S G Z .nil u):u=.slice none 0 0:=by
 cases h with
 |c h=>cases h;rfl
theorem qx.sN{u:Value}(h:qx w S G Z .em u):∃ad cap,u=.slice (some ad) 0 cap/\cap<=maxLen:=by
 cases h with
 |c h=>cases h;exact⟨_,_,rfl,‹_›⟩
theorem qx.eo{s:Nat}{es:List zb}{u:Value}(h:qx w S G Z (.sl s es) u):yb w S (.sl s es) u:=by
 cases h with
 |c h=>exact h
theorem qx.XF{cs:zb}{u:Value}(h:qx w S G Z (.ptr cs) u):yb w S (.ptr cs) u:=by
 cases h with
 |c h=>exact h
theorem qx.xA{id off n:Nat}{u:Value}(h:qx w S G Z (.own id off n) u):∃cap,id<Z/\n<=cap/\cap<=maxLen/\(off+cap)*(G id).s=(G id).z/\u=.slice (some ⟨(G id).g,off*(G id).s,none⟩) n cap:=by
 cases h with
 |c h=>cases h
 |own a b d e _=>exact⟨_,a,b,d,e,rfl⟩
theorem qx.Za{id off n:Nat}{u:Value}(h:qx w S G Z (.own id off n) u):0<(G id).s:=by
 cases h with
 |c h=>cases h
 |own _ _ _ _ a=>exact a
theorem qx.JC{id i j:Nat}{u:Value}(h:qx w S G Z (.ref id i j) u):id<Z/\u=.pointer (some ⟨(G id).g,i*(G id).s+j,none⟩):=by
 cases h with
 |c h=>cases h
 |ref a _=>exact⟨a,rfl⟩
theorem qx.gC{id i j:Nat}{u:Value}(h:qx w S G Z (.ref id i j) u):0<(G id).s:=by
 cases h with
 |c h=>cases h
 |ref _ a=>exact a
theorem qx.zb7{id:Nat}{u:Value}(h:qx w S G Z (.mp id) u):id<Z/\(G id).s=0/\u=.map (some (G id).g):=by
 cases h with
 |c h=>cases h
 |mp a b=>exact⟨a,b,rfl⟩
theorem qx.Yt{cs:zb}{u:Value}(h:qx w S G Z (.agg cs) u):∃us:Array Value,u=.agg us/\cs.length=us.size/\∀(j:Nat) (d:O) (x:Value),cs[j]?=some d->us[j]?=some x->qx w S G Z d x:=by
 cases h with
 |c h=>cases h with
  |agg e f=>exact⟨_,rfl,e,fun j d x a b=>.c (f j d x a b)⟩
 |agg e f=>exact⟨_,rfl,e,f⟩
theorem qx.OC{cs:zb}{u:Value}(h:qx w S G Z (.wY cs) u):∃us:Array Value,u=.tuple us/\cs.length=us.size/\∀(j:Nat) (d:O) (x:Value),cs[j]?=some d->us[j]?=some x->qx w S G Z d x:=by
 cases h with
 |c h=>cases h with
  |wY e f=>exact⟨_,rfl,e,fun j d x a b=>.c (f j d x a b)⟩
 |wY e f=>exact⟨_,rfl,e,f⟩
theorem qx.DW{f:Fn}{xs ys:zb}{u:Value}(h:qx w S G Z (.fn f xs ys) u):∃us ts:Array Value,u=.func f us ts/\xs.length=us.size/\ys.length=ts.size /\
  (∀(j:Nat) (d:O) (x:Value),xs[j]?=some d->us[j]?=some x->qx w S G Z d x)/\∀(j:Nat) (d:O) (x:Value),ys[j]?=some d->ts[j]?=some x->qx w S G Z d x:=by
 cases h with
 |c h=>cases h with
  |fn e g i k=>exact⟨_,_,rfl,e,g,fun j d x a b=>.c (i j d x a b),fun j d x a b=>.c (k j d x a b)⟩
 |fn e g i k=>exact⟨_,_,rfl,e,g,i,k⟩
theorem kv:qx w S G Z (.wY []) undef:=.c (.wY rfl (by simp))
theorem og{x:Value}{a:O}(h:gL x=some a):yb w S a x/\x.oneCell'=true/\a.yo=true:=by
 unfold gL at h;split at h<;>first
  |(injection h with h;subst h;exact⟨.nil,rfl,rfl⟩)
  |(injection h with h;subst h;exact⟨.v rfl,rfl,rfl⟩)
  |cases h
theorem jJ:∀{l:List Value} {r:zb},xz l=some r->r.length=l.length/\(∀(j:Nat) (a:O) (u:Value),r[j]?=some a->l[j]?=some u->yb w S a u/\u.oneCell'=true/\a.yo=true)
 |[],r,h=>by simp[xz]at h;subst h;simp
 |x::l,r,h=>by
  simp only[xz]at h;split at h
  ·rename_i p q Y d;injection h with h
   subst h;obtain⟨e,f⟩:=jJ d;refine⟨by simp[e],fun j a u b c=>?_⟩;cases j with
   |zero=>simp at b c;subst b;subst c;exact og Y
   |succ j=>exact f j a u (by simpa using b) (by simpa using c)
  ·cases h
theorem lH{x:Value}{a:O}(h:nG x=some a):yb w S a x:=by
 unfold nG at h;split at h
 ·rename_i cs;cases b:xz cs.toList with
  |none=>simp[b]at h
  |some r=>simp[b]at h;subst h;obtain⟨c,d⟩:=jJ (w:=w) (S:=S) b;exact .agg (by simpa using c) (fun j a u e f=>(d j a u e (by simpa using f)).1)
 ·exact(og h).1
theorem Q4{U:Nat->O}{a:Act}(hs:∀t,qx w S G Z (U t) (a.tmps.getD t undef)){y:Operand}{b:O}(h:get U y=some b):qx w S G Z b (a.eval y):=by
 cases y with
 |tmp t=>simp[get]at h;subst h;exact hs t
 |const x=>exact .c (lH h)
 |global g=>simp[get]at h
 |func f=>simp[get]at h;subst h;exact .c (.fn rfl rfl (by simp) (by simp))
theorem gN{y:O}{u:Value}(h:qx w S G Z y u)(a:y.cells.all O.yo=true):y.cells.length=u.cells.size/\∀(j:Nat) (d:O) (c:Value),y.cells[j]?=some d->u.cells[j]?=some c->qx w S G Z d c/\c.oneCell'=true:=by
 by_cases e:∃cs,y=.agg cs
 ·obtain⟨cs,rfl⟩:=e;obtain⟨us,rfl,k,l⟩:=h.Yt;refine⟨k,fun j d c b f=>?_⟩;have g:=l j d c b f;refine⟨g,g.XE ?_⟩;simp only[O.cells]at a b;exact ql.1 a d (zM b)
 ·have m:y.cells=[y]:=by cases y<;>first|rfl|exact(e ⟨_,rfl⟩).elim
  rw[m]at a⊢;have hi:y.yo=true:=by simpa using a
  have i:=h.XE hi;have f:u.cells=#[u]:=by cases u<;>first|rfl|simp[Value.oneCell']at i
  rw[f];refine⟨rfl,fun j d c b a=>?_⟩;cases j with
  |zero=>simp at b a;subst b;subst a;exact⟨h,i⟩
  |succ j=>simp at b
def Ww(dr:Prop)(P:Program)(w:World)(Y:Hp)(Z:Nat)(S:Nat->Prop)(G:Nat->GI)(x:O)(d:Hp)(a:Nat)(r:Result Value):Prop:=
 ∃v w' b c,r=.ok v w'/\vA dr P Y Z S G w d a b c w'/\qx w' b c a x v
theorem qK(hi:Inv P w S G Y Z){x:O}{v:Value}{r:Result Value}(a:r=.ok v w)(b:qx w S G Z x v):Ww dr P w Y Z S G x Y Z r:=⟨v,w,S,G,a,.refl hi,b⟩
theorem Jo{t:TypeId}{n:Nat}(h:qF P t=some n):∃i,P.info? t=some i/\i.size=n:=by
 unfold qF at h;cases hi:P.info? t with
 |none=>simp[hi]at h
 |some i=>exact⟨i,rfl,by simpa[hi]using h⟩
theorem yx{t:TypeId}{n:Nat}(h:qF P t=some n)(w:World):(sizeOf t).run P w=.ok n w:=by obtain⟨i,hi,rfl⟩:=Jo h;simp[sizeOf,typeInfo,hi]
theorem Zf{t:TypeId}{b:Bool}(h:wT P t=some b)(w:World):(isAgg t).run P w=.ok b w:=by
 unfold wT at h;cases a:P.underlying t with
 |none=>simp[a]at h
 |some d=>simp[a]at h;subst h;unfold isAgg;rw[xL,zO a w];cases d<;>rfl
theorem Q5{t:TypeId}{z:zb}(h:yN P t=some z):∃i v,P.info? t=some i/\i.zero=some v/\xz v.cells.toList=some z:=by
 unfold yN at h;cases hi:P.info? t with
 |none=>simp[hi]at h
 |some i=>
  cases a:i.zero with
  |none=>simp[hi,a]at h
  |some v=>exact⟨i,v,rfl,a,by simpa[hi,a]using h⟩
theorem Yf{t:TypeId}{i:TypeInfo}{v:Value}(hi:P.info? t=some i)(a:i.zero=some v)(w:World):(zeroValue t).run P w=.ok v w:=by simp[zeroValue,typeInfo,hi,a]
theorem Iy(hi:Inv P w S G Y Z){t:TypeId}{n:Nat}{z:zb}(hs:qF P t=some n)(m:yN P t=some z)(f:0<n)(d:z.length=n) :
  Ww dr P w Y Z S G (.ref Z 0 0) (qR Y Z (some ⟨t,n,false,[z]⟩)) (Z+1) ((Instr.alloc t true (.tuple #[])).run P w):=by
 obtain⟨i,v,o,p,q⟩:=Q5 m;obtain⟨r,s⟩:=jJ (w:=w) (S:=S) q;have e:(P.info? t).map (·.size)=some n:=hs;have a:v.cells.size=n:=by rw[<-d,r];simp
 have k:=vA.alloc (dr:=dr) hi v.cells t false [z] n f e (by simp[d]) (by simp[a]) (fun i j c u hi g=>by
  cases i with
  |succ i=>simp at hi
  |zero=>
   simp at hi;subst hi;have b:j<v.cells.size:=by rw[a,<-d];exact(zn.1 g).1
   refine⟨v.cells[j],by simp[b],?_⟩;have l:=s j u v.cells[j] g (by simp[b]);exact⟨fun h=>(by cases h),.c l.1,l.2.1⟩)
 refine⟨.pointer (some ⟨w.heap.size,0,none⟩),_,_,_,?_,k,?_⟩
 ·simp[Instr.alloc,Yf o p,newVar,newRow]
 ·have:=qx.ref (w:=w.alloc (.cells v.cells t)) (S:=S) (G:=qR G Z ⟨w.heap.size,v.cells.size,n⟩) (Z:=Z+1) (id:=Z) (i:=0) (j:=0) (by omega) (by simpa using f);simpa using this
theorem Tf(hi:Inv P w S G Y Z){t:TypeId}{n:Nat}{y:O}{u:Value}(hs:qF P t=some n)(m:qx w S G Z y u)(d:0<n)(e:y.cells.length=n)(o:y.cells.all O.yo=true) :
  Ww dr P w Y Z S G (.ref Z 0 0) (qR Y Z (some ⟨t,n,false,[y.cells]⟩)) (Z+1) ((Instr.box t u).run P w):=by
 obtain⟨f,p⟩:=gN m o;have b:u.cells.size=n:=by rw[<-f,e]
 have k:=vA.alloc (dr:=dr) hi u.cells t false [y.cells] n d hs (by simp[e]) (by simp[b]) (fun i j c q hi g=>by
  cases i with
  |succ i=>simp at hi
  |zero=>
   simp at hi;subst hi;have a:j<u.cells.size:=by rw[<-f];exact(zn.1 g).1
   refine⟨u.cells[j],by simp[a],?_⟩;have l:=p j q u.cells[j] g (by simp[a]);exact⟨fun h=>(by cases h),l.1,l.2⟩)
 refine⟨.pointer (some ⟨w.heap.size,0,none⟩),_,_,_,?_,k,?_⟩
 ·simp[Instr.box,newVar,newRow]
 ·have:=qx.ref (w:=w.alloc (.cells u.cells t)) (S:=S) (G:=qR G Z ⟨w.heap.size,u.cells.size,n⟩) (Z:=Z+1) (id:=Z) (i:=0) (j:=0) (by omega) (by simpa using d);simpa using this
theorem bn{t:TypeId}{cs:zb}{x:O}(h:zL P t cs=some x)(ad:Addr)(us:Nat->Value)(d:∀(j:Nat) (c:O),cs[j]?=some c->w.cell? (ad.add j)=some (us j)/\qx w S G Z c (us j)) :
  ∃v,(loadVar t ad).run P w=.ok v w/\qx w S G Z x v:=by
 unfold zL at h;split at h
 ·rename_i n e hs;split at h
  ·rename_i g;injection h with h
   subst h;have i:(loadCells ad n).run P w=.ok ((List.range n).map us).toArray w:=by
    have:=run_loadCells_list (P:=P) w ad ((List.range n).map us) (fun j v a=>by
     have b:j<n:=by simpa using(zn.1 a).1
     have Y:=d j (cs[j]'(by omega)) (zq (by omega));rw[Y.1];rw[qQ,v8 b]at a;simpa using a)
    simpa using this
   refine⟨.agg ((List.range n).map us).toArray,?_,.agg ?_ ?_⟩
   ·simp[loadVar,Zf e,yx hs,i]
   ·simp;omega
   ·intro j c u a f;rw[qN]at a;split at a
    ·rename_i b;have:=(d j c a).2;simp[b]at f;rwa [<-f]
    ·cases a
  ·cases h
 ·rename_i n e hs;have:=d 0 x h;refine⟨us 0,?_,this.2⟩;have k:ad.add 0=ad:=rfl;rw[k]at this;simp[loadVar,Zf e,this.1]
 ·cases h
theorem uw(hi:Inv P w S G Y Z){t:TypeId}{p x:O}{u:Value}(h:Zm P Y t p=some x)(l:qx w S G Z p u):Ww dr P w Y Z S G x Y Z ((Instr.loadAt t u).run P w):=by
 unfold Zm at h;split at h
 ·rename_i cs;cases l.XF with
  |ptr us m r=>obtain⟨v,n,o⟩:=bn (G:=G) (Z:=Z) (w:=w) (S:=S) h _ us (fun j f y=>⟨(m j f y).2,.c (r j f y)⟩);exact qK hi (v:=v) (by simp[Instr.loadAt,Instr.sureAddr,n]) o
 ·rename_i id i j;have q:=l.gC;obtain⟨hid,rfl⟩:=l.JC;split at h
  ·rename_i b A;split at h
   ·rename_i c B;obtain⟨a,m,r,C⟩:=(hi.live id b A).row q;have d:∀k:Nat,w.cell? ((⟨(G id).g,i*(G id).s+j,none⟩:Addr).add k)=a[i*(G id).s+j+k]?:=by intro k;rw[kq,zga w _ _ a _ _ m]
    obtain⟨v,n,o⟩:=bn (G:=G) (Z:=Z) (w:=w) (S:=S) h ⟨(G id).g,i*(G id).s+j,none⟩ (fun k=>(a[i*(G id).s+j+k]?).getD undef) (fun k f z=>by
     rw[wc]at z;obtain⟨u,D,E⟩:=C i (j+k) c f B z;rw[d];have e:i*(G id).s+j+k=i*(G id).s+(j+k):=by omega
     rw[e,D];exact⟨rfl,E.2.1⟩)
    exact qK hi (v:=v) (by simp[Instr.loadAt,Instr.sureAddr,n]) o
   ·cases h
  ·cases h
 ·cases h
end
variable{dr:Prop}
section
variable{P:Program}{w:World}{S:Nat->Prop}{G:Nat->GI}{Y:Hp}{Z:Nat}
def Zip{α a:Type}(R:α->a->Prop)(xs:List α)(us:List a):Prop:=xs.length=us.length/\∀(j:Nat) (x:α) (u:a),xs[j]?=some x->us[j]?=some u->R x u
theorem Zip.nil{α a:Type}{R:α->a->Prop}:Zip R [] ([]:List a):=⟨rfl,by simp⟩
theorem Zip.cons{α a:Type}{R:α->a->Prop}{x:α}{u:a}{xs:List α}{us:List a}(h:R x u)(t:Zip R xs us):Zip R (x::xs) (u::us):=by
 refine⟨by simp[t.1],fun j y v b c=>?_⟩;cases j with
 |zero=>simp at b c;subst b;subst c;exact h
 |succ j=>exact t.2 j y v (by simpa using b) (by simpa using c)
theorem Zip.kc{α b:Type}{R:α->b->Prop}{x:α}{xs:List α}{us:List b}(h:Zip R (x::xs) us):∃u a,us=u::a/\R x u/\Zip R xs a:=by
 cases us with
 |nil=>have:=h.1;simp at this
 |cons u a=>refine⟨u,a,rfl,h.2 0 x u rfl rfl,by have:=h.1;simpa using this,fun j y v c d=>h.2 (j+1) y v (by simpa using c) (by simpa using d)⟩
theorem Zip.YU{α a:Type}{R:α->a->Prop}{us:List a}(h:Zip R ([]:List α) us):us=[]:=Ze h.1.symm
theorem Zip.imp{α c:Type}{R d:α->c->Prop}{xs:List α}{us:List c}(h:Zip R xs us)(e:∀x u,R x u->d x u):Zip d xs us:=⟨h.1,fun j x u a b=>e x u (h.2 j x u a b)⟩
theorem Yv{h:Hp}{i k:Nat}{b:kV}(a:qR h i none k=some b):h k=some b:=by
 unfold qR at a;split at a
 ·cases a
 ·exact a
theorem ux{x:O}{u:Value}(h:qx w S G Z x u)(hs:x.Jk=true):yb w S x u:=by
 cases x with
 |v y=>obtain⟨rfl,a⟩:=h.yq;exact .v a
 |nil=>rw[h.ZV];exact .nil
 |em=>obtain⟨ad,cap,rfl,b⟩:=h.sN;exact .em b
 |sl s es=>exact h.eo
 |ptr cs=>exact h.XF
 |_=>simp[O.Jk]at hs
theorem D9{x:O}{u:Value}(h:qx w S G Z x u)(hs:x.shut=true):yb w S x u:=by
 cases x with
 |agg cs=>obtain⟨us,rfl,d,e⟩:=h.Yt;exact .agg d fun j c y a b=>ux (e j c y a b) (ql.1 hs c (zM a))
 |_=>exact ux h hs
theorem K5(hi:Inv P w S G Y Z){x y:O}{Y1:Hp}{u:Value}(h:yf Y x=some (y,Y1))(d:qx w S G Z x u) :
  ∃g,vA dr P Y Z S G w Y1 Z g G w/\yb w g y u/\(x.v7=false->g=S):=by
 have c:∀{m:O} {o:Hp},some (x,Y)=some (m,o)->yb w S x u->∃g,vA dr P Y Z S G w o Z g G w/\yb w g m u/\(x.v7=false->g=S):=by
  intro m o e z;injection e with e
  injection e with A B;subst A;subst B;exact⟨S,.refl hi,z,fun _=>rfl⟩
 unfold yf at h;split at h
 ·rename_i id off n;split at h
  ·rename_i b s;split at h
   ·rename_i i;injection h with h
    injection h with p q;subst p;subst q;obtain⟨cap,t,r,C,H,rfl⟩:=d.xA;exact⟨_,vA.kill hi s,Ix hi s d.Za i.1 i.2 r C _ (fun k D=>.inl D) (.inr rfl),fun h=>by simp[O.v7]at h⟩
   ·cases h
  ·cases h
 ·obtain⟨rfl,E⟩:=d.yq;exact c h (.v E)
 ·have:=d.ZV;subst this;exact c h .nil
 ·exact c h d.eo
 ·obtain⟨ad,cap,rfl,F⟩:=d.sN;exact c h (.em F)
 ·exact c h d.XF
 ·rename_i f xs ys;split at h
  ·rename_i i;obtain⟨us,ts,rfl,p,q,t,r⟩:=d.DW;exact c h (.fn p q (fun j l y a b=>D9 (t j l y a b) (ql.1 i.1 l (zM a))) (fun j l y a b=>D9 (r j l y a b) (ql.1 i.2 l (zM a))))
  ·cases h
 ·cases h
theorem Ki{Y Y1:Hp}{x y:O}(h:yf Y x=some (y,Y1)):y.yo=true:=by
 unfold yf at h;split at h<;>(try (split at h))<;>(try (split at h))<;>first
  |(injection h with h;injection h with a b;subst a;rfl)
  |cases h
theorem Kj:∀{xs ys:zb} {Y Y1:Hp} {S:Nat->Prop} {us:List Value} (_:Inv P w S G Y Z),wV Y xs=some (ys,Y1)->Zip (qx w S G Z) xs us ->
  ∃b,vA dr P Y Z S G w Y1 Z b G w/\Zip (yb w b) ys us/\ys.all O.yo=true/\(xs.any O.v7=false->b=S)
 |[],ys,Y,Y1,S,us,hi,h,c=>by
  simp only[wV]at h;injection h with h
  injection h with f g;subst f;subst g;rw[c.YU];exact⟨S,.refl hi,.nil,rfl,fun _=>rfl⟩
 |x::l,ys,Y,Y1,S,us,hi,h,c=>by
  simp only[wV]at h;split at h
  ·rename_i y f i;split at h
   ·rename_i r g k;injection h with h
    injection h with m n;subst m;subst n;obtain⟨u,o,rfl,p,d⟩:=c.kc;obtain⟨q,a,s,n1⟩:=K5 (dr:=dr) hi i p;have t:=a.same hi;obtain⟨v,j,z,A,B⟩:=Kj (S:=q) a.inv k (d.imp fun x u C=>C.mono t (zl _) (fun _ _=>rfl));refine⟨v,a.trans j,.cons (s.mono (j.same a.inv)) z,by simp[A,Ki i],fun e=>?_⟩;simp only[wN,wZ]at e;rw[B e.2,n1 e.1]
   ·cases h
  ·cases h
theorem vL(hi:Inv P w S G Y Z){x y:O}{Y1:Hp}{u:Value}(h:qH Y x=some (y,Y1))(g:qx w S G Z x u) :
  ∃d,vA dr P Y Z S G w Y1 Z d G w/\yb w d y u/\y.cells.all O.yo=true/\(x.noOwn=true->d=S):=by
 unfold qH at h;split at h
 ·rename_i cs;split at h
  ·rename_i l Y2 i;injection h with h
   injection h with m n;subst m;subst n;obtain⟨us,rfl,o,p⟩:=g.Yt;obtain⟨d,k,z,q,e⟩:=Kj (us:=us.toList) hi i ⟨by simpa using o,fun j f x a b=>p j f x a (by simpa using b)⟩;exact⟨d,k,.agg (by have:=z.1;simpa using this) (fun j f x a b=>z.2 j f x a (by simpa using b)),q,fun h=>e (by simpa[O.noOwn]using h)⟩
  ·cases h
 ·obtain⟨d,k,c,e⟩:=K5 hi h g;refine⟨d,k,c,?_,fun r=>e ?_⟩
  ·have:=Ki h;cases y<;>simp_all[O.cells,O.yo]
  ·cases x<;>simp_all[O.noOwn,O.v7]
theorem kx:∀{xs ys:zb} {Y Y1:Hp} {S:Nat->Prop} {us:List Value} (_:Inv P w S G Y Z),zv Y xs=some (ys,Y1)->Zip (qx w S G Z) xs us ->
  ∃b,vA dr P Y Z S G w Y1 Z b G w/\Zip (yb w b) ys us/\(xs.all O.noOwn=true->b=S)
 |[],ys,Y,Y1,S,us,hi,h,c=>by
  simp only[zv]at h;injection h with h
  injection h with f g;subst f;subst g;rw[c.YU];exact⟨S,.refl hi,.nil,fun _=>rfl⟩
 |x::l,ys,Y,Y1,S,us,hi,h,c=>by
  simp only[zv]at h;split at h
  ·rename_i y f j;split at h
   ·rename_i r g k;injection h with h
    injection h with m n;subst m;subst n;obtain⟨u,o,rfl,p,d⟩:=c.kc;obtain⟨q,a,s,_,n1⟩:=vL (dr:=dr) hi j p;have t:=a.same hi;obtain⟨v,i,z,A⟩:=kx (S:=q) a.inv k (d.imp fun x u B=>B.mono t (zl _) (fun _ _=>rfl));refine⟨v,a.trans i,.cons (s.mono (i.same a.inv)) z,fun e=>?_⟩;simp only[q8,zH]at e;rw[A e.2,n1 e.1]
   ·cases h
  ·cases h
theorem Jp(hi:Inv P w S G Y Z){x y:O}{Y1:Hp}{u:Value}(h:freeze Y x=some (y,Y1))(f:qx w S G Z x u) :
  ∃d,vA dr P Y Z S G w Y1 Z d G w/\yb w d y u:=by
 unfold freeze at h;split at h
 ·rename_i cs;split at h
  ·rename_i l Y2 g;injection h with h
   injection h with i m;subst i;subst m;obtain⟨us,rfl,n,o⟩:=f.OC;obtain⟨d,k,z,_⟩:=kx (us:=us.toList) hi g ⟨by simpa using n,fun j e x a b=>o j e x a (by simpa using b)⟩;exact⟨d,k,.wY (by have:=z.1;simpa using this) (fun j e x a b=>z.2 j e x a (by simpa using b))⟩
  ·cases h
 ·obtain⟨d,k,c,_⟩:=vL hi h f;exact⟨d,k,c⟩
theorem YW:∀(l cs:zb) (off:Nat),(jz cs off l).length=cs.length
 |[],cs,off=>rfl
 |x::l,cs,off=>by simp[jz,YW l]
theorem VM:∀(l cs:zb) (off k:Nat),off+l.length<=cs.length->(jz cs off l)[k]?=if off<=k/\k<off+l.length then l[k-off]? else cs[k]?
 |[],cs,off,k,_=>by simp[jz];omega
 |x::l,cs,off,k,h=>by
  simp only[zV]at h;have b:=VM l (cs.set off x) (off+1) k (by simp;omega);simp only[jz];rw[b];by_cases a:off+1<=k/\k<off+1+l.length
  ·rw[zd a,zd ⟨by omega,by simp;omega⟩];obtain⟨d,rfl⟩:∃d,k=off+1+d:=⟨k-(off+1),by omega⟩;rw[show off+1+d-(off+1)=d from by omega,show off+1+d-off=d+1 from by omega];simp
  ·rw[ze a];by_cases c:k=off
   ·subst c;rw[zd ⟨by omega,by simp⟩,ZT (by omega)];simp
   ·rw[ze (by simp;omega),jC (by omega)]
theorem xc{α:Type}(l vs:List α)(o k:Nat)(h:o+vs.length<=l.length):(l.take o++vs++l.drop (o+vs.length))[k]?=if o<=k/\k<o+vs.length then vs[k-o]? else l[k]?:=by
 have a:(l.take o).length=o:=by simp;omega
 rw[qT];by_cases b:k<o
 ·rw[ze (by omega),qp (by omega),qN,zd b]
 ·rw[z8 (by omega),a];by_cases c:k<o+vs.length
  ·rw[zd ⟨by omega,c⟩,qp (by omega)]
  ·rw[ze (by omega),z8 (by omega),wc];congr 1;omega
theorem Yg{α:Type}(l vs:List α)(o:Nat)(h:o+vs.length<=l.length):(l.take o++vs++l.drop (o+vs.length)).length=l.length:=by simp;omega
theorem oh{s i j i':Nat}(c:j<s)(b:i'≠i)(a n:Nat)(d:a+n<=s):¬(i*s+a<=i'*s+j/\i'*s+j<i*s+a+n):=by
 rcases Nat.lt_or_gt_of_ne b with h|h
 ·have:(i'+1)*s<=i*s:=zY s h;rw[q7]at this;omega
 ·have:(i+1)*s<=i'*s:=zY s h;rw[q7]at this;omega
theorem vO{i j n s:Nat}(hi:i<n)(a:j<s):i*s+j<n*s:=by have:(i+1)*s<=n*s:=zY s hi;rw[q7]at this;omega
theorem Bi(hi:Inv P w S G Y Z){id i j:Nat}{b:kV}{c ys:zb}{vs:List Value}(J:Y id=some b)(d:0<(G id).s)(B:b.es[i]?=some c)(N:ys.length=vs.length)(Q:j+ys.length<=c.length)
  (K:∀(k:Nat) (p:O) (u:Value),ys[k]?=some p->vs[k]?=some u->jN w S G Z b.arr p u) :
  ∃w',(storeCells ⟨(G id).g,i*(G id).s+j,none⟩ vs).run P w=.ok () w'/\vA dr P Y Z S G w (qR Y id (some ⟨b.e,b.s,b.arr,b.es.set i (jz c j ys)⟩)) Z S G w':=by
 have l:=hi.live id b J;obtain⟨n,R,T,L⟩:=l.row d;have C:c.length=(G id).s:=l.len d c (zM B);have q:i<b.es.length:=(zn.1 B).1;have m:i*(G id).s+j+vs.length<=n.size:=by have:(i+1)*(G id).s<=b.es.length*(G id).s:=zY _ q;have:=l.fit d;rw[q7]at *;omega
 have D:∀v∈vs,v.oneCell'=true:=by
  intro v W;obtain⟨k,r⟩:=VE W;have E:k<ys.length:=by rw[N];exact(zn.1 r).1
  exact(K k ys[k] v (zq E) r).2.2
 have t:=run_storeCells_at P (G id).g (i*(G id).s+j) b.e vs 0 n w R (by simpa using m) D;simp only[Wt]at t;have x:i*(G id).s+j+vs.length<=n.toList.length:=by simpa using m
 refine⟨_,t,vA.set hi J d _ _ ?_ ?_ ?_ ?_⟩
 ·rw[jY,Yg _ _ _ x];simpa using T
 ·intro A F;rcases xx F with h|h
  ·exact l.len d A h
  ·subst h;rw[YW];exact C
 ·simpa using l.fit d
 ·intro i' j' A p a f;have M:i'<b.es.length:=by have:=(zn.1 a).1;simpa using this
  rw[List.getElem?_toArray,xc _ _ _ _ x];by_cases o:i'=i
  ·subst o;rw[ZT q]at a;injection a with a
   subst a;rw[VM _ _ _ _ Q]at f;by_cases y:j<=j'/\j'<j+ys.length
   ·rw[zd y]at f;rw[zd ⟨by omega,by omega⟩];have r:j'-j<vs.length:=by omega
    refine⟨vs[j'-j],?_,K (j'-j) p _ f (zq r)⟩;rw[show i'*(G id).s+j'-(i'*(G id).s+j)=j'-j from by omega];exact zq r
   ·rw[ze y]at f;rw[ze (by omega)];obtain⟨u,H,I⟩:=L i' j' c p B f;exact⟨u,by simpa using H,I⟩
  ·rw[jC (fun e=>o e.symm)]at a;have z:j'<(G id).s:=by rw[<-l.len d A (zM a)];exact(zn.1 f).1
   rw[ze (oh z o j vs.length (by omega))];obtain⟨u,H,I⟩:=L i' j' A p a f;exact⟨u,by simpa using H,I⟩
theorem Iz(hi:Inv P w S G Y Z){t:TypeId}{a x:O}{K:Hp}{u v:Value}(h:WL P Y t a x=some K)(ha:qx w S G Z a u)(hx:qx w S G Z x v) :
  ∃w' N Q,(Instr.storeAt t u v).run P w=.ok () w'/\vA dr P Y Z S G w K Z N Q w':=by
 unfold WL at h;split at h
 ·rename_i id i j;have R:=ha.gC;obtain⟨hid,rfl⟩:=ha.JC;split at h
  ·rename_i T E;have F:∀(y:O) (Y1:Hp) (z:Nat->Prop),vA dr P Y Z S G w Y1 Z z G w->qx w z G Z y v->(T.arr=true->yb w z y v)->(∀b,Y1 id=some b->b.arr=T.arr) ->
     (match Y1 id,qF P t with
      |some b,some n=>match b.es[i]? with
       |some c=>if y.cells.length=n/\j+n<=c.length/\y.cells.all O.yo=true then some (qR Y1 id (some ⟨b.e,b.s,b.arr,b.es.set i (jz c j y.cells)⟩))else none
       |none=>none
      |_,_=>none)=some K->∃w' N Q,(Instr.storeAt t (.pointer (some ⟨(G id).g,i*(G id).s+j,none⟩)) v).run P w=.ok () w'/\vA dr P Y Z S G w K Z N Q w':=by
    intro y Y1 z L hy W X h;split at h
    ·rename_i b n f hn;split at h
     ·rename_i c M;split at h
      ·rename_i A;obtain⟨e1,e2,e3⟩:=A;injection h with h
       subst h;obtain⟨hl,hr⟩:=gN hy e3;have hsz:v.cells.size=n:=by rw[<-hl,e1]
       obtain⟨w',D6,k2⟩:=Bi (P:=P) L.inv (ys:=y.cells) (vs:=v.cells.toList) (j:=j) f R M (by simpa using hl) (by rw[e1];exact e2) (fun k pv u D hu=>by
        have m:v.cells[k]?=some u:=by simpa using hu
        have h6:=hr k pv u D m;refine⟨fun H=>?_,h6.1,h6.2⟩;rw[X b f]at H;have B:=W H;by_cases I:∃cs,y=.agg cs
        ·obtain⟨cs,rfl⟩:=I;cases B with
         |agg g1 g2=>exact g2 k pv u D m
        ·have J:y.cells=[y]:=by cases y<;>first|rfl|exact(I ⟨_,rfl⟩).elim
         have ho:=B.XE (by rw[J]at e3;simpa using e3);have hv1:v.cells=#[v]:=by cases v<;>first|rfl|simp[Value.oneCell']at ho
         rw[J]at D;rw[hv1]at m;cases k with
         |zero=>simp at D m;subst D;subst m;exact B
         |succ k=>simp at D)
       refine⟨w',z,G,?_,L.trans k2⟩;simp[Instr.storeAt,Instr.sureAddr,storeVar,yx hn,hsz,D6]
      ·cases h
     ·cases h
    ·cases h
   by_cases o:T.arr=true
   ·simp only[o,qA]at h;split at h
    ·rename_i y Y1 d;obtain⟨z,L,M,_,_⟩:=vL hi d hx;refine F y Y1 z L (.c M) (fun _=>M) (fun b f=>?_) h;have:∀b,Y1 id=some b->Y id=some b:=fun b f=>by
      have p:∀{x y:O} {h q:Hp} (_:yf h x=some (y,q)) (k:Nat) (b:kV),q k=some b->h k=some b:=by
       intro x y h q d k b f;unfold yf at d;split at d<;>(try (split at d))<;>(try (split at d))<;>first
        |(injection d with d;injection d with e1 e2;subst e2
          first
           |exact f
           |exact Yv f)
        |cases d
      have C:∀(xs ys:zb) (h q:Hp) (_:wV h xs=some (ys,q)) (k:Nat) (b:kV),q k=some b->h k=some b:=by
       intro xs
       induction xs with
       |nil=>intro ys h q d k b f;simp only[wV]at d;injection d with d;injection d with _ e;subst e;exact f
       |cons x l ih=>
        intro ys h q d k b f;simp only[wV]at d;split at d
        ·rename_i y h1 hc1;split at d
         ·rename_i r h2 hr;injection d with d
          injection d with _ e;subst e;exact p hc1 k b (ih _ _ _ hr k b f)
         ·cases d
        ·cases d
      unfold qH at d;split at d
      ·split at d
       ·rename_i l h2 hcs;injection d with d
        injection d with _ e;subst e;exact C _ _ _ _ hcs id b f
       ·cases d
      ·exact p d id b f
     have:=this b f;rw[E]at this;injection this with this
     rw[this]
    ·cases h
   ·simp only[o]at h;exact F x Y S (.refl hi) hx (fun h=>(o h).elim) (fun b f=>by rw[E]at f;injection f with f;rw[f]) h
  ·cases h
 ·cases h
end
variable{dr:Prop}
section
variable{P:Program}{w:World}{S:Nat->Prop}{G:Nat->GI}{Y:Hp}{Z:Nat}
theorem X7{t:TypeId}{f o n:Nat}{b:Bool}(h:qU P t f=some (o,n,b)):∃(a:Array Field) (x:Field),P.underlying t=some (.struct a)/\a[f]?=some x/\x.offset=o/\qF P x.type=some n/\wT P x.type=some b:=by
 unfold qU at h;split at h
 ·rename_i a c;split at h
  ·rename_i x d;split at h
   ·rename_i l m e g;injection h with h
    injection h with i h;injection h with j k;subst i;subst j;subst k;exact⟨a,x,c,d,rfl,e,g⟩
   ·cases h
  ·cases h
 ·cases h
theorem oi(hi:Inv P w S G Y Z){t:TypeId}{f:Nat}{p x:O}{u:Value}(h:jt P t f p=some x)(k:qx w S G Z p u):Ww dr P w Y Z S G x Y Z ((Instr.fieldAt t u f).run P w):=by
 have a:∀{o n:Nat} {g:Bool} {ad:Addr},qU P t f=some (o,n,g)->n≠0->(Instr.fieldAt t (.pointer (some ad)) f).run P w=.ok (.pointer (some (ad.add o))) w:=by intro o n g ad b d;obtain⟨y,x,q,r,rfl,hs,_⟩:=X7 b;simp[Instr.fieldAt,zO q,r,Instr.sureAddr,fieldPlace,yx hs,d]
 unfold jt at h;split at h
 ·rename_i cs;split at h
  ·rename_i o n g b;split at h
   ·cases h
   ·rename_i d;injection h with h
    subst h;cases k.XF with
    |ptr us s v=>
     refine qK hi (a b d) (.c (.ptr (fun j=>us (o+j)) (fun j l e=>?_) (fun j l e=>?_)))
     ·rw[wc]at e;rw[WK,eu];exact s _ l e
     ·rw[wc]at e;exact v _ l e
  ·cases h
 ·rename_i id i j;have m:=k.gC;obtain⟨hid,rfl⟩:=k.JC;split at h
  ·rename_i o n g b;split at h
   ·cases h
   ·rename_i d;injection h with h
    subst h;refine qK hi (a b d) ?_;rw[kq,nZ];exact .ref hid m
  ·cases h
 ·cases h
theorem IA(hi:Inv P w S G Y Z){t:TypeId}{f:Nat}{p x:O}{u:Value}(h:QJ P t f p=some x)(m:qx w S G Z p u):Ww dr P w Y Z S G x Y Z ((Instr.field t u f).run P w):=by
 unfold QJ at h;split at h
 ·rename_i cs;obtain⟨us,rfl,q,l⟩:=m.Yt;split at h
  ·rename_i o n d;split at h
   ·rename_i r;injection h with h
    subst h;obtain⟨s,x,e,g,rfl,hs,i⟩:=X7 d;refine qK (v:=.agg (us.extract x.offset (x.offset+n))) hi ?_ (.agg ?_ ?_)
    ·simp[Instr.field,zO e,g,asAgg,part,Zf i,yx hs]
    ·simp;omega
    ·intro j z v a c;rw[qN]at a;split at a
     ·rw[wc]at a;rw[Array.getElem?_extract]at c;split at c
      ·exact l _ z v a c
      ·cases c
     ·cases a
   ·cases h
  ·rename_i o n d;obtain⟨s,y,e,g,rfl,hs,i⟩:=X7 d;have k:y.offset<us.size:=by rw[<-q];exact(zn.1 h).1
   have b:us[y.offset]?=some us[y.offset]:=by simp[k]
   refine qK (v:=us[y.offset]) hi ?_ (l _ x _ h b);simp[Instr.field,zO e,g,asAgg,part,Zf i,b]
  ·cases h
 ·cases h
theorem vM{t e:TypeId}(h:yg P t=some e):P.underlying t=some (.slice e):=by
 unfold yg at h;split at h
 ·injection h with h;subst h;assumption
 ·cases h
theorem Tg{t:TypeId}{m:Nat}{e:TypeId}(h:D8 P t=some (m,e)):P.underlying t=some (.array m e):=by
 unfold D8 at h;split at h
 ·injection h with h;injection h with a b;subst a;subst b;assumption
 ·cases h
theorem sW(hi:Inv P w S G Y Z){t:TypeId}{p x:O}{u:Value}{k:IntKind}{i:Int}(h:ZO P t i p=some x)(o:qx w S G Z p u):Ww dr P w Y Z S G x Y Z ((Instr.indexAt t u (.int k i)).run P w):=by
 unfold ZO at h;split at h
 ·rename_i m e A;have y:=Tg A;split at h
  ·rename_i n z;split at h
   ·rename_i B;obtain⟨d,f⟩:=B;split at h
    ·rename_i cs;injection h with h
     subst h;cases o.XF with
     |ptr us C D=>
      rename_i ad;refine qK (v:=.pointer (some (ad.add (i.toNat*n)))) hi ?_ (.c (.ptr (fun j=>us (i.toNat*n+j)) (fun j q l=>?_) (fun j q l=>?_)))
      ·simp[Instr.indexAt,zO y,asIntOf,d,f,Instr.sureAddr,yx z]
      ·rw[wc]at l;rw[WK,eu];exact C _ q l
      ·rw[wc]at l;exact D _ q l
    ·rename_i id a b;injection h with h
     subst h;have r:=o.gC;obtain⟨hid,rfl⟩:=o.JC;refine qK (v:=.pointer (some ((⟨(G id).g,a*(G id).s+b,none⟩:Addr).add (i.toNat*n)))) hi ?_ ?_
     ·simp[Instr.indexAt,zO y,asIntOf,d,f,Instr.sureAddr,yx z]
     ·rw[kq,nZ];exact .ref hid r
    ·cases h
   ·cases h
  ·cases h
 ·cases h
theorem oj(hi:Inv P w S G Y Z){t:TypeId}{p q x:O}{u v:Value}(h:q6 P Y t p q=some x)(r:qx w S G Z p u)(M:qx w S G Z q v):Ww dr P w Y Z S G x Y Z ((Instr.indexAt t u v).run P w):=by
 unfold q6 at h;split at h
 ·rename_i k i;obtain⟨rfl,_⟩:=M.yq;split at h
  ·rename_i e N;have J:=vM N;split at h
   ·rename_i n s es hs;split at h
    ·rename_i y;obtain⟨rfl,Q,d⟩:=y;cases a:es[i.toNat]? with
     |none=>simp[a]at h
     |some c=>
      simp[a]at h;subst h;cases r.eo with
      |sl us h0 h1 h2 z B K=>
       rename_i A cap;have R:=z c (zM a);have T:i.toNat<es.length:=(zn.1 a).1;have C:c[0]?=some (c[0]'(by omega)):=zq (by omega);obtain⟨ad,rfl,hS,_⟩:=B i.toNat 0 c _ a C;have f:i<es.length:=by omega
       refine qK (v:=.pointer (some (ad.add (i.toNat*s)))) hi ?_ (.c (.ptr (fun j=>us i.toNat j) (fun j D E=>?_) (fun j D E=>K i.toNat j c D a E)))
       ·simp[Instr.indexAt,zO J,asIntOf,d,f,yx hs]
       ·obtain⟨W,F,L,H,_⟩:=B i.toNat j c D a E;injection F with F;subst F;rw[WK,eu];exact⟨L,H⟩
    ·cases h
   ·rename_i n id off m hs;split at h
    ·rename_i b X;split at h
     ·rename_i y;obtain⟨rfl,hn0,d,hik⟩:=y;injection h with h
      subst h;have l:=r.Za;obtain⟨cap,z,B,K,L,rfl⟩:=r.xA;have I:(G id).s=n:=by
       have:=(hi.live id b X).size l;have H:(P.info? b.e).map (·.size)=some n:=hs;rw[H]at this;injection this with this
       exact this.symm
      have o:i<m:=by omega
      refine qK (v:=.pointer (some ((⟨(G id).g,off*(G id).s,none⟩:Addr).add (i.toNat*n)))) hi ?_ ?_
      ·simp[Instr.indexAt,zO J,asIntOf,d,o,yx hs]
      ·rw[kq,<-I,<-q7];have:=qx.ref (w:=w) (S:=S) (G:=G) (Z:=Z) (id:=id) (i:=off+i.toNat) (j:=0) z l;simpa using this
     ·cases h
    ·cases h
   ·cases h
  ·exact sW hi h r
 ·cases h
theorem IB(hi:Inv P w S G Y Z){t:TypeId}{p q x:O}{u v:Value}(h:WM P t p q=some x)(a:qx w S G Z p u)(d:qx w S G Z q v):Ww dr P w Y Z S G x Y Z ((Instr.index t u v).run P w):=by
 unfold WM at h;split at h
 ·rename_i s k i;obtain⟨rfl,_⟩:=d.yq;obtain⟨rfl,_⟩:=a.yq;split at h
  ·rename_i e;split at h
   ·rename_i f;split at h
    ·rename_i b g;injection h with h
     subst h;refine qK (v:=.int .u8 b.toNat) hi ?_ (.c (.v rfl));simp[Instr.index,zO e,asIntOf,f,g]
    ·cases h
   ·cases h
  ·cases h
 ·cases h
theorem Bj(hi:Inv P w S G Y Z){vs:zb}{x:O}{i:Nat}{u:Value}(h:vs[i]?=some x)(c:qx w S G Z (.wY vs) u):Ww dr P w Y Z S G x Y Z ((Instr.extract u i).run P w):=by
 obtain⟨us,rfl,d,e⟩:=c.OC;have b:i<us.size:=by rw[<-d];exact(zn.1 h).1
 have a:us[i]?=some us[i]:=by simp[b]
 exact qK (v:=us[i]) hi (by simp[Instr.extract,a]) (e i x _ h a)
theorem Zn(x:Value)(h:lit x=true):qx w S G Z (.v x) x:=.c (.v h)
theorem Th{op:BinOp}{k:IntKind}{a b:Int}{x:O}(h:Tb op k a b=some x)(t:TypeId)(w:World):∃v,x=.v v/\lit v=true/\(binOp op t (.int k a) (.int k b)).run P w=.ok v w:=by
 unfold Tb at h;split at h<;>(try (split at h))<;>first
  |(injection h with h;subst h;exact⟨_,rfl,rfl,by simp[binOp,Op.intArith,Op.intDiv,Op.intCmp,Op.intBits,Op.shift, *]⟩)
  |cases h
theorem Ti{op:BinOp}{a b:ByteArray}{x:O}(h:Tc op a b=some x)(t:TypeId)(w:World):∃v,x=.v v/\lit v=true/\(binOp op t (.string a) (.string b)).run P w=.ok v w:=by
 have d:IntKind.i64.max=9223372036854775807:=by decide
 unfold Tc at h;split at h
 ·split at h
  ·rename_i c;injection h with h
   subst h;refine⟨_,rfl,rfl,?_⟩;have e:(a.size:Int)+(b.size:Int)<=9223372036854775807:=by simp only[maxLen]at c;omega
   simp[binOp,Op.stringOp,e]
  ·cases h
 all_goals first
  |(injection h with h;subst h;exact⟨_,rfl,rfl,by simp[binOp,Op.stringOp]⟩)
  |cases h
theorem Kk{op:BinOp}{t:TypeId}{x y:Operand}{a b:Value}(h:lit a=true)(c:a≠.nilIface)(w:World):(eqGuard op t x y a b).run P w=.ok () w:=by unfold eqGuard;cases op<;>simp<;>(cases a<;>cases b<;>simp_all[lit])
theorem Ns{t:TypeId}{k:Nat}(h:ON P t=some k):wT P t=some false:=by
 unfold ON at h;unfold wT;split at h<;>first
  |(rename_i a;rw[a];rfl)
  |cases h
theorem ez(w:World)(d:Nat)(B C:Array Value):∀(D:List Field) (k:Nat) (N:List Nat) (E F:zb) (r:Bool),uq P k D=some N->yi N E F=some r ->
  (∀(j:Nat) (t:O),E[j]?=some t->∃u,B[k+j]?=some u/\qx w S G Z t u)->(∀(j:Nat) (t:O),F[j]?=some t->∃u,C[k+j]?=some u/\qx w S G Z t u) ->
  (Op.eqFields (d+1) B C D).run P w=.ok r w
 |[],k,N,E,F,r,g,e,_,_=>by
  simp only[uq]at g;injection g with g
  subst g;simp only[yi]at e;injection e with e
  subst e;simp[Op.eqFields]
 |f::D,k,N,E,F,r,g,e,W,X=>by
  simp only[uq]at g;split at g
  ·rename_i z;split at g
   ·rename_i tg i H h2;injection g with g
    subst g;have A:∀(p q:O) (x y:zb) (b s:Bool),E=p::x->F=q::y->(∀u v,qx w S G Z p u->qx w S G Z q v->(Op.equalIn (d+1) f.type u v).run P w=.ok b w)->yi i x y=some s->r=(b&&s) ->
      (Op.eqFields (d+1) B C (f::D)).run P w=.ok r w:=by
     intro p q x y b s h e2 h3 h4 h5;subst h;subst e2;subst h5;obtain⟨u,I,Q⟩:=W 0 p rfl;obtain⟨v,J,R⟩:=X 0 q rfl;simp only[Wt]at I J;have ha:=Ns H;have Y1:(part f.type B f.offset).run P w=.ok u w:=by simp[part,Zf ha,z.1,I]
     have Y2:(part f.type C f.offset).run P w=.ok v w:=by simp[part,Zf ha,z.1,J]
     have ih:=ez w d B C D (k+1) i x y s h2 h4 (fun j t T=>by have:=W (j+1) t (by simpa using T);rwa [show k+(j+1)=k+1+j from by omega]at this) (fun j t T=>by have:=X (j+1) t (by simpa using T);rwa [show k+(j+1)=k+1+j from by omega]at this);cases b<;>simp[Op.eqFields,z.2,Y1,Y2,h3 u v Q R,ih]
    unfold yi at e;unfold ON at H;split at e
    ·simp_all
    ·rename_i K kk a l kk' b m h;injection h with h n
     subst h;subst n;split at e
     ·rename_i hk;subst hk;cases c:yi i l m with
      |none=>simp[c]at e
      |some s=>
       simp[c]at e;refine A _ _ _ _ (a==b) s rfl rfl (fun u v L M=>?_) c e.symm;obtain⟨rfl,_⟩:=L.yq;obtain⟨rfl,_⟩:=M.yq;split at H<;>first
        |(rename_i o;simp[Op.equalIn,zO o];done)
        |simp_all
     ·cases e
    ·rename_i K a l b m h;injection h with h n
     subst h;subst n;cases c:yi i l m with
     |none=>simp[c]at e
     |some s=>
      simp[c]at e;refine A _ _ _ _ (a==b) s rfl rfl (fun u v L M=>?_) c e.symm;obtain⟨rfl,_⟩:=L.yq;obtain⟨rfl,_⟩:=M.yq;split at H<;>first
       |(rename_i o;simp[Op.equalIn,zO o];done)
       |simp_all
    ·rename_i K a l b m h;injection h with h n
     subst h;subst n;cases c:yi i l m with
     |none=>simp[c]at e
     |some s=>
      simp[c]at e;refine A _ _ _ _ (a==b) s rfl rfl (fun u v L M=>?_) c e.symm;obtain⟨rfl,_⟩:=L.yq;obtain⟨rfl,_⟩:=M.yq;split at H<;>first
       |(rename_i o;simp[Op.equalIn,zO o];done)
       |simp_all
    ·cases e
   ·cases g
  ·cases g
def eq1:Nat->O->O->Option Bool
 | 0,.v (.int k a),.v (.int c b)=>if k=c then some (a==b)else none
 | 1,.v (.bool a),.v (.bool b)=>some (a==b)
 | 2,.v (.string a),.v (.string b)=>some (a==b)
 |_,_,_=>none
theorem VN(k:Nat)(a:List Nat)(b:zb):yi (k::a) [] b=none:=by unfold yi;split<;>first|rfl|simp_all
theorem VO(k:Nat)(a:List Nat)(b:zb):yi (k::a) b []=none:=by unfold yi;split<;>first|rfl|simp_all
theorem Jq(k:Nat)(c:List Nat)(p q:O)(d e:zb):yi (k::c) (p::d) (q::e)=(eq1 k p q).bind fun b=>(yi c d e).map (b&&·):=by
 match k with
 | 0=>
  cases p with
  |v x=>cases x with
   |int w a=>cases q with
    |v y=>cases y with
     |int w' b=>simp only[yi,eq1];split<;>rfl
     |_=>rfl
    |_=>rfl
   |_=>rfl
  |_=>rfl
 | 1=>
  cases p with
  |v x=>cases x with
   |bool a=>cases q with
    |v y=>cases y<;>rfl
    |_=>rfl
   |_=>rfl
  |_=>rfl
 | 2=>
  cases p with
  |v x=>cases x with
   |string a=>cases q with
    |v y=>cases y<;>rfl
    |_=>rfl
   |_=>rfl
  |_=>rfl
 |k+3=>rfl
theorem X8:∀(a c:List Nat) (d e:zb) (r:Bool),yi (a++c) d e=some r->∃f g,yi a d e=some f/\yi c (d.drop a.length) (e.drop a.length)=some g/\r=(f&&g)
 |[],c,d,e,r,h=>⟨true,r,rfl,h,rfl⟩
 |k::a,c,[],e,r,h=>by rw[wI,VN]at h;cases h
 |k::a,c,p::d,[],r,h=>by rw[wI,VO]at h;cases h
 |k::a,c,p::d,q::e,r,h=>by
  rw[wI,Jq]at h;cases i:eq1 k p q with
  |none=>rw[i]at h;cases h
  |some b=>rw[i,qo]at h;obtain⟨j,l,rfl⟩:=Option.map_eq_some_iff.1 h;obtain⟨f,g,m,n,rfl⟩:=X8 a c d e j l;exact⟨b&&f,g,by rw[Jq,i,qo,m];rfl,n,by rw[Bool.and_assoc]⟩
theorem eA:∀(a:List Nat) (b c:zb),yi a (b.take a.length) (c.take a.length)=yi a b c
 |[],b,c=>by simp only[yi]
 |k::a,[],c=>by rw[List.take_nil,VN,VN]
 |k::a,p::b,[]=>by rw[List.take_nil,VO,VO]
 |k::a,p::b,q::c=>by rw[zV,yj,yj,Jq,Jq,eA a b c]
theorem Tj{t:TypeId}{a:List Nat}(h:subA P t=some a):∃gs,P.underlying t=some (.struct gs)/\uq P 0 gs.toList=some a/\P.stoodInHeld t=false/\qF P t=some a.length:=by
 unfold subA at h;split at h
 ·cases h
 ·rename_i f;split at h
  ·rename_i gs b;split at h
   ·rename_i c d;split at h
    ·rename_i e;injection h with h
     subst h;exact⟨gs,b,d,by cases g:P.stoodInHeld t<;>simp_all,e⟩
    ·cases h
   ·cases h
  ·cases h
theorem KI(w:World)(d:Nat)(s t:Array Value):∀(Q:List Field) (k:Nat) (ks:List Nat) (I J:zb) (r:Bool),ur P k Q=some ks->yi ks I J=some r ->
  (∀(j:Nat) (c:O),I[j]?=some c->∃u,s[k+j]?=some u/\qx w S G Z c u)->(∀(j:Nat) (c:O),J[j]?=some c->∃u,t[k+j]?=some u/\qx w S G Z c u) ->
  (Op.eqFields (d+2) s t Q).run P w=.ok r w
 |[],k,ks,I,J,r,g,h,_,_=>by
  simp only[ur]at g;injection g with g
  subst g;simp only[yi]at h;injection h with h
  subst h;simp[Op.eqFields]
 |f::Q,k,ks,I,J,r,g,h,hx,hy=>by
  simp only[ur]at g;split at g
  ·rename_i o;split at g
   ·rename_i tg R;split at g
    case h_2=>cases g
    rename_i l h2;injection g with g
    subst g;have K:∀(p q:O) (E F:zb) (b C:Bool),I=p::E->J=q::F->(∀u v,qx w S G Z p u->qx w S G Z q v->(Op.equalIn (d+2) f.type u v).run P w=.ok b w)->yi l E F=some C->r=(b&&C) ->
      (Op.eqFields (d+2) s t (f::Q)).run P w=.ok r w:=by
     intro p q E F b C i e2 h3 h4 h5;subst i;subst e2;subst h5;obtain⟨u,m,x⟩:=hx 0 p rfl;obtain⟨v,T,hv2⟩:=hy 0 q rfl;simp only[Wt]at m T;have ha:=Ns R;have Y1:(part f.type s f.offset).run P w=.ok u w:=by simp[part,Zf ha,o.1,m]
     have Y2:(part f.type t f.offset).run P w=.ok v w:=by simp[part,Zf ha,o.1,T]
     have ih:=KI w d s t Q (k+1) l E F C h2 h4 (fun j c D=>by have:=hx (j+1) c (by simpa using D);rwa [show k+(j+1)=k+1+j from by omega]at this) (fun j c D=>by have:=hy (j+1) c (by simpa using D);rwa [show k+(j+1)=k+1+j from by omega]at this);cases b<;>simp[Op.eqFields,o.2,Y1,Y2,h3 u v x hv2,ih]
    unfold yi at h;unfold ON at R;split at h
    ·simp_all
    ·rename_i W kk a y kk' b z i;injection i with i A
     subst i;subst A;split at h
     ·rename_i hk;subst hk;cases e:yi l y z with
      |none=>simp[e]at h
      |some C=>
       simp[e]at h;refine K _ _ _ _ (a==b) C rfl rfl (fun u v X hv=>?_) e h.symm;obtain⟨rfl,_⟩:=X.yq;obtain⟨rfl,_⟩:=hv.yq;split at R<;>first
        |(rename_i B;simp[Op.equalIn,zO B];done)
        |simp_all
     ·cases h
    ·rename_i W a y b z i;injection i with i A
     subst i;subst A;cases e:yi l y z with
     |none=>simp[e]at h
     |some C=>
      simp[e]at h;refine K _ _ _ _ (a==b) C rfl rfl (fun u v X hv=>?_) e h.symm;obtain⟨rfl,_⟩:=X.yq;obtain⟨rfl,_⟩:=hv.yq;split at R<;>first
       |(rename_i B;simp[Op.equalIn,zO B];done)
       |simp_all
    ·rename_i W a y b z i;injection i with i A
     subst i;subst A;cases e:yi l y z with
     |none=>simp[e]at h
     |some C=>
      simp[e]at h;refine K _ _ _ _ (a==b) C rfl rfl (fun u v X hv=>?_) e h.symm;obtain⟨rfl,_⟩:=X.yq;obtain⟨rfl,_⟩:=hv.yq;split at R<;>first
       |(rename_i B;simp[Op.equalIn,zO B];done)
       |simp_all
    ·cases h
   ·split at g
    case h_2=>cases g
    rename_i n hs1;split at g
    case h_2=>cases g
    rename_i l h2;injection g with g
    subst g;obtain⟨r1,r2,i,e2,rfl⟩:=X8 _ _ _ _ _ h;rw[<-eA]at i;obtain⟨gs,L,hgt,hgs,hgn⟩:=Tj hs1;have H:wT P f.type=some true:=by unfold wT;rw[L];rfl
    have hfo:P.fieldsOf f.type=gs:=by simp[Program.fieldsOf,L]
    have Y1:(part f.type s f.offset).run P w=.ok (.agg (s.extract k (k+n.length))) w:=by simp[part,Zf H,o.1,yx hgn]
    have Y2:(part f.type t f.offset).run P w=.ok (.agg (t.extract k (k+n.length))) w:=by simp[part,Zf H,o.1,yx hgn]
    have hin:∀(M:zb) (N:Array Value),(∀(j:Nat) (c:O),M[j]?=some c->∃u,N[k+j]?=some u/\qx w S G Z c u)->∀(j:Nat) (c:O),(M.take n.length)[j]?=some c->∃u,(N.extract k (k+n.length))[0+j]?=some u/\qx w S G Z c u:=by
     intro M N hz j c D;have hjl:j<n.length:=by have:=(zn.1 D).1;rw[jn]at this;omega
     rw[List.getElem?_take_of_lt hjl]at D;obtain⟨u,m,x⟩:=hz j c D;refine⟨u,?_,x⟩;rw[wJ,Array.getElem?_extract];have hlt:=(qE.1 m).1;rw[zd (by omega)];exact m
    have hrun:(Op.equalIn (d+2) f.type (.agg (s.extract k (k+n.length))) (.agg (t.extract k (k+n.length)))).run P w=.ok r1 w:=by rw[run_equalIn_struct w (d+1) f.type _ _ (by rw[hfo];exact L) hgs,hfo];exact ez w d _ _ gs.toList 0 n _ _ r1 hgt i (hin I s hx) (hin J t hy)
    have Ng:∀(M:zb) (N:Array Value),(∀(j:Nat) (c:O),M[j]?=some c->∃u,N[k+j]?=some u/\qx w S G Z c u)->∀(j:Nat) (c:O),(M.drop n.length)[j]?=some c->∃u,N[k+n.length+j]?=some u/\qx w S G Z c u:=by intro M N hz j c D;rw[wc]at D;obtain⟨u,m,x⟩:=hz (n.length+j) c D;exact⟨u,by rwa [show k+(n.length+j)=k+n.length+j by omega]at m,x⟩
    have ih:=KI w d s t Q (k+n.length) l _ _ r2 h2 e2 (Ng I s hx) (Ng J t hy);cases r1<;>simp[Op.eqFields,o.2,Y1,Y2,hrun,ih]
  ·cases g
theorem uy{t:TypeId}{g:List Nat}{xs ys:zb}{r:Bool}{u v:Value}(b:uu P t=some g)(z:yi g xs ys=some r)(A:qx w S G Z (.agg xs) u)(B:qx w S G Z (.agg ys) v) :
  (Op.equal t u v).run P w=.ok r w/\∀(op:BinOp) (x y:Operand),(eqGuard op t x y u v).run P w=.ok () w:=by
 obtain⟨e,rfl,i,k⟩:=A.Yt;obtain⟨f,rfl,l,m⟩:=B.Yt;unfold uu at b;split at b
 ·cases b
 ·rename_i C;have n:P.stoodInHeld t=false:=by cases h:P.stoodInHeld t<;>simp_all
  have o:P.eqGuardType P.depth t=false:=by cases h:P.eqGuardType P.depth t<;>simp_all
  split at b
  ·rename_i q s;have c:P.fieldsOf t=q:=by simp[Program.fieldsOf,s]
   constructor
   ·unfold Op.equal Op.maxDepth;rw[show(10000:Nat)=9999+1 from rfl,run_equalIn_struct w 9999 t e f (by rw[c];exact s) n,c];exact KI w 9997 e f q.toList 0 g xs ys r b z
     (fun j p d=>by
      have a:j<e.size:=by rw[<-i];exact(zn.1 d).1
      exact⟨e[j],by simp[a],k j p _ d (by simp[a])⟩)
     (fun j p d=>by
      have a:j<f.size:=by rw[<-l];exact(zn.1 d).1
      exact⟨f[j],by simp[a],m j p _ d (by simp[a])⟩)
   ·intro op x y;unfold eqGuard;cases op<;>simp[o]
  ·cases b
theorem om{t:TypeId}(a b:Bool)(c:P.underlying t=some .bool)(w:World):(Op.equal t (.bool a) (.bool b)).run P w=.ok (a==b) w:=by
 have h:∀d:Nat,(Op.equalIn (d+1) t (.bool a) (.bool b)).run P w=.ok (a==b) w:=fun d=>by simp only[Op.equalIn,xL,zO c,vi,YQ]
 exact h 9999
theorem uz{t e:TypeId}(A:Option Addr)(n c:Nat)(a:P.underlying t=some (.slice e))(w:World):(Op.equal t (.slice A n c) (.slice none 0 0)).run P w=.ok A.isNone w:=by
 have h:∀d:Nat,(Op.equalIn (d+1) t (.slice A n c) (.slice none 0 0)).run P w=.ok A.isNone w:=fun d=>by cases A<;>simp only[Op.equalIn,xL,zO a,vi,YQ]<;>rfl
 exact h 9999
theorem uA{p:O}{u:Value}{r:Bool}(h:VJ p=some r)(b:qx w S G Z p u):∃A n c,u=.slice A n c/\A.isNone=r:=by
 unfold VJ at h;split at h
 ·injection h with h;subst h;exact⟨none,0,0,b.ZV,rfl⟩
 ·injection h with h;subst h;obtain⟨ad,cap,rfl,_⟩:=b.sN;exact⟨_,_,_,rfl,rfl⟩
 ·injection h with h;subst h;obtain⟨cap,_,_,_,_,rfl⟩:=b.xA;exact⟨_,_,_,rfl,rfl⟩
 ·rename_i s c es;injection h with h;subst h
  cases b.eo with
  |sl us d e f g i j=>
   rename_i A cap;cases A with
   |none=>have:=d rfl;subst this;simp at e
   |some a=>exact⟨_,_,_,rfl,rfl⟩
 ·cases h
theorem IC(hi:Inv P w S G Y Z){op:BinOp}{t:TypeId}{p q x:O}{u v:Value}(B C:Operand)(h:ZZ P op t p q=some x)(f:qx w S G Z p u)(g:qx w S G Z q v) :
  Ww dr P w Y Z S G x Y Z ((do eqGuard op t B C u v;binOp op t u v:Sem Value).run P w):=by
 unfold ZZ at h;split at h
 ·rename_i k a H b;obtain⟨rfl,_⟩:=f.yq;obtain⟨rfl,_⟩:=g.yq;split at h
  ·rename_i D;subst D;obtain⟨r,rfl,j,l⟩:=Th (P:=P) h t w;exact qK (v:=r) hi (by simp[Kk (a:=.int k a) rfl (by simp) w,l]) (Zn r j)
  ·cases h
 ·rename_i a b;obtain⟨rfl,_⟩:=f.yq;obtain⟨rfl,_⟩:=g.yq;obtain⟨r,rfl,j,l⟩:=Ti (P:=P) h t w;exact qK (v:=r) hi (by simp[Kk (a:=.string a) rfl (by simp) w,l]) (Zn r j)
 ·rename_i a b;obtain⟨rfl,_⟩:=f.yq;obtain⟨rfl,_⟩:=g.yq;split at h
  ·rename_i i;injection h with h
   subst h;refine qK (v:=.bool (a==b)) hi ?_ (Zn _ rfl);simp only[xL,Kk (a:=.bool a) rfl (by simp) w,vi,binOp,om a b i,YQ]
  ·rename_i i;injection h with h
   subst h;refine qK (v:=.bool (!(a==b))) hi ?_ (Zn _ rfl);simp only[xL,Kk (a:=.bool a) rfl (by simp) w,vi,binOp,om a b i,YQ]
  ·cases h
 ·rename_i xs ys;split at h
  ·rename_i y z;split at h
   ·cases d:yi y xs ys with
    |none=>simp[d]at h
    |some r=>simp[d]at h;subst h;obtain⟨m,o⟩:=uy z d f g;obtain⟨E,rfl,_,_⟩:=f.Yt;obtain⟨F,rfl,_,_⟩:=g.Yt;exact qK (v:=.bool r) hi (by simp[o,binOp,m]) (Zn _ rfl)
   ·cases d:yi y xs ys with
    |none=>simp[d]at h
    |some r=>simp[d]at h;subst h;obtain⟨m,o⟩:=uy z d f g;obtain⟨E,rfl,_,_⟩:=f.Yt;obtain⟨F,rfl,_,_⟩:=g.Yt;exact qK (v:=.bool !r) hi (by simp[o,binOp,m]) (Zn _ rfl)
   ·cases h
  ·cases h
 ·have:=g.ZV;subst this;split at h
  ·rename_i e r d s;injection h with h
   subst h;obtain⟨A,n,c,rfl,rfl⟩:=uA s f;refine qK (v:=.bool A.isNone) hi ?_ (Zn _ rfl);simp only[xL,eqGuard,binOp,uz A n c (vM d),YQ,vi];simp
  ·rename_i e r d s;injection h with h
   subst h;obtain⟨A,n,c,rfl,rfl⟩:=uA s f;refine qK (v:=.bool !A.isNone) hi ?_ (Zn _ rfl);simp only[xL,eqGuard,binOp,uz A n c (vM d),YQ,vi];simp
  ·cases h
 ·cases h
theorem OO(hi:Inv P w S G Y Z){op:BinOp}{t:TypeId}{p q x:O}{u v:Value}(f a:Operand)(h:X5 (isK a) P op t p q=some x)(g:qx w S G Z p u)(i:qx w S G Z q v) :
  Ww dr P w Y Z S G x Y Z ((do eqGuard op t f a u v;binOp op t u v:Sem Value).run P w):=by
 unfold X5 at h;split at h
 ·rename_i k;obtain⟨rfl,_⟩:=g.yq;obtain⟨rfl,_⟩:=i.yq;obtain⟨c,rfl⟩:∃c,a=.const c:=by cases a<;>first|exact⟨_,rfl⟩|(simp[isK]at k)
  unfold Np at h;split at h
  ·rename_i b;unfold Iw at b;split at b
   ·rename_i l e;have j:(Op.equal t .nilIface .nilIface).run P w=.ok true w:=by
     have h:∀d:Nat,(Op.equalIn (d+1) t .nilIface .nilIface).run P w=.ok true w:=fun d=>by simp only[Op.equalIn,xL,zO e,vi,YQ]
     exact h 9999
    split at h
    ·injection h with h;subst h;refine qK (v:=.bool true) hi ?_ (Zn _ rfl);simp[eqGuard,binOp,j,Result.andThen]
    ·injection h with h;subst h;refine qK (v:=.bool false) hi ?_ (Zn _ rfl);simp[eqGuard,binOp,j,Result.andThen]
    ·cases h
   ·cases b
  ·cases h
 ·exact IC hi f a h g i
theorem OP(hi:Inv P w S G Y Z){op:UnOp}{p x:O}{u:Value}(h:unA op p=some x)(a:qx w S G Z p u):Ww dr P w Y Z S G x Y Z ((Op.unary op u).run P w):=by
 unfold unA at h;split at h
 ·obtain⟨rfl,_⟩:=a.yq;split at h
  ·injection h with h;subst h;exact qK (v:=_) hi (by simp[Op.unary]) (Zn _ rfl)
  ·cases h
 ·obtain⟨rfl,_⟩:=a.yq;split at h
  ·injection h with h;subst h;exact qK (v:=_) hi (by simp[Op.unary,Op.intArith]) (Zn _ rfl)
  ·cases h
 ·cases h
theorem OQ(hi:Inv P w S G Y Z){a dst:TypeId}{p x:O}{u:Value}(h:cq P a dst p=some x)(e:qx w S G Z p u):Ww dr P w Y Z S G x Y Z ((convert a dst u).run P w):=by
 unfold cq at h;split at h
 ·obtain⟨rfl,_⟩:=e.yq;split at h
  ·rename_i d k b c;injection h with h
   subst h;exact qK (v:=_) hi (by simp[convert,zO b,zO c,Conv.intToInt]) (Zn _ rfl)
  ·cases h
 ·obtain⟨rfl,_⟩:=e.yq;split at h
  ·rename_i d b c;injection h with h
   subst h;exact qK (v:=_) hi (by simp[convert,zO b,zO c]) (Zn _ rfl)
  ·cases h
 ·cases h
end
variable{dr:Prop}
section
variable{P:Program}{w:World}{S:Nat->Prop}{G:Nat->GI}{Y:Hp}{Z:Nat}
theorem gO{o:Option (Option O)}{v:Option Value}{a n y:Nat}(code:BoundsCode)(h:vH a o=some n)(d:n<=y)(hd:o=none->v=none)(hs:∀p,o=some (some p)->∃u,v=some u/\qx w S G Z p u)(e:o≠some none) :
  (v=none/\n=a)\/∃k i,v=some (.int k i)/\(Instr.sliceBound (.int k i) y code).run P w=.ok n w:=by
 unfold vH at h;split at h
 ·injection h with h;exact .inl ⟨hd rfl,h.symm⟩
 ·rename_i k i;split at h
  ·rename_i b;injection h with h
   subst h;obtain⟨u,rfl,c⟩:=hs _ rfl;obtain⟨rfl,_⟩:=c.yq;refine .inr ⟨k,i,rfl,?_⟩;have:i<=y:=by omega
   simp[Instr.sliceBound,asIntOf,b,this]
  ·cases h
 ·cases h
theorem JN{isS:Bool}{len cap l h:Nat}{lo hi:Option (Option O)}{vl vh:Option Value}(c:vH 0 lo=some l)(g:vH len hi=some h)(a:l<=h)(b:h<=cap)
  (d:lo=none->vl=none) (e:∀p,lo=some (some p)->∃u,vl=some u/\qx w S G Z p u) (n1:lo≠some none)
  (j:hi=none->vh=none) (m:∀p,hi=some (some p)->∃u,vh=some u/\qx w S G Z p u) (n:hi≠some none) :
  (Instr.sliceBounds isS len cap vl vh none).run P w=.ok (l,h,cap) w:=by
 rcases gO (P:=P) (if isS then .sliceAcap else .sliceAlen) g b j m n with⟨rfl,rfl⟩|⟨k,i,rfl,q⟩
 ·rcases gO (P:=P) .sliceB c a d e n1 with⟨rfl,rfl⟩|⟨o,i',rfl,f⟩
  ·simp[Instr.sliceBounds]
  ·simp[Instr.sliceBounds,f]
 ·rcases gO (P:=P) .sliceB c a d e n1 with⟨rfl,rfl⟩|⟨o,i',rfl,f⟩
  ·cases isS<;>simp_all[Instr.sliceBounds]
  ·cases isS<;>simp_all[Instr.sliceBounds]
theorem ID(hi:Inv P w S G Y Z){t:TypeId}{p x:O}{lo T:Option (Option O)}{vl vh:Option Value}{u:Value}(h:jO P Y t p lo T=some x)(D:qx w S G Z p u)
  (L:lo=none->vl=none) (M:∀p,lo=some (some p)->∃u,vl=some u/\qx w S G Z p u)
  (N:T=none->vh=none) (Q:∀p,T=some (some p)->∃u,vh=some u/\qx w S G Z p u):Ww dr P w Y Z S G x Y Z ((Instr.sliceAt t u vl vh none).run P w):=by
 have B:∀{d n:Nat} {o:Option (Option O)},vH d o=some n->o≠some none:=by rintro d n o h rfl;simp[vH]at h
 unfold jO at h;split at h
 ·rename_i s y;obtain⟨rfl,_⟩:=D.yq;split at h
  ·rename_i l k q r;split at h
   ·rename_i f;injection h with h
    subst h;have z:=JN (P:=P) (isS:=false) (cap:=s.size) q r f.1 f.2 L M (B q) N Q (B r);exact qK (v:=.string (s.extract l k)) hi (by simp[Instr.sliceAt,zO y,Instr.slice,z]) (Zn _ rfl)
   ·cases h
  ·cases h
 ·rename_i e s es y;split at h
  ·rename_i n l k a q r;split at h
   ·rename_i f;obtain⟨rfl,f⟩:=f;injection h with h
    subst h;cases D.eo with
    |sl us h0 h1 h2 h3 h4 h5=>
     rename_i A cap;have z:=JN (P:=P) (isS:=true) (cap:=cap) q r f.1 (by omega) L M (B q) N Q (B r);have E:((es.drop l).take (k-l)).length=k-l:=by simp;omega
     have C:∀(i:Nat) (c:zb),((es.drop l).take (k-l))[i]?=some c->i<k-l/\es[l+i]?=some c:=by
      intro i c hi;rw[qN]at hi;split at hi
      ·rw[wc]at hi;exact⟨by assumption,hi⟩
      ·cases hi
     have F:yb w S (.sl s ((es.drop l).take (k-l))) (.slice (if cap=l then A else A.map (·.add (l*s))) ((es.drop l).take (k-l)).length (cap-l)):=by
      refine .sl (fun i j=>us (l+i) j) (fun W=>by have:A=none:=(by split at W<;>simp_all);have:=h0 this;omega) (by omega) (by omega) (fun c f=>h3 c (YP _ _ (XB _ _ f))) (fun i j c X hi hj=>?_) (fun i j c X hi hj=>h5 _ j c X (C i c hi).2 hj);obtain⟨hil,hi'⟩:=C i c hi;obtain⟨ad,rfl,R,g2,g3⟩:=h4 (l+i) j c X hi' hj;rw[ze (by omega)];refine⟨ad.add (l*s),rfl,by rw[WK];exact R,?_,g3⟩;rw[eu];have:l*s+(i*s+j)=(l+i)*s+j:=by rw[q7];omega
      rw[this];exact g2
     rw[E]at F;exact qK (v:=_) hi (by simp[Instr.sliceAt,zO y,Instr.slice,z,yx a]) (.c F)
   ·cases h
  ·cases h
 ·rename_i e y;have:=D.ZV;subst this;split at h
  ·rename_i n l k a q r;split at h
   ·rename_i f;obtain⟨rfl,rfl⟩:=f;injection h with h
    subst h;have z:=JN (P:=P) (isS:=true) (len:=0) (cap:=0) q r (zl _) (zl _) L M (B q) N Q (B r);exact qK (v:=.slice none 0 0) hi (by simp[Instr.sliceAt,zO y,Instr.slice,z,yx a]) (.c .nil)
   ·cases h
  ·cases h
 ·rename_i e id off n y;have H:=D.Za;obtain⟨cap,R,g2,g3,g4,rfl⟩:=D.xA;split at h
  ·rename_i m l k a q r;split at h;rename_i b hbl;split at h
   ·rename_i f;obtain⟨hbm,f⟩:=f;injection h with h
    have z:=JN (P:=P) (isS:=true) (cap:=cap) q r f.1 (by omega) L M (B q) N Q (B r);by_cases I:l=0
    ·subst I;simp only[qA]at h;subst h;refine qK (v:=.slice (some ⟨(G id).g,off*(G id).s,none⟩) k cap) hi ?_ (.own R (by omega) g3 g4 H);by_cases J:cap=0
     ·subst J;simp[Instr.sliceAt,zO y,Instr.slice,z,yx a]
     ·simp[Instr.sliceAt,zO y,Instr.slice,z,yx a,J,kq]
    ·rw[ze I]at h;by_cases K:k=l
     ·subst K;simp only[qA]at h;subst h;refine qK (v:=_) hi (by simp[Instr.sliceAt,zO y,Instr.slice,z,yx a];rfl) (.c ?_);exact .sl (es:=[]) (fun _ _=>undef) (fun W=>by split at W<;>simp_all) (by simp) (by omega) (by simp) (by simp) (by simp)
     ·rw[ze K]at h;subst h;have hcl:¬cap=l:=by omega
      refine qK (v:=.slice (some ⟨(G id).g,(off+l)*(G id).s,none⟩) (k-l) (cap-l)) hi ?_ (.own R (by omega) (by omega) ?_ H)
      ·have hgs:(G id).s=m:=by rw[<-(hi.live id b hbl).bs,hbm]
       simp[Instr.sliceAt,zO y,Instr.slice,z,yx a,hcl,kq,hgs,q7]
      ·rw[show off+l+(cap-l)=off+cap from by omega];exact g4
   ·cases h
   ·cases h
  ·cases h
 ·cases h
theorem sX(hi:Inv P w S G Y Z){f:Fn}{xs ys:zb}{us ts:Array Value}(d:Zip (qx w S G Z) xs us.toList)(e:Zip (qx w S G Z) ys ts.toList) :
  Ww dr P w Y Z S G (.fn f xs ys) Y Z ((Instr.makeFunc f us ts).run P w):=
 qK (v:=.func f us ts) hi rfl (.fn (by simpa using d.1) (by simpa using e.1) (fun j c x a b=>d.2 j c x a (by simpa using b)) (fun j c x a b=>e.2 j c x a (by simpa using b)))
theorem Ea{z:Array Value}{n s i j:Nat}(hs:z.size=s)(hi:i<n)(b:j<s):(madeCells z (n*s))[i*s+j]?=z[j]?:=by
 have a:i*s+j<n*s:=vO hi b;unfold madeCells;rw[Array.getElem?_map,Array.getElem?_range,zd a];have c:(i*s+j) % s=j:=by rw[DT,Nat.add_mul_mod_self_right];exact Nat.mod_eq_of_lt b
 simp only[zK,hs,c];rw[QX (by omega)];simp only[qj];exact(XC z j (by omega))
theorem oo(hi:Inv P w S G Y Z){t:TypeId}{p q x:O}{E:Hp}{F:Nat}{u v:Value}(h:ZA P Y Z t p q=some (x,E,F))(L:qx w S G Z p u)(M:qx w S G Z q v) :
  Ww dr P w Y Z S G x E F ((Instr.makeSlice t u v).run P w):=by
 unfold ZA at h;split at h
 ·rename_i N l Q c;obtain⟨rfl,_⟩:=L.yq;obtain⟨rfl,_⟩:=M.yq;split at h
  ·rename_i e R;split at h
   ·rename_i n by_ z H T W;split at h
    ·rename_i X;obtain⟨I,o,c3,c4,J,c6⟩:=X;injection h with h
     injection h with ex h;injection h with eh en;subst ex;subst eh;subst en;obtain⟨i,d,r,i2,i3⟩:=Q5 W;obtain⟨z1,z2⟩:=jJ (w:=w) (S:=S) i3;have f:i.size=n:=by simpa[qF,r]using H
     have s:i.bytes=by_:=by simpa[j7,r]using T
     have y:d.cells.size=n:=by rw[<-o,z1];simp
     have hm:c.toNat<=9223372036854775807:=by simpa[maxLen]using J
     have b:(i.bytes:Int)*c<=281474976710656:=by
      have:((c.toNat*by_:Nat):Int)<=140737488355328:=by omega
      rw[Int.natCast_mul,Int.toNat_of_nonneg (by omega)]at this;rw[s,Int.mul_comm];omega
     have hr:=run_make (P:=P) w t e i d (vM R) r i2 N Q l c c3 c4 b (by omega);have g:l.toNat<=c.toNat:=by omega
     have k:=vA.alloc (dr:=dr) hi (madeCells d.cells (c.toNat*i.size)) e true (List.replicate l.toNat z) n I (by simpa[qF]using H) (fun c' A=>by rw[(List.mem_replicate.1 A).2];exact o)
      (by rw[size_madeCells,f,List.length_replicate];exact zY _ g) (fun i' j c' pv a K=>by
       have B:i'<l.toNat:=by have:=(zn.1 a).1;simpa using this
       rw[YR,zd B]at a;injection a with a
       subst a;have C:j<n:=by rw[<-o];exact(zn.1 K).1
       have m:j<d.cells.size:=by omega
       rw[f,Ea y (by omega) C];have D:=z2 j pv d.cells[j] K (by simp[m]);exact⟨d.cells[j],by simp[m],fun _=>D.1,.c D.1,D.2.1⟩)
     refine⟨_,_,_,_,hr,k,?_⟩;have:=qx.own (w:=w.alloc (.cells (madeCells d.cells (c.toNat*i.size)) e)) (S:=S) (G:=qR G Z ⟨w.heap.size,(madeCells d.cells (c.toNat*i.size)).size,n⟩) (Z:=Z+1) (id:=Z) (off:=0) (n:=l.toNat) (cap:=c.toNat) (by omega) g J (by simp[size_madeCells,f]) (by simpa using I);simpa using this
    ·cases h
   ·cases h
  ·cases h
 ·cases h
end
variable{dr:Prop}
section
variable{P:Program}{w:World}{S:Nat->Prop}{G:Nat->GI}{Y:Hp}{Z:Nat}
theorem vA.Bc{Y1:Hp}{w':World}(hi:Inv P w S G Y Z)(a:∀id b,Y1 id=some b->Y id=some b)(f:GI)(e:TypeId)(y:Bool)(es:List zb)(q:Array Value)
  (os:w'.os=w.os) (C:w'.tape=w.tape) (r:w'.output=w.output) (v:w.heap.size<=w'.heap.size) (A:w.drawn<=w'.drawn)
  (D:Nat->Prop) (M:∀b,D b->vo Y G b/\¬S b/\∀id t,Y1 id=some t->(G id).g≠b)
  (m:∀b,b<w.heap.size->b≠f.g->¬D b->w'.heap[b]?=w.heap[b]?) (B:∀id b,Y1 id=some b->(G id).g≠f.g) (E:¬S f.g) (F:vo Y G f.g\/w.heap.size<=f.g)
  (N:0<f.s) (Q:(P.info? e).map (·.size)=some f.s) (H:∀c∈es,c.length=f.s) (I:es.length*f.s<=f.z) (J:w'.heap[f.g]?=some (.cells q e (0,0))) (R:q.size=f.z)
  (K:∀(i j:Nat) (c:zb) (L:O),es[i]?=some c->c[j]?=some L->∃u,q[i*f.s+j]?=some u/\jN w S G Z y L u) :
  vA dr P Y Z S G w (qR Y1 Z (some ⟨e,f.s,y,es⟩)) (Z+1) S (qR G Z f) w':=by
 have T:∀b,S b->S b/\w'.heap[b]?=w.heap[b]?:=fun b d=>⟨d,m b (hi.st b d) (fun e=>E (e ▸ d)) fun h=>(M b h).2.1 d⟩
 have p:∀id,id<Z->qR G Z f id=G id:=fun id hid=>wM _ _ _ _ (by omega)
 have l:∀id,id≠Z->qR Y1 Z (some ⟨e,f.s,y,es⟩) id=Y1 id:=fun id hid=>wM _ _ _ _ hid
 refine⟨⟨fun b d=>jF (hi.st b d) v,fun id b d=>?_,fun id b d=>?_,fun id b d=>?_,fun id id' b t d n x=>?_,hi.oa.mono T⟩,by omega,p,fun _ d=>d,fun _ d=>.inl d,fun id b d=>?_,⟨os,C,r,v,fun _=>A,fun k hk X=>m k hk (fun e=>?_) fun h=>X (M k h).1⟩⟩
 ·by_cases hid:id=Z
  ·omega
  ·rw[l id hid]at d;have:=hi.top id b (a id b d);omega
 ·by_cases hid:id=Z
  ·subst hid;simp only[yd]at d⊢;injection d with d
   subst d;refine .xz N rfl ⟨Q,H,I,q,J,R,fun i j c L W hj=>?_⟩;obtain⟨u,h1,h2⟩:=K i j c L W hj;exact⟨u,h1,h2.mono T (by omega) p⟩
  ·rw[l id hid]at d;have ht:=hi.top id b (a id b d);rw[p id ht];have hl:=hi.live id b (a id b d);exact hl.mono T (by omega) p (m _ hl.lt (B id b d) fun h=>(M _ h).2.2 id b d rfl)
 ·by_cases hid:id=Z
  ·subst hid;simpa using E
  ·rw[l id hid]at d;rw[p id (hi.top id b (a id b d))];exact hi.apart id b (a id b d)
 ·by_cases hid:id=Z<;>by_cases o:id'=Z
  ·omega
  ·subst hid;rw[l id' o]at n;rw[p id' (hi.top id' t (a id' t n))]at x;simp only[yd]at x;exact(B id' t n x.symm).elim
  ·subst o;rw[l id hid]at d;rw[p id (hi.top id b (a id b d))]at x;simp only[yd]at x;exact(B id b d x).elim
  ·rw[l id hid]at d;rw[l id' o]at n;rw[p id (hi.top id b (a id b d)),p id' (hi.top id' t (a id' t n))]at x;exact hi.inj id id' b t (a id b d) (a id' t n) x
 ·by_cases hid:id=Z
  ·subst hid;simpa using F
  ·rw[l id hid]at d;rw[p id (hi.top id b (a id b d))];exact .inl ⟨id,b,a id b d,rfl⟩
 ·subst e;rcases F with h|h
  ·exact X h
  ·omega
theorem VP(hi:Inv P w S G Y Z){n:Nat}{x:O}{xs:List zb}{u:Value}(h:view Y n x=some xs)(r:qx w S G Z x u) :
  ∃(A:Option Addr) (c:Nat) (f:Nat->Value),u=.slice A xs.length c/\(∀l∈xs,l.length=n) /\
   ∀(i j:Nat) (l:zb) (d:O),xs[i]?=some l->l[j]?=some d->∃ad,A=some ad/\w.cell? (ad.add (i*n+j))=some (f (i*n+j))/\jN w S G Z true d (f (i*n+j)):=by
 have N:∀(A:Option Addr) (xs:List zb) (c:Nat),yb w S (.sl n xs) (.slice A xs.length c)->(∃us:Nat->Nat->Value,(∀l∈xs,l.length=n) /\
   (∀(i j:Nat) (c:zb) (d:O),xs[i]?=some c->c[j]?=some d->∃ad,A=some ad/\w.cell? (ad.add (i*n+j))=some (us i j)/\(us i j).oneCell'=true/\yb w S d (us i j))):=by
  intro A xs c h;cases h with
  |sl us Q H I t J E=>refine⟨us,t,fun i j c d a b=>?_⟩;obtain⟨ad,e,_,o,q⟩:=J i j c d a b;exact⟨ad,e,o,q,E i j c d a b⟩
 have y:∀(A:Option Addr) (c:Nat) (us:Nat->Nat->Value),(∀l∈xs,l.length=n) ->
   (∀(i j:Nat) (c:zb) (d:O),xs[i]?=some c->c[j]?=some d->∃ad,A=some ad/\w.cell? (ad.add (i*n+j))=some (us i j)/\jN w S G Z true d (us i j))->u=.slice A xs.length c ->
   ∃(A:Option Addr) (c:Nat) (f:Nat->Value),u=.slice A xs.length c/\(∀l∈xs,l.length=n) /\
    ∀(i j:Nat) (l:zb) (d:O),xs[i]?=some l->l[j]?=some d->∃ad,A=some ad/\w.cell? (ad.add (i*n+j))=some (f (i*n+j))/\jN w S G Z true d (f (i*n+j)):=by
  intro A c us H I t;refine⟨A,c,fun k=>match A with|some ad=>(w.cell? (ad.add k)).getD undef|none=>undef,t,H,fun i j l d m K=>?_⟩;obtain⟨ad,rfl,o,q⟩:=I i j l d m K;exact⟨ad,rfl,by simp[o],by simpa[o]using q⟩
 unfold view at h;split at h
 ·injection h with h;subst h;have:=r.ZV;subst this;exact⟨none,0,fun _=>undef,rfl,by simp,by simp⟩
 ·injection h with h;subst h;obtain⟨ad,cap,rfl,_⟩:=r.sN;exact⟨some ad,cap,fun _=>undef,rfl,by simp,by simp⟩
 ·rename_i s es;split at h
  ·rename_i hs;subst hs;injection h with h
   subst h;have L:=r.eo;cases L with
   |sl us Q H I t J E=>refine y _ _ us t (fun i j c d a b=>?_) rfl;obtain⟨ad,e,_,o,q⟩:=J i j c d a b;exact⟨ad,e,o,fun _=>E i j c d a b,.c (E i j c d a b),q⟩
  ·cases h
 ·rename_i id off k;split at h
  ·rename_i b R;split at h
   ·rename_i L;injection h with h
    obtain⟨T,W,c3⟩:=L;have z:=r.Za;obtain⟨cap,o,q,g3,g4,rfl⟩:=r.xA;have p:=hi.live id b R;obtain⟨B,X,r2,r3⟩:=p.row z;have hs:(G id).s=n:=by rw[<-p.bs,W]
    have hl:xs.length=k:=by rw[<-h];simp;omega
    have C:∀(i:Nat) (c:zb),xs[i]?=some c->b.es[off+i]?=some c:=by
     intro i c m;rw[<-h,qN]at m;split at m
     ·rwa [wc]at m
     ·cases m
    refine y (some ⟨(G id).g,off*(G id).s,none⟩) cap (fun i j=>(B[(off+i)*n+j]?).getD undef) (fun l D=>?_) (fun i j c d m K=>?_) (by rw[hl])
    ·rw[<-h]at D;rw[<-hs];exact p.len z l (YP _ _ (XB _ _ D))
    ·obtain⟨v,F,M⟩:=r3 (off+i) j c d (C i c m) K;refine⟨_,rfl,?_,?_⟩
     ·rw[kq,zga w _ _ B _ _ X,hs];rw[hs]at F;rw[show off*n+(i*n+j)=(off+i)*n+j from by rw[q7];omega,F];rfl
     ·rw[hs]at F;simp only[F,YS];rw[T]at M;exact M
   ·cases h
  ·cases h
 ·cases h
theorem Tk{n k m:Nat}(a:0<n)(b:k<m*n):k/n<m/\k % n<n/\k/n*n+k % n=k:=by refine⟨(Nat.div_lt_iff_lt_mul a).2 b,Nat.mod_lt _ a,?_⟩;rw[zeN];exact Nat.div_add_mod k n
theorem bo{n:Nat}{xs:List zb}{A:Option Addr}{f:Nat->Value}(l:0<n)(m:∀a∈xs,a.length=n)
  (h:∀(i j:Nat) (a:zb) (b:O),xs[i]?=some a->a[j]?=some b->∃ad,A=some ad/\w.cell? (ad.add (i*n+j))=some (f (i*n+j))/\jN w S G Z true b (f (i*n+j))) :
  ∀k,k<xs.length*n->∃ad,A=some ad/\w.cell? (ad.add k)=some (f k)/\(f k).oneCell'=true:=by
 intro k o;obtain⟨c,s,p⟩:=Tk l o;have q:xs[k/n]?=some xs[k/n]:=zq c;have r:xs[k/n].length=n:=m _ (zj c);obtain⟨ad,e,d,g⟩:=h (k/n) (k % n) _ (xs[k/n][k % n]'(by omega)) q (zq (by omega));rw[p]at d g;exact⟨ad,e,d,g.2.2⟩
theorem Bm(t ty e:TypeId)(i:TypeInfo)(z:Value)(x:P.underlying t=some (.slice e))(hi:P.info? e=some i)(D:i.zero=some z)(E:0<i.size)
  (v:Value) (n:Nat) (xs:List Value) (h:w.ownsRow 0 e i.size v n xs) (a:Addr) (m c:Nat) (b:List Value) (p:b.length=m*i.size) (d:∀j u,b[j]?=some u->w.cell? (a.add j)=some u) (F:∀u∈b,u.oneCell'=true)
  (A:n+m<=maxLen) (f:(n+m)*i.bytes<=140737488355328) {G:Value} {w':World} (r:(Builtin.append_ #[t,t] ty #[v,.slice (some a) m c]).run P w=.ok G w'):w.drawn<=w'.drawn:=by
 have y:n+m<=9223372036854775807:=by simp only[maxLen]at A;omega
 rcases h.2 with⟨rfl,rfl⟩|⟨g,cap,q,rfl,H,I,J,K,B,C⟩
 ·by_cases L:m=0
  ·subst L;have M:b=[]:=Ze (by simpa using p);subst M;have l:(Builtin.append_ #[t,t] ty #[.slice none 0 0,.slice (some a) 0 c]).run P w=.ok (.slice none 0 0) w:=by simp[Builtin.append_,zO x,sizeOf,typeInfo,hi,Builtin.lenOf,Builtin.firstCells,loadCells,loadCellsFrom]
   rw[l]at r;injection r with _ r
   rw[<-r];exact zl _
  ·have l:=run_append_nil (P:=P) w t ty e i z x hi D a m c b p d (by omega) (by omega) (by have N:=f;simp only[wJ]at N;omega);rw[l]at r;injection r with _ r
   rw[<-r];exact Ws _
 ·by_cases k:n+m<=cap
  ·have s:n*i.size+b.length<=q.size:=by rw[p,B,<-q7];exact zY _ k
   have l:=run_append_room (P:=P) w t ty e i x hi g n cap q I a m c b p d F k s;rw[l]at r;injection r with _ r
   rw[<-r];exact zl _
  ·have o:∀j u,xs[j]?=some u->w.cell? ((⟨g,0,none⟩:Addr).add j)=some u:=h.cells (g:=g) rfl;have l:=run_append_grow (P:=P) w t ty e i z x hi D ⟨g,0,none⟩ n cap xs h.1 o a m c b p d (by omega) (by omega) (growslice_fits (by omega) f);rw[l]at r;injection r with _ r
   rw[<-r];exact Ws _
def IE(P:Program)(w:World)(t t' ty e:TypeId)(n by_ m:Nat)(x:Value)(a:List Value):Prop:=
 ∀(base:Nat) (v:Value) (k:Nat) (olds:List Value),w.ownsRow base e n v k olds->base<=w.heap.size->k+m<=maxLen->(k+m)*by_<=140737488355328 ->
  ∃b w',(Builtin.append_ #[t,t'] ty #[v,x]).run P w=.ok b w'/\w'.ownsRow base e n b (k+m) (olds++a)/\w.grownBy w' v.ownBlock/\(b.ownBlock=v.ownBlock\/b.ownBlock=some w.heap.size)/\w.drawn<=w'.drawn/\(m=0->b=v/\w'=w)
theorem OR{t ty e:TypeId}{n by_:Nat}{i:TypeInfo}{s:Value}(l:P.underlying t=some (.slice e))(x:P.info? e=some i)(D:i.zero=some s)(b:i.size=n)(o:i.bytes=by_)(z:s.cells.size=n)(E:0<n)
  {A:Option Addr} {m c:Nat} {f:Nat->Value} (B:∀k,k<m*n->∃ad,A=some ad/\w.cell? (ad.add k)=some (f k)/\(f k).oneCell'=true):IE P w t t ty e n by_ m (.slice A m c) ((List.range (m*n)).map f):=by
 intro base v k olds a d p F;by_cases G:m=0
 ·subst G;refine⟨v,w,?_,by simpa using a,World.grownBy.refl w _,.inl rfl,zl _,fun _=>⟨rfl,rfl⟩⟩;rcases a.2 with⟨rfl,_⟩|⟨g,cap,q,rfl,_,_,K,_⟩
  ·cases A<;>simp[Builtin.append_,zO l,sizeOf,typeInfo,x,Builtin.lenOf,Builtin.firstCells,loadCells,loadCellsFrom]
  ·cases A<;>simp[Builtin.append_,zO l,sizeOf,typeInfo,x,Builtin.lenOf,Builtin.firstCells,loadCells,loadCellsFrom,K,storeCells]
 ·obtain⟨ad,rfl,_,_⟩:=B 0 (Nat.mul_pos (by omega) E);have H:∀j u,((List.range (m*n)).map f)[j]?=some u->w.cell? (ad.add j)=some u:=fun j u y=>by
   have r:j<m*n:=by have:=(zn.1 y).1;simpa using this
   obtain⟨L,C,M,_⟩:=B j r;injection C with C;subst C;rw[qQ,v8 r]at y;simp at y;rw[M,y]
  have I:∀u∈(List.range (m*n)).map f,u.oneCell'=true:=fun u l=>by obtain⟨k,N,rfl⟩:=wA.1 l;exact(B k (jo.1 N)).choose_spec.2.2
  obtain⟨Q,w',J,R,S,r4,T⟩:=run_append_own_at (P:=P) w base t ty e i s n by_ l x D b o z E v k olds a ad m c ((List.range (m*n)).map f) (by simp) H I p F d;refine⟨Q,w',J,R,S,T,?_,fun h=>(G h).elim⟩;exact Bm t ty e i s l x D (by omega) v k olds (by rw[b];exact⟨a.1,a.2.imp (fun h=>h) fun⟨g,cap,q,W,_,X⟩=>⟨g,cap,q,W,kM _,X⟩⟩) ad m c ((List.range (m*n)).map f) (by simp[b]) H I p (by rw[o];exact F) J
theorem zco{t u ty e:TypeId}{i:TypeInfo}(q:P.underlying t=some (.slice e))(hs:P.underlying u=some .string)(r:P.info? e=some i)(z:i.zero=some (.int .u8 0))(b:i.size=1)(d:i.bytes=1)(s:ByteArray) :
  IE P w t u ty e 1 1 s.size (.string s) (Lib.strCells s):=by
 intro base v k olds a f x D;rw[zk1]at D;have F:olds.length=k:=by simpa using a.1
 have y:k+s.size<=9223372036854775807:=by simp only[maxLen]at x;omega
 obtain⟨G,w',c,H,I,R⟩:=Lib.run_append_own_string (P:=P) w base t u ty e i q hs r z b d v k olds a s x D f;refine⟨G,w',c,H,I,?_⟩;by_cases j:s.size=0
 ·have l:(Builtin.append_ #[t,u] ty #[v,.string s]).run P w=.ok v w:=by
   have J:Lib.strCells s=[]:=Ze (by rw[Lib.strCells_length];exact j);have A:=Lib.run_firstCells_string (P:=P) w 1 s;rw[j,J]at A;rcases a.2 with⟨rfl,_⟩|⟨g,cap,m,rfl,_,_,K,_⟩
   ·simp[Builtin.append_,zO q,zO hs,sizeOf,typeInfo,r,b,Builtin.lenOf,j,A]
   ·simp[Builtin.append_,zO q,zO hs,sizeOf,typeInfo,r,b,Builtin.lenOf,j,A,K,storeCells]
  rw[l]at c;injection c with n o
  subst n;subst o;exact⟨.inl rfl,zl _,fun _=>⟨rfl,rfl⟩⟩
 ·rcases a.2 with⟨rfl,rfl⟩|⟨g,cap,m,rfl,L,M,N,Q,B,C⟩
  ·have l:=run_append_nil_string (P:=P) w t u ty e i (.int .u8 0) q hs r z s (by omega) (by omega) (by rw[d];omega);rw[l]at c;injection c with n o
   subst n;subst o;exact⟨.inr rfl,Ws _,fun h=>(j h).elim⟩
  ·have E:m.size=cap:=by simpa using B
   by_cases p:k+s.size<=cap
   ·have l:=Lib.run_append_room_string (P:=P) w t u ty e i q hs r b g k cap m M s p (by omega);rw[l]at c;injection c with n o
    subst n;subst o;exact⟨.inl rfl,zl _,fun h=>(j h).elim⟩
   ·have l:=Lib.run_append_grow_string (P:=P) w t u ty e i (.int .u8 0) q hs r z ⟨g,0,none⟩ k cap olds (by rw[b];omega) (a.cells (g:=g) rfl) s (by omega) (by omega) (growslice_fits (by omega) (by rw[d];omega));rw[l]at c;injection c with n o
    subst n;subst o;exact⟨.inr rfl,Ws _,fun h=>(j h).elim⟩
theorem OS{e:TypeId}(h:Nq P e=true):∃i,P.info? e=some i/\i.zero=some (.int .u8 0)/\i.size=1/\i.bytes=1:=by
 unfold Nq at h;split at h
 ·rename_i i hi;split at h
  ·rename_i z a;simp only[zH,jq]at h;obtain⟨⟨rfl,b⟩,c⟩:=h;exact⟨i,hi,a,b,c⟩
  ·cases h
 ·cases h
theorem Tl{u:TypeId}(h:strU P u=true):P.underlying u=some .string:=by
 unfold strU at h;split at h
 ·assumption
 ·cases h
theorem Eb(hi:Inv P w S G Y Z){t t' ty:TypeId}{s x y:O}{Y':Hp}{Z':Nat}{u v:Value}(h:jU P Y Z t t' s x=some (y,Y',Z'))(hs:qx w S G Z s u)(hx:qx w S G Z x v) :
  Ww dr P w Y Z S G y Y' Z' ((Builtin.append_ #[t,t'] ty #[u,v]).run P w):=by
 unfold jU at h;split at h
 ·rename_i e he;split at h
  ·rename_i n by_ z h1 h2 h3;split at h
   ·rename_i xs H;obtain⟨i,vz,i1,i2,i3⟩:=Q5 h3;have hsz:i.size=n:=by simpa[qF,i1]using h1
    have hby:i.bytes=by_:=by simpa[j7,i1]using h2
    have hzl:=(jJ (w:=w) (S:=S) i3).1;have hu:=vM he;have M:0<n->z.length=n->∃o,IE P w t t' ty e n by_ xs.length v o/\o.length=xs.length*n/\(∀d∈xs,d.length=n) /\
      ∀(i j:Nat) (d:zb) (q:O),xs[i]?=some d->d[j]?=some q->∃Q,o[i*n+j]?=some Q/\jN w S G Z true q Q:=by
     intro hn hzl';unfold od at H;split at H
     ·rename_i b;split at H
      ·rename_i hc;injection H with H
       subst H;obtain⟨i',j1,j2,j3,j4⟩:=OS hc.2;rw[i1]at j1;injection j1 with j1
       subst j1;have hn1:n=1:=by omega
       have hb1:by_=1:=by omega
       subst hn1;subst hb1;have hvs:v=.string b:=by
        cases hx with
        |c h=>cases h;rfl
       subst hvs;have hl:(b.data.toList.map fun c=>[O.v (.int .u8 c.toNat)]).length=b.size:=by rw[jL,yk];rfl
       refine⟨Lib.strCells b,by rw[hl];exact zco hu (Tl hc.1) i1 j2 j3 j4 b,by rw[hl,Lib.strCells_length,zk1],fun d R=>?_,fun i j d q a r=>?_⟩
       ·obtain⟨x,_,rfl⟩:=wA.1 R;rfl
       ·rw[qQ]at a;obtain⟨x,hx1,rfl⟩:=Option.map_eq_some_iff.1 a;obtain rfl:j=0:=by have:=(zn.1 r).1;simpa using this
        simp only[List.getElem?_cons_zero,qj]at r;subst r;refine⟨.int .u8 x.toNat,?_,fun _=>.v rfl,.c (.v rfl),rfl⟩;unfold Lib.strCells;rw[qQ,zk1,Wt,hx1];rfl
      ·cases H
     ·split at H
      ·rename_i he';subst he';obtain⟨A,c,f,rfl,J,f2⟩:=VP hi H hx;have hzc:vz.cells.size=n:=by rw[<-hzl',hzl];simp
       refine⟨(List.range (xs.length*n)).map f,OR hu i1 i2 hsz hby hzc hn (bo hn J f2),by simp,J,fun i j d q a r=>?_⟩;obtain⟨ad',a1,a2,a3⟩:=f2 i j d q a r;have B:j<n:=by rw[<-J d (zM a)];exact(zn.1 r).1
       have D:i<xs.length:=(zn.1 a).1;have E:=vO (n:=xs.length) D B;exact⟨f (i*n+j),by rw[qQ,v8 E];rfl,a3⟩
      ·cases H
    split at h
    ·split at h
     ·rename_i hc;obtain⟨c1,c2,c3,c4⟩:=hc;have:=hs.ZV;subst this;obtain⟨o,hA,_,J,f2⟩:=M c1 c2;split at h
      ·rename_i hm;injection h with h
       injection h with ey h;injection h with eh en;subst ey;subst eh;subst en;obtain⟨v',w',r1,_,_,_,_,r6⟩:=hA w.heap.size (.slice none 0 0) 0 [] (World.ownsRow_nil w _ e n) (zl _) (by simpa using c3) (by simpa using c4);obtain⟨rfl,rfl⟩:=r6 hm;exact qK (v:=.slice none 0 0) hi r1 (.c .nil)
      ·rename_i hm;injection h with h
       injection h with ey h;injection h with eh en;subst ey;subst eh;subst en;obtain⟨v',w',r1,r2,C,r5,rd,_⟩:=hA w.heap.size (.slice none 0 0) 0 [] (World.ownsRow_nil w _ e n) (zl _) (by simpa using c3) (by simpa using c4);simp only[wJ,wC]at r2;rcases r2.2 with⟨e1,e2⟩|⟨g,cap,m,rfl,e2,e3,e4,e5,e6,e7⟩
       ·exact(hm e2).elim
       ·have hg:g=w.heap.size:=by rcases r5 with h5|h5<;>simp[Value.ownBlock]at h5;exact h5
        subst hg;have k:=vA.Bc (dr:=dr) (Y1:=Y) hi (fun _ _ h=>h) ⟨w.heap.size,m.size,n⟩ e true xs m C.os C.tape C.output C.size rd (fun _=>False) (fun _ h=>h.elim) (fun b I T _=>C.block b I (by simp[Value.ownBlock])) (fun id b I=>Nat.ne_of_lt (hi.live id b I).lt)
         (fun hS=>by have:=hi.st _ hS;simp at this) (.inr (zl _)) c1 (by simpa[qF]using h1) J (by rw[e6];exact zY _ e4) e3 rfl (fun i' j d q a r=>by
          obtain⟨Q,a1,a3⟩:=f2 i' j d q a r;have B:j<n:=by rw[<-J d (zM a)];exact(zn.1 r).1
          have D:i'<xs.length:=(zn.1 a).1;have E:=vO (n:=xs.length) D B;refine⟨Q,?_,a3⟩;have h7:(m.toList.take (xs.length*n))[i'*n+j]?=some Q:=by rw[e7];exact a1
          rw[qN,zd E]at h7;simpa using h7)
        refine⟨_,_,_,_,r1,k,?_⟩;have:=qx.own (w:=w') (S:=S) (G:=qR G Z ⟨w.heap.size,m.size,n⟩) (Z:=Z+1) (id:=Z) (off:=0) (n:=xs.length) (cap:=cap) (by omega) e4 e5 (by simp[e6]) (by simpa using c1);simpa using this
     ·cases h
    ·rename_i id k;split at h
     ·rename_i b I;split at h
      ·rename_i hc;obtain⟨c0,c1,c2,c3,c4,c5,c6⟩:=hc;injection h with h
       injection h with ey h;injection h with eh en;subst ey;subst eh;subst en;have K:=hs.Za;obtain⟨cap,g1,g2,g3,g4,rfl⟩:=hs.xA;have hzc:vz.cells.size=n:=by rw[<-c4,hzl];simp
       have F:=hi.live id b I;obtain⟨m,q1,q2,q3⟩:=F.row K;have L:(G id).s=n:=by
        have h5:=F.size K;rw[c1]at h5;have h6:(P.info? e).map (·.size)=some n:=by simpa[qF]using h1
        rw[h6]at h5;injection h5 with h5
        exact h5.symm
       have hg0:(⟨(G id).g,0*(G id).s,none⟩:Addr)=⟨(G id).g,0,none⟩:=by simp
       rw[hg0];have hcz:m.size=cap*n:=by rw[q2,<-g4,L];simp
       have N:w.ownsRow 0 e n (.slice (some ⟨(G id).g,0,none⟩) k cap) k (m.toList.take (k*n)):=by refine⟨?_,.inr ⟨(G id).g,cap,m,rfl,kM _,by rw[<-c1];exact q1,g2,g3,hcz,rfl⟩⟩;simp only[jn,yk,hcz];exact Nat.min_eq_left (zY _ g2)
       have hsub:∀id' p,qR Y id none id'=some p->Y id'=some p:=fun id' p h=>Yv h
       have hnl:∀id' p,qR Y id none id'=some p->(G id').g≠(G id).g:=fun id' p h he=>by
        have T:id'≠id:=by rintro rfl;simp at h
        exact T (hi.inj id' id p b (Yv h) I he)
       obtain⟨o,hA,_,J,f2⟩:=M c3 c4;obtain⟨v',w',r1,r2,C,r5,rd,_⟩:=hA 0 _ k _ N (kM _) c5 c6;simp only[Value.ownBlock]at C r5;rcases r2.2 with⟨e1,e2⟩|⟨g,cap',l,rfl,e2,e3,e4,e5,e6,e7⟩
       ·subst e1;simp[Value.ownBlock]at r5
       ·have hg:g=(G id).g\/g=w.heap.size:=by simpa[Value.ownBlock]using r5
        have hgl:=F.lt;have SN:∀(i' j:Nat) (d:zb) (q:O),(b.es++xs)[i']?=some d->d[j]?=some q->∃u,l[i'*n+j]?=some u/\jN w S G Z true q u:=by
         intro i' j d q a r;have hcl:d.length=n:=by
          rcases qg.1 (zM a)with h|h
          ·rw[<-L];exact F.len K d h
          ·exact J d h
         have B:j<n:=by rw[<-hcl];exact(zn.1 r).1
         have D:i'<k+xs.length:=by have:=(zn.1 a).1;simp at this;omega
         have E:=vO (n:=k+xs.length) D B;have h7:(l.toList.take ((k+xs.length)*n))[i'*n+j]?=l[i'*n+j]?:=by rw[qN,zd E];simp
         rw[<-h7,e7];have hkl:(m.toList.take (k*n)).length=k*n:=N.1;by_cases W:i'<k
         ·have hlt':=vO (n:=k) W B;rw[qp (by rw[c2]at W;exact W)]at a;rw[qp (by omega),qN,zd hlt'];obtain⟨Q,u1,u2⟩:=q3 i' j d q a r;rw[L]at u1;rw[c0]at u2;exact⟨Q,by simpa using u1,u2⟩
         ·rw[z8 (by omega),<-c2]at a;have hge:k*n<=i'*n:=zY _ (by omega);rw[z8 (by omega),hkl];have hkk:i'*n+j-k*n=(i'-k)*n+j:=by rw[Nat.sub_mul];omega
          rw[hkk];exact f2 (i'-k) j d q a r
        have k2:=vA.Bc (dr:=dr) (Y1:=qR Y id none) hi hsub ⟨g,l.size,n⟩ e true (b.es++xs) l C.os C.tape C.output C.size rd
         (fun p=>p=(G id).g) (fun p X=>by subst X;exact⟨⟨id,b,I,rfl⟩,hi.apart id b I,hnl⟩)
         (fun p X T hbg=>C.block p X (by simpa using hbg))
         (fun id' p h=>by
          rcases hg with h'|h'
          ·simp only[h'];exact hnl id' p h
          ·simp only[h'];exact Nat.ne_of_lt (hi.live id' p (Yv h)).lt)
         (by
          rcases hg with h'|h'
          ·simp only[h'];exact hi.apart id b I
          ·simp only[h'];intro hS;have:=hi.st _ hS;simp at this)
         (by
          rcases hg with h'|h'
          ·simp only[h'];exact .inl ⟨id,b,I,rfl⟩
          ·simp only[h'];exact .inr (zl _))
         c3 (by simpa[qF]using h1)
         (fun d R=>by
          rcases qg.1 R with h|h
          ·simp only[<-L];exact F.len K d h
          ·exact J d h)
         (by rw[qt,<-c2,e6];exact zY _ e4) e3 rfl SN
        refine⟨_,_,_,_,r1,k2,?_⟩;have:=qx.own (w:=w') (S:=S) (G:=qR G Z ⟨g,l.size,n⟩) (Z:=Z+1) (id:=Z) (off:=0) (n:=k+xs.length) (cap:=cap') (by omega) e4 e5 (by simp[e6]) (by simpa using c3);simpa using this
      ·cases h
     ·cases h
    ·cases h
   ·cases h
  ·cases h
 ·cases h
end
variable{dr:Prop}
section
variable{P:Program}{w:World}{S:Nat->Prop}{G:Nat->GI}{Y:Hp}{Z:Nat}
theorem vA.allocMap(h:Inv P w S G Y Z)(t:TypeId):vA dr P Y Z S G w (qR Y Z (some ⟨t,0,false,[]⟩)) (Z+1) S (qR G Z ⟨w.heap.size,0,0⟩) (w.alloc (.map #[] 0)):=by
 have j:∀b,b<w.heap.size->(w.alloc (.map #[] 0)).heap[b]?=w.heap[b]?:=fun b a=>Below.heap_alloc w _ b a
 have r:∀b,S b->S b/\(w.alloc (.map #[] 0)).heap[b]?=w.heap[b]?:=fun b a=>⟨a,j b (h.st b a)⟩
 have n:∀id,id<Z->qR G Z ⟨w.heap.size,0,0⟩ id=G id:=fun id hid=>wM _ _ _ _ (by omega)
 have d:∀id,id≠Z->qR Y Z (some (⟨t,0,false,[]⟩:kV)) id=Y id:=fun id hid=>wM _ _ _ _ hid
 have l:(w.alloc (.map #[] 0)).heap.size=w.heap.size+1:=by show(w.heap.push _).size=_;simp
 have o:∀id b,Y id=some b->(G id).g<w.heap.size:=fun id b a=>(h.live id b a).lt
 refine⟨⟨fun b a=>by rw[l];have:=h.st b a;omega,fun id b a=>?_,fun id b a=>?_,fun id b a=>?_,fun id id' b q a f p=>?_,h.oa.mono r⟩,by omega,n,fun _ a=>a,fun _ a=>.inl a,fun id b a=>?_,⟨rfl,rfl,rfl,by rw[l];omega,fun _=>zl _,fun k s _=>j k s⟩⟩
 ·by_cases hid:id=Z
  ·omega
  ·rw[d id hid]at a;have:=h.top id b a;omega
 ·by_cases hid:id=Z
  ·subst hid;simp only[yd]at a⊢;injection a with a
   subst a;exact⟨rfl,fun u=>absurd u (by simp),fun _=>⟨#[],0,heap_alloc_new w _,rfl,fun i c e hi _=>by simp at hi⟩⟩
  ·rw[d id hid]at a;have v:=h.top id b a;rw[n id v];exact(h.live id b a).mono r (by omega) n (j _ (o id b a))
 ·by_cases hid:id=Z
  ·subst hid;simp only[yd];intro hs;have:=h.st _ hs;omega
  ·rw[d id hid]at a;rw[n id (h.top id b a)];exact h.apart id b a
 ·by_cases hid:id=Z<;>by_cases m:id'=Z
  ·omega
  ·subst hid;rw[d id' m]at f;rw[n id' (h.top id' q f)]at p;have:=o id' q f;simp at p;omega
  ·subst m;rw[d id hid]at a;rw[n id (h.top id b a)]at p;have:=o id b a;simp at p;omega
  ·rw[d id hid]at a;rw[d id' m]at f;rw[n id (h.top id b a),n id' (h.top id' q f)]at p;exact h.inj id id' b q a f p
 ·by_cases hid:id=Z
  ·subst hid;simp
  ·rw[d id hid]at a;rw[n id (h.top id b a)];exact .inl ⟨id,b,a,rfl⟩
theorem vA.zb8(h:Inv P w S G Y Z){id:Nat}{b:kV}(hid:Y id=some b)(r:(G id).s=0)(en:Array MapEntry)(f:Nat)(es:List zb)(A:en.size=es.length)
  (n:∀(i:Nat) (c:zb) (e:MapEntry),es[i]?=some c->en[i]?=some e->Bf w S c e) :
  vA dr P Y Z S G w (qR Y id (some ⟨b.e,b.s,b.arr,es⟩)) Z S G {w with heap:=w.heap.setIfInBounds (G id).g (.map en f)}:=by
 obtain⟨B,p,o,_⟩:=((h.live id b hid).ent r).row;have m:=MapKept.heap_set (o':=Obj.map en f) o;have j:∀k,k≠(G id).g->(w.heap.setIfInBounds (G id).g (.map en f))[k]?=w.heap[k]?:=m.2;have t:∀b,S b->S b/\(w.heap.setIfInBounds (G id).g (.map en f))[b]?=w.heap[b]?:=fun k d=>⟨d,j k fun e=>h.apart id b hid (e ▸ d)⟩
 have l:∀k,k≠id->qR Y id (some (⟨b.e,b.s,b.arr,es⟩:kV)) k=Y k:=fun k d=>wM _ _ _ _ d
 refine⟨⟨fun k d=>by show k<(w.heap.setIfInBounds _ _).size;simpa using h.st k d,fun k c d=>?_,fun k c d=>?_,fun k c d=>?_,fun k q c u d v x=>?_,h.oa.mono t⟩,zl _,fun _ _=>rfl,fun _ y=>y,fun _ y=>.inl y,fun k c d=>?_,⟨rfl,rfl,rfl,by simp,fun _=>zl _,fun k _ C=>j k fun e=>C ⟨id,b,hid,e.symm⟩⟩⟩
 ·by_cases a:k=id
  ·subst a;exact h.top _ b hid
  ·rw[l k a]at d;exact h.top k c d
 ·by_cases a:k=id
  ·subst a;simp only[yd]at d;injection d with d
   subst d;refine⟨(h.live _ b hid).bs,fun N=>by omega,fun _=>⟨en,f,m.1,A,fun i c e hi x=>?_⟩⟩;obtain⟨q,D,E,F,H,I⟩:=n i c e hi x;exact⟨q,D,E,F,H,I.mono t⟩
  ·rw[l k a]at d;exact(h.live k c d).mono t (zl _) (fun _ _=>rfl) (j _ fun e=>a (h.inj k id c b d hid e))
 ·by_cases a:k=id
  ·subst a;exact h.apart _ b hid
  ·rw[l k a]at d;exact h.apart k c d
 ·have z:∀k c,qR Y id (some (⟨b.e,b.s,b.arr,es⟩:kV)) k=some c->∃u,Y k=some u:=by
   intro k c d;by_cases a:k=id
   ·subst a;exact⟨b,hid⟩
   ·rw[l k a]at d;exact⟨c,d⟩
  obtain⟨J,K⟩:=z k c d;obtain⟨L,M⟩:=z q u v;exact h.inj k q J L K M x
 ·by_cases a:k=id
  ·subst a;exact .inl ⟨_,b,hid,rfl⟩
  ·rw[l k a]at d;exact .inl ⟨k,c,d,rfl⟩
theorem Bn(hi:Inv P w S G Y Z)(t:TypeId):Ww dr P w Y Z S G (.mp Z) (qR Y Z (some ⟨t,0,false,[]⟩)) (Z+1) ((Instr.makeMap t none).run P w):=by refine⟨.map (some w.heap.size),w.alloc (.map #[] 0),S,qR G Z ⟨w.heap.size,0,0⟩,by simp[Instr.makeMap],vA.allocMap hi t,?_⟩;have:=qx.mp (w:=w.alloc (.map #[] 0)) (S:=S) (G:=qR G Z ⟨w.heap.size,0,0⟩) (Z:=Z+1) (id:=Z) (by omega) (by simp);simpa using this
theorem oq{t:TypeId}{f:Option IntKind}{g:TypeId}(h:X6 P t=some (f,g)):∃a d,P.underlying t=some (.map a g)/\P.underlying a=some d/\(∀k,XK f k=true->MapKept.IsKey d k)/\(d=.string\/∃i,d=.int i):=by
 unfold X6 at h;split at h
 ·rename_i a l j;split at h
  ·rename_i i b;injection h with h
   injection h with c e;subst c;subst e;exact⟨a,.int i,j,b,fun k b=>by cases k<;>simp_all[XK,MapKept.IsKey],.inr ⟨i,rfl⟩⟩
  ·rename_i b;injection h with h
   injection h with c e;subst c;subst e;exact⟨a,.string,j,b,fun k b=>by cases k<;>simp_all[XK,MapKept.IsKey],.inl rfl⟩
  ·cases h
 ·cases h
theorem lI{d:TypeDesc}{a b:Value}{r:Bool}(hd:d=.string\/∃i,d=.int i)(c:MapKept.IsKey d a)(h:Qo a b=some r):Instr.sameNow d a b=some r:=by
 unfold Qo at h;split at h
 ·rename_i k x f y;rcases hd with rfl|⟨i,rfl⟩
  ·simp[MapKept.IsKey]at c
  ·split at h
   ·rename_i e;simpa[Instr.sameNow,e]using h
   ·cases h
 ·rename_i x y;rcases hd with rfl|⟨i,rfl⟩
  ·injection h with h;simp only[Instr.sameNow,qj];rw[<-h,qc,MapKept.bytes_beq,jq];exact⟨fun e=>by rw[e],fun e=>by obtain⟨x⟩:=x;obtain⟨y⟩:=y;congr 1;exact(by rw[Oz,Oz]at e;exact Array.toList_inj.1 e)⟩
  ·simp[MapKept.IsKey]at c
 ·cases h
theorem K6{d:TypeDesc}{k:Value}(hd:d=.string\/∃i,d=.int i)(b:MapKept.IsKey d k):∀{es:List zb} {en:List MapEntry} {i:Nat} {r:Option (Nat×O)},es.length=en.length->(∀(j:Nat) (c:zb) (e:MapEntry),es[j]?=some c->en[j]?=some e->Bf w S c e)->Q2 k es i=some r ->
  (r=none/\Instr.findNow d k en i=some none)\/∃j v e,r=some (i+j,v)/\Instr.findNow d k en i=some (some (i+j,e.val))/\en[j]?=some e/\yb w S v e.val/\Qo k e.key=some true/\j<es.length
 |[],[],i,r,_,_,h=>by
  simp only[Q2]at h;injection h with h
  exact .inl ⟨h.symm,rfl⟩
 |[],e::en,_,_,a,_,_=>by simp at a
 |c::es,[],_,_,a,_,_=>by simp at a
 |c::es,e::en,i,r,a,l,h=>by
  obtain⟨z,v,rfl,n,_,o⟩:=l 0 c e rfl rfl;simp only[Q2]at h;subst n;split at h
  ·rename_i hs;injection h with h
   subst h;refine .inr ⟨0,v,e,rfl,?_,rfl,o,hs,by simp⟩;simp[Instr.findNow,lI hd b hs]
  ·rename_i hs;have m:=lI hd b hs;rcases K6 hd b (es:=es) (en:=en) (i:=i+1) (r:=r) (by simpa using a) (fun j c e p q=>l (j+1) c e (by simpa using p) (by simpa using q)) h with⟨f,g⟩|⟨j,s,t,f,g,u,x,y,A⟩
   ·exact .inl ⟨f,by simp[Instr.findNow,m,g]⟩
   ·refine .inr ⟨j+1,s,t,by rw[f];congr 2;omega,?_,by simpa using u,x,y,by simp;omega⟩;simp only[Instr.findNow,m,g];congr 3;omega
  ·cases h
theorem uB{t:TypeId}{z:O}(h:ew P t=some z):∃v,(zeroValue t).run P w=.ok v w/\yb w S z v:=by
 unfold ew at h;cases hi:P.info? t with
 |none=>rw[hi]at h;cases h
 |some i=>
  rw[hi]at h;simp only[qo]at h;cases a:i.zero with
  |none=>rw[a]at h;cases h
  |some v=>rw[a]at h;exact⟨v,Yf hi a w,lH h⟩
theorem Tm(hi:Inv P w S G Y Z){x:O}{u:Value}{es:List zb}(h:oe Y x=some es)(d:qx w S G Z x u) :
  (u=.map none/\es=[])\/∃r en a,u=.map (some r)/\w.heap[r]?=some (.map en a)/\en.size=es.length/\∀(i:Nat) (c:zb) (e:MapEntry),es[i]?=some c->en[i]?=some e->Bf w S c e:=by
 unfold oe at h;split at h
 ·rename_i id;obtain⟨m,f,rfl⟩:=d.zb7;split at h
  ·rename_i b g;split at h
   ·injection h with h;subst h;obtain⟨en,a,j,k,l⟩:=((hi.live id b g).ent f).row;exact .inr ⟨_,en,a,rfl,j,k,l⟩
   ·cases h
  ·cases h
 ·injection h with h;obtain⟨rfl,_⟩:=d.yq;exact .inl ⟨rfl,h.symm⟩
 ·cases h
theorem Ec(hi:Inv P w S G Y Z){t:TypeId}{p q x:O}{u v:Value}{o:Bool}(h:Qp P Y t p q o=some x)(Y':qx w S G Z p u)(hq:qx w S G Z q v):Ww dr P w Y Z S G x Y Z ((Instr.lookup t u v o).run P w):=by
 unfold Qp at h;split at h
 ·rename_i kk D es k F H;obtain⟨kt,d,s,g,I,hd⟩:=oq F;obtain⟨rfl,_⟩:=hq.yq;split at h
  ·rename_i hc;have f:=I v hc;rcases Tm hi H Y' with⟨rfl,rfl⟩|⟨r,en,J,rfl,E,W,X⟩
   ·simp only[Q2]at h;obtain⟨z,K,m⟩:∃z,ew P D=some z/\(if o=true then O.wY [z,.v (.bool false)]else z)=x:=by
     cases A:ew P D with
     |none=>rw[A]at h;cases h
     |some z=>rw[A]at h;injection h with h;exact⟨z,rfl,h⟩
    obtain⟨B,l,n⟩:=uB (w:=w) (S:=S) K;have C:Instr.findNow d v [] 0=some none:=rfl;cases o with
    |true=>
     simp only[qA]at m;subst m;refine qK (v:=.tuple #[B,.bool false]) hi ?_ (.c (.wY rfl fun j L y a b=>?_))
     ·simp[Instr.lookup,zO s,ZM g f,Qj g C,l,Result.andThen]
     ·match j,a,b with
      | 0,a,b=>simp at a b;subst a;subst b;exact n
      | 1,a,b=>simp at a b;subst a;subst b;exact .v rfl
      |j+2,a,b=>simp at a
    |false=>simp only[zF,qJ]at m;subst m;refine qK (v:=B) hi ?_ (.c n);simp[Instr.lookup,zO s,ZM g f,Qj g C,l,Result.andThen]
   ·split at h
    ·rename_i i L M;rcases K6 hd f (en:=en.toList) (by simpa using W.symm) (fun j c e N Q=>X j c e N (by simpa using Q)) M with⟨R,_⟩|⟨j,y,e,l,n,e3,e4,e5,e6⟩
     ·cases R
     ·injection l with l;injection l with l T;subst T;injection h with h;cases o with
      |true=>
       simp only[qA]at h;subst h;refine qK (v:=.tuple #[e.val,.bool true]) hi ?_ (.c (.wY rfl fun j L y a b=>?_))
       ·simp[Instr.lookup,zO s,K1 E,ZM g f,Qj g n,Result.andThen]
       ·match j,a,b with
        | 0,a,b=>simp at a b;subst a;subst b;exact e4
        | 1,a,b=>simp at a b;subst a;subst b;exact .v rfl
        |j+2,a,b=>simp at a
      |false=>simp only[zF,qJ]at h;subst h;refine qK (v:=e.val) hi ?_ (.c e4);simp[Instr.lookup,zO s,K1 E,ZM g f,Qj g n,Result.andThen]
    ·rename_i M;obtain⟨z,K,m⟩:∃z,ew P D=some z/\(if o=true then O.wY [z,.v (.bool false)]else z)=x:=by
      cases A:ew P D with
      |none=>rw[A]at h;cases h
      |some z=>rw[A]at h;injection h with h;exact⟨z,rfl,h⟩
     obtain⟨B,l,n⟩:=uB (w:=w) (S:=S) K;rcases K6 hd f (en:=en.toList) (by simpa using W.symm) (fun j c e N Q=>X j c e N (by simpa using Q)) M with⟨_,C⟩|⟨j,y,e,R,_⟩
     ·cases o with
      |true=>
       simp only[qA]at m;subst m;refine qK (v:=.tuple #[B,.bool false]) hi ?_ (.c (.wY rfl fun j L y a b=>?_))
       ·simp[Instr.lookup,zO s,K1 E,ZM g f,Qj g C,l,Result.andThen]
       ·match j,a,b with
        | 0,a,b=>simp at a b;subst a;subst b;exact n
        | 1,a,b=>simp at a b;subst a;subst b;exact .v rfl
        |j+2,a,b=>simp at a
      |false=>simp only[zF,qJ]at m;subst m;refine qK (v:=B) hi ?_ (.c n);simp[Instr.lookup,zO s,K1 E,ZM g f,Qj g C,l,Result.andThen]
     ·cases R
    ·cases h
  ·cases h
 ·cases h
theorem IF{a b:Value}(h:Qo a b=some true):b=a:=by
 unfold Qo at h;split at h
 ·rename_i k x c y;split at h
  ·rename_i e;subst e;injection h with h
   rw[jq]at h;rw[h]
  ·cases h
 ·rename_i x y;injection h with h
  rw[jq]at h;obtain⟨x⟩:=x;obtain⟨y⟩:=y;congr 2
  (rw[Oz,Oz]at h;exact Array.toList_inj.1 h.symm)
 ·cases h
theorem lJ(hi:Inv P w S G Y Z){t:TypeId}{p q y:O}{Y':Hp}{u v z:Value}(h:Q3 P Y t p q y=some Y')(hu:qx w S G Z p u)(hq:qx w S G Z q v)(hy:qx w S G Z y z) :
  ∃w' S' G',(Instr.mapUpdate t u v z).run P w=.ok () w'/\vA dr P Y Z S G w Y' Z S' G' w':=by
 unfold Q3 at h;split at h
 ·rename_i kk et id k I;obtain⟨kt,d,r,B,J,hd⟩:=oq I;obtain⟨rfl,m⟩:=hq.yq;obtain⟨m1,K,rfl⟩:=hu.zb7;split at h
  ·rename_i hc;have g:=J v hc;split at h
   ·rename_i C Y1 hf;obtain⟨S1,s,hr,_,_⟩:=vL hi hf hy;split at h
    ·rename_i b L;split at h
     ·obtain⟨en,l,D,E,F⟩:=((s.inv.live id b L).ent K).row;split at h
      ·rename_i i pv n;injection h with h
       subst h;rcases K6 hd g (en:=en.toList) (by simpa using E.symm) (fun j c e M N=>F j c e M (by simpa using N)) n with⟨Q,_⟩|⟨j,x,e,H,e2,e3,e4,e5,e6⟩
       ·cases Q
       ·injection H with H;injection H with H e1';have R:i=j:=by omega
        subst R;have A:en[i]?=some e:=by simpa using e3
        have T:e.key=v:=IF e5;have W:=vA.zb8 (dr:=dr) s.inv L K (en.modify i fun e=>{e with key:=v,val:=z}) l (b.es.set i [.v v,C]) (by simpa using E) (fun i' c X f a=>by
         rw[Qv]at a;by_cases o:i=i'
         ·subst o;rw[zd rfl,A]at a;rw[ZT e6]at f;injection f with f
          simp only[zK,qj]at a;subst a;subst f;exact⟨v,C,rfl,rfl,m,hr⟩
         ·rw[ze o]at a;rw[jC o]at f;exact F i' c X f a)
        refine⟨_,S1,G,?_,s.trans W⟩;simp[Instr.mapUpdate,zO r,K1 D,ZM B g,Qj B e2,A,T,MapKept.run_keyThatStays g,MapKept.run_setObj_map _ D,Result.andThen]
      ·rename_i n;injection h with h
       subst h;rcases K6 hd g (en:=en.toList) (by simpa using E.symm) (fun j c e M N=>F j c e M (by simpa using N)) n with⟨_,hn⟩|⟨j,x,e,Q,_⟩
       ·have W:=vA.zb8 (dr:=dr) s.inv L K (en.push {key:=v,val:=z,born:=l}) (l+1) (b.es++[[.v v,C]]) (by simp[E]) (fun i' c X f a=>by
         rw[Array.getElem?_push]at a;split at a
         ·rename_i hil;injection a with a
          subst a;rw[z8 (by omega)]at f;have:i'-b.es.length=0:=by omega
          rw[this]at f;simp at f;exact⟨v,C,f.symm,rfl,m,hr⟩
         ·rename_i hil;have hlt:i'<en.size:=(qE.1 a).1;rw[qp (by omega)]at f;exact F i' c X f a)
        refine⟨_,S1,G,?_,s.trans W⟩;simp[Instr.mapUpdate,zO r,K1 D,ZM B g,Qj B hn,MapKept.run_setObj_map _ D,Result.andThen]
       ·cases Q
      ·cases h
     ·cases h
    ·cases h
   ·cases h
  ·cases h
 ·cases h
end
end Go.AM
