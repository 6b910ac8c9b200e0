/- Lemmas. -/
import Derived.WalkKit
import Derived.ChangeAgain
import Derived.Lib.ItoaNum
import Derived.Test.YtjnfibncnabkmaaGreatDoorG0
set_option maxRecDepth 8000
set_option maxHeartbeats 4000000
open Go Proofs Proofs.YtjnfibncnabkmaaGreatDoor Proofs.Tryz RowKit AM SpanLaw Q Zz
namespace Go.AM
variable{dr:Prop}
inductive O where
 |v (x:Value)
 |nil
 |agg (cs:List O)
 |wL (cs:List O)
 |sl (s:Nat) (es:List (List O))
 |em
 |ptr (cs:List O)
 |own (id off n:Nat)
 |ref (id i j:Nat)
 |mp (id:Nat)
 |fn (f:Fn) (first captured:List O)
def lit:Value->Bool
 | .bool _|.int _ _|.string _|.nilFunc|.pointer none|.nilIface|.map none|.slice (some _) 0 0=>true
 |_=>false
def O.ye:O->Bool
 | .agg _|.wL _=>false
 |_=>true
inductive wT (w:World) (S:Nat->Prop):O->Value->Prop
 |v {x:Value}:lit x=true->wT w S (.v x) x
 |nil:wT w S .nil (.slice none 0 0)
 |em {ad:Addr} {cap:Nat}:cap<=maxLen->wT w S .em (.slice (some ad) 0 cap)
 |agg {cs:List O} {us:Array Value}:cs.length=us.size->(∀(j:Nat) (pv:O) (u:Value),cs[j]?=some pv->us[j]?=some u->wT w S pv u)->wT w S (.agg cs) (.agg us)
 |wL {cs:List O} {us:Array Value}:cs.length=us.size->(∀(j:Nat) (pv:O) (u:Value),cs[j]?=some pv->us[j]?=some u->wT w S pv u)->wT w S (.wL cs) (.tuple us)
 |sl {es:List (List O)} {A:Option Addr} {cap s:Nat} (us:Nat->Nat->Value):(A=none->cap=0)->es.length<=cap->cap<=maxLen->(∀c∈es,c.length=s) ->
   (∀(i j:Nat) (c:List O) (pv:O),es[i]?=some c->c[j]?=some pv->∃ad,A=some ad/\S ad.block/\w.cell? (ad.add (i*s+j))=some (us i j)/\(us i j).oneCell'=true) ->
   (∀(i j:Nat) (c:List O) (pv:O),es[i]?=some c->c[j]?=some pv->wT w S pv (us i j))->wT w S (.sl s es) (.slice A es.length cap)
 |ptr {cs:List O} {ad:Addr} (us:Nat->Value):(∀(j:Nat) (pv:O),cs[j]?=some pv->S ad.block/\w.cell? (ad.add j)=some (us j)) ->
   (∀(j:Nat) (pv:O),cs[j]?=some pv->wT w S pv (us j))->wT w S (.ptr cs) (.pointer (some ad))
 |fn {f:Fn} {xs ys:List O} {us ts:Array Value}:xs.length=us.size->ys.length=ts.size->(∀(j:Nat) (pv:O) (u:Value),xs[j]?=some pv->us[j]?=some u->wT w S pv u) ->
   (∀(j:Nat) (pv:O) (u:Value),ys[j]?=some pv->ts[j]?=some u->wT w S pv u)->wT w S (.fn f xs ys) (.func f us ts)
structure GI where
 g:Nat
 z:Nat
 s:Nat
inductive qw (w:World) (S:Nat->Prop) (G:Nat->GI) (Z:Nat):O->Value->Prop
 |c {pv:O} {x:Value}:wT w S pv x->qw w S G Z pv x
 |own {id off n cap:Nat}:id<Z->n<=cap->cap<=maxLen->(off+cap)*(G id).s=(G id).z->0<(G id).s->qw w S G Z (.own id off n) (.slice (some ⟨(G id).g,off*(G id).s,none⟩) n cap)
 |ref {id i j:Nat}:id<Z->0<(G id).s->qw w S G Z (.ref id i j) (.pointer (some ⟨(G id).g,i*(G id).s+j,none⟩))
 |mp {id:Nat}:id<Z->(G id).s=0->qw w S G Z (.mp id) (.map (some (G id).g))
 |agg {cs:List O} {us:Array Value}:cs.length=us.size->(∀(j:Nat) (pv:O) (u:Value),cs[j]?=some pv->us[j]?=some u->qw w S G Z pv u)->qw w S G Z (.agg cs) (.agg us)
 |wL {cs:List O} {us:Array Value}:cs.length=us.size->(∀(j:Nat) (pv:O) (u:Value),cs[j]?=some pv->us[j]?=some u->qw w S G Z pv u)->qw w S G Z (.wL cs) (.tuple us)
 |fn {f:Fn} {xs ys:List O} {us ts:Array Value}:xs.length=us.size->ys.length=ts.size->(∀(j:Nat) (pv:O) (u:Value),xs[j]?=some pv->us[j]?=some u->qw w S G Z pv u) ->
   (∀(j:Nat) (pv:O) (u:Value),ys[j]?=some pv->ts[j]?=some u->qw w S G Z pv u)->qw w S G Z (.fn f xs ys) (.func f us ts)
theorem QT(a:Addr)(n:Nat):(a.add n).block=a.block:=by unfold Addr.add;split<;>rfl
theorem cy(a:Addr)(i j:Nat):(a.add i).add j=a.add (i+j):=by unfold Addr.add;by_cases b:i=0<;>by_cases c:j=0<;>simp[b,c,lF]
theorem wT.mono{w p:World}{S q:Nat->Prop}{d:O}{x:Value}(h:wT w S d x)(g:∀b,S b->q b/\p.heap[b]?=w.heap[b]?):wT p q d x:=by
 induction h with
 |v h=>exact .v h
 |nil=>exact .nil
 |em h=>exact .em h
 |agg k _ a=>exact .agg k a
 |wL k _ a=>exact .wL k a
 |sl us r f l s t _ a=>refine .sl us r f l s (fun i j c d u m=>?_) a;obtain⟨y,e,hs,n,o⟩:=t i j c d u m;refine⟨y,e,(g _ hs).1,?_,o⟩;rw[<-n];apply XU;rw[QT];exact(g _ hs).2
 |ptr us f _ a=>refine .ptr us (fun j d m=>?_) a;obtain⟨hs,n⟩:=f j d m;refine⟨(g _ hs).1,?_⟩;rw[<-n];apply XU;rw[QT];exact(g _ hs).2
 |fn f l _ _ z A=>exact .fn f l z A
theorem qw.mono{w i:World}{S j:Nat->Prop}{G k:Nat->GI}{Z l:Nat}{m:O}{x:Value}(h:qw w S G Z m x)(p:∀b,S b->j b/\i.heap[b]?=w.heap[b]?)
  (t:Z<=l) (e:∀id,id<Z->k id=G id):qw i j k l m x:=by
 induction h with
 |c h=>exact .c (h.mono p)
 |own d a q n o=>rw[<-e _ d]at n o⊢;exact .own (by omega) a q n o
 |ref d a=>rw[<-e _ d]at a⊢;exact .ref (by omega) a
 |mp d a=>rw[<-e _ d]at a⊢;exact .mp (by omega) a
 |agg f _ g=>exact .agg f g
 |wL f _ g=>exact .wL f g
 |fn d a _ _ r s=>exact .fn d a r s
theorem wT.Vp{w:World}{S:Nat->Prop}{a:O}{x:Value}(h:wT w S a x)(b:a.ye=true):x.oneCell'=true:=by
 cases h with
 |v h=>cases x<;>simp_all[lit,Value.oneCell']
 |agg=>simp[O.ye]at b
 |wL=>simp[O.ye]at b
 |_=>rfl
theorem qw.Vp{w:World}{S:Nat->Prop}{G:Nat->GI}{Z:Nat}{b:O}{x:Value}(h:qw w S G Z b x)(a:b.ye=true):x.oneCell'=true:=by
 cases h with
 |c h=>exact h.Vp a
 |agg=>simp[O.ye]at a
 |wL=>simp[O.ye]at a
 |_=>rfl
structure Blk where
 e:TypeId
 s:Nat
 arr:Bool
 es:List (List O)
abbrev Hp:=Nat->Option Blk
def qf{α:Type}(f:Nat->α)(k:Nat)(x:α):Nat->α:=fun i=>if i=k then x else f i
@[simp]theorem wR{α:Type}(f:Nat->α)(k:Nat)(x:α):qf f k x k=x:=by simp[qf]
theorem zc{α:Type}(f:Nat->α)(k i:Nat)(x:α)(h:i≠k):qf f k x i=f i:=by simp[qf,h]
def ke(w:World)(S:Nat->Prop)(G:Nat->GI)(Z:Nat)(a:Bool)(b:O)(u:Value):Prop:=
 (a=true->wT w S b u)/\qw w S G Z b u/\u.oneCell'=true
structure D7 (P:Program) (w:World) (S:Nat->Prop) (G:Nat->GI) (Z:Nat) (gi:GI) (b:Blk):Prop where
 size:(P.info? b.e).map (·.size)=some gi.s
 len:∀c∈b.es,c.length=gi.s
 fit:b.es.length*gi.s<=gi.z
 row:∃cur:Array Value,w.heap[gi.g]?=some (.cells cur b.e (0,0))/\cur.size=gi.z /\
  ∀(i j:Nat) (c:List O) (pv:O),b.es[i]?=some c->c[j]?=some pv->∃u,cur[i*gi.s+j]?=some u/\ke w S G Z b.arr pv u
def eE(w:World)(S:Nat->Prop)(c:List O)(e:MapEntry):Prop:=∃(k:Value) (a:O),c=[.v k,a]/\e.key=k/\lit k=true/\wT w S a e.val
def Stamped(en:Array MapEntry)(a:Nat):Prop:=(∀x∈en.toList,x.born<a)/\(en.toList.map (·.born)).Nodup
structure zen (w:World) (S:Nat->Prop) (gi:GI) (b:Blk):Prop where
 row:∃(en:Array MapEntry) (clock:Nat),w.heap[gi.g]?=some (.map en clock)/\en.size=b.es.length/\∀(i:Nat) (c:List O) (e:MapEntry),b.es[i]?=some c->en[i]?=some e->eE w S c e
 zcg:∃(en:Array MapEntry) (clock:Nat),w.heap[gi.g]?=some (.map en clock)/\Stamped en clock
structure kr (P:Program) (w:World) (S:Nat->Prop) (G:Nat->GI) (Z:Nat) (gi:GI) (b:Blk):Prop where
 bs:b.s=gi.s
 cel:0<gi.s->D7 P w S G Z gi b
 ent:gi.s=0->zen w S gi b
theorem kr.size{P:Program}{w:World}{S:Nat->Prop}{G:Nat->GI}{Z:Nat}{a:GI}{b:Blk}(h:kr P w S G Z a b)(c:0<a.s):(P.info? b.e).map (·.size)=some a.s:=(h.cel c).size
theorem kr.len{P:Program}{w:World}{S:Nat->Prop}{G:Nat->GI}{Z:Nat}{a:GI}{b:Blk}(h:kr P w S G Z a b)(d:0<a.s):∀c∈b.es,c.length=a.s:=(h.cel d).len
theorem kr.fit{P:Program}{w:World}{S:Nat->Prop}{G:Nat->GI}{Z:Nat}{a:GI}{b:Blk}(h:kr P w S G Z a b)(c:0<a.s):b.es.length*a.s<=a.z:=(h.cel c).fit
theorem kr.row{P:Program}{w:World}{S:Nat->Prop}{G:Nat->GI}{Z:Nat}{d:GI}{b:Blk}(h:kr P w S G Z d b)(k:0<d.s):∃a:Array Value,w.heap[d.g]?=some (.cells a b.e (0,0))/\a.size=d.z /\
  ∀(i j:Nat) (c:List O) (f:O),b.es[i]?=some c->c[j]?=some f->∃u,a[i*d.s+j]?=some u/\ke w S G Z b.arr f u:=(h.cel k).row
theorem kr.vk{P:Program}{w:World}{S:Nat->Prop}{G:Nat->GI}{Z:Nat}{a:GI}{b:Blk}(d:0<a.s)(c:b.s=a.s)(h:D7 P w S G Z a b):kr P w S G Z a b:=
 ⟨c,fun _=>h,fun e=>by omega⟩
def Nc(P:Program)(g:Nat):Prop:=g<P.globals.size/\∃zero t,((begin P (fun _ _=>0) default).world.heap[g]?).bind Obj.row?=some (zero,t)/\zero.size=1/\P.buildable t=true/\P.cellTypes P.depth t=some [t]/\P.underlying t=some (.int .i64)
def JY:List (Nat×IntKind×List Int):=[]++[(6,.u64,Lib.pow10Tab)]
def A6(w:World)(S:Nat->Prop)(t:Nat×IntKind×List Int):Prop:=S t.1/\∃ty a,w.heap[t.1]?=some (.cells (t.2.2.map fun z=>Value.int t.2.1 z).toArray ty a)
def Ij(P:Program)(w:World)(S:Nat->Prop):Prop:=(∀g,Nc P g->S g/\∃m,w.cell? ⟨g,0,none⟩=some (.int .i64 m))/\∀t∈JY,A6 w S t
theorem Ij.mono{P:Program}{w e:World}{S f:Nat->Prop}(h:Ij P w S)(c:∀b,S b->f b/\e.heap[b]?=w.heap[b]?):Ij P e f:=by
 refine⟨fun g i=>?_,fun t j=>?_⟩
 ·obtain⟨a,m,d⟩:=h.1 g i;refine⟨(c g a).1,m,?_⟩;rw[<-d];exact XU (c g a).2
 ·obtain⟨a,ty,k,d⟩:=h.2 t j;exact⟨(c _ a).1,ty,k,(c _ a).2.trans d⟩
theorem GW{w:World}{a:Addr}{v:Value}(h:w.cell? a=some v):a.block<w.heap.size:=by
 unfold World.cell? at h;split at h
 ·rename_i b;exact(z6.1 b).1
 ·cases h
theorem Ij.Sy{P:Program}{w:World}(h:w.ShapedOpen P)(j:∀t∈JY,A6 w (fun b=>b<w.heap.size) t):Ij P w (fun b=>b<w.heap.size):=by
 refine⟨?_,j⟩;rintro g ⟨k,zero,t,l,s,m,n,o⟩;obtain⟨cs,p,hs,q⟩:=h.1 g zero t k l;obtain⟨ts,d,_,e⟩:=q m;rw[n]at d;cases d;have i:0<cs.size:=by omega
 obtain⟨u,f,c⟩:=e 0 cs[0] (by simp[i]);have:u=t:=by simpa using f.symm
 subst this;have a:w.cell? ⟨g,0,none⟩=some cs[0]:=by simp[World.cell?,p,i]
 refine⟨GW a,?_⟩;rw[a];unfold Cell.ok at c;rw[o]at c;cases r:cs[0]<;>rw[r]at c<;>simp_all
structure Inv (P:Program) (w:World) (S:Nat->Prop) (G:Nat->GI) (Y:Hp) (Z:Nat):Prop where
 st:∀b,S b->b<w.heap.size
 top:∀id b,Y id=some b->id<Z
 live:∀id b,Y id=some b->kr P w S G Z (G id) b
 apart:∀id b,Y id=some b->¬S (G id).g
 inj:∀id id' b b',Y id=some b->Y id'=some b'->(G id).g=(G id').g->id=id'
 eC:Ij P w S
theorem kr.lt{P:Program}{w:World}{S:Nat->Prop}{G:Nat->GI}{Z:Nat}{a:GI}{b:Blk}(h:kr P w S G Z a b):a.g<w.heap.size:=by
 rcases Nat.eq_zero_or_pos a.s with c|c
 ·obtain⟨en,d,e,_⟩:=(h.ent c).row;exact(z6.1 e).1
 ·obtain⟨f,e,_⟩:=h.row c;exact(z6.1 e).1
theorem ke.mono{w c:World}{S d:Nat->Prop}{G e:Nat->GI}{Z f:Nat}{a:Bool}{g:O}{u:Value}(h:ke w S G Z a g u)(i:∀b,S b->d b/\c.heap[b]?=w.heap[b]?)
  (j:Z<=f) (k:∀id,id<Z->e id=G id):ke c d e f a g u:=
 ⟨fun l=>(h.1 l).mono i,h.2.1.mono i j k,h.2.2⟩
theorem kr.mono{P:Program}{w n:World}{S t:Nat->Prop}{G v:Nat->GI}{Z x:Nat}{m:GI}{b:Blk}(h:kr P w S G Z m b)(y:∀b,S b->t b/\n.heap[b]?=w.heap[b]?)
  (z:Z<=x) (A:∀id,id<Z->v id=G id) (o:n.heap[m.g]?=w.heap[m.g]?):kr P n t v x m b:=by
 refine⟨h.bs,fun d=>⟨h.size d,h.len d,h.fit d,?_⟩,fun d=>⟨?_,?_⟩⟩
 ·obtain⟨p,f,l,q⟩:=h.row d;refine⟨p,o.trans f,l,fun i j c r s B=>?_⟩;obtain⟨u,C,D⟩:=q i j c r s B;exact⟨u,C,D.mono y z A⟩
 ·obtain⟨en,a,f,l,q⟩:=(h.ent d).row;refine⟨en,a,o.trans f,l,fun i c e s E=>?_⟩;obtain⟨k,r,F,H,I,J⟩:=q i c e s E;exact⟨k,r,F,H,I,J.mono y⟩
 ·obtain⟨en,a,f,l⟩:=(h.ent d).zcg;exact⟨en,a,o.trans f,l⟩
structure Fr (dr:Prop) (w:World) (L:Nat->Prop) (w':World):Prop where
 os:w'.os=w.os
 tape:w'.tape=w.tape
 output:w'.output=w.output
 size:w.heap.size<=w'.heap.size
 drawn:dr->w.drawn<=w'.drawn
 block:∀k,k<w.heap.size->¬L k->w'.heap[k]?=w.heap[k]?
theorem Fr.refl(w:World)(L:Nat->Prop):Fr dr w L w:=⟨rfl,rfl,rfl,zk _,fun _=>zk _,fun _ _ _=>rfl⟩
theorem Fr.trans{w f c:World}{L:Nat->Prop}(h:Fr dr w L f){g:Nat->Prop}(a:Fr dr f g c)(j:∀b,b<w.heap.size->g b->L b):Fr dr w L c:=
 ⟨a.os.trans h.os,a.tape.trans h.tape,a.output.trans h.output,z8 h.size a.size,fun d=>z8 (h.drawn d) (a.drawn d),fun k e i=>(a.block k (yi e h.size) (fun l=>i (j k e l))).trans (h.block k e i)⟩
theorem Fr.lax{d:Prop}{w a:World}{L:Nat->Prop}(h:Fr d w L a)(hd:dr->d):Fr dr w L a:=⟨h.os,h.tape,h.output,h.size,fun e=>h.drawn (hd e),h.block⟩
theorem Fr.drew(w:World)(L:Nat->Prop):Fr dr w L w.drew:=⟨rfl,rfl,rfl,zk _,fun _=>jS _,fun _ _ _=>rfl⟩
structure St where
 M:Nat->O
 Y:Hp
 Z:Nat
def ia(D:Nat):Deferred:={target:=.collected D,args:=#[]}
def Marks(c:Nat)(w:World)(S:Nat->Prop)(Y:Hp)(G:Nat->GI)(d:List Deferred):Prop:=c<=w.heap.size/\∃a:List Nat,d=a.map ia/\a.Nodup/\∀D∈a,c<=D/\w.heap[D]?=some (.deferred (some []))/\¬S D/\∀id b,Y id=some b->(G id).g≠D
theorem Marks.nil{a:Nat}{w:World}{S:Nat->Prop}{Y:Hp}{G:Nat->GI}(h:a<=w.heap.size):Marks a w S Y G []:=⟨h,[],rfl,by simp,by simp⟩
structure QH (dr:Prop) (P:Program) (w0:World) (S0 L:Nat->Prop) (N Z0:Nat) (G0:Nat->GI) (n0:Nat) (st:St) (S:Nat->Prop) (G:Nat->GI) (a:Act) (w:World):Prop where
 inv:Inv P w S G st.Y st.Z
 Zq:∀t,qw w S G st.Z (st.M t) (a.tmps.getD t undef)
 size:a.tmps.size=N
 defers:Marks n0 w S st.Y G a.defers
 s0:∀b,S0 b->S b
 s1:∀b,S b->S0 b\/L b\/w0.heap.size<=b
 own:∀id b,st.Y id=some b->L (G id).g\/w0.heap.size<=(G id).g
 fr:Fr dr w0 L w
 up:Z0<=st.Z
 loc:∀id,id<Z0->G id=G0 id
def jE(dr:Prop)(P:Program)(b:World)(c L:Nat->Prop)(N d:Nat)(e:Nat->GI)(f:Nat)(st:St)(a:Act)(w:World):Prop:=∃S G,QH dr P b c L N d e f st S G a w
theorem wM{α:Sort _}(a:α):∃x,a=x:=⟨_,rfl⟩
theorem VF{a:Int}(h:¬a=0):(a != 0)=true:=by simpa using h
theorem jl{α:Type}[BEq α][LawfulBEq α]{a b:α}(h:¬a=b):(a==b)=false:=by simpa using h
abbrev zb:=List O
abbrev Spec:=zb->Hp->Nat->Option (O×Hp×Nat)
abbrev Qf:=zb->Hp->Option (zb×Hp)
structure Ctx where
 P:Program
 Γ:FuncId->Option Spec
 dyn:Nat->List (Tmp×Tmp):=fun _=>[]
 M6:Nat->List Tmp:=fun _=>[]
 bk:FuncId->Bool:=fun _=>false
 fz:Nat->List Tmp:=fun _=>[]
 it:FuncId->Option Qf:=fun _=>none
def tc(st:St)(a b:Tmp):Prop:=∀id i j,st.M a=.ref id i j->∃id' i' j' blk,st.M b=.ref id' i' j'/\id≠id'/\st.Y id'=some blk/\blk.arr=false
def Qg(D:List (Tmp×Tmp))(st:St):Prop:=∀p∈D,tc st p.1 p.2
def O.W5:O->Bool
 | .v _|.nil|.em|.sl _ _|.ptr _=>true
 |_=>false
def O.shut:O->Bool
 | .agg cs=>cs.all O.W5
 |x=>x.W5
def O.Y7:O->Bool
 | .wL _=>true
 |x=>x.shut
abbrev zB:Nat:=1000000
def zbx(L:List Tmp)(st:St):Prop:=∀s∈L,(∀id o n,st.M s≠.own id o n)/\∀id i j,st.M s=.ref id i j->id<st.Z/\∃blk,st.Y id=some blk/\blk.arr=false
def Qh(L:List Tmp)(st:St):Prop:=∀s∈L,((∀id o n,st.M s≠.own id o n)/\∀id i j,st.M s=.ref id i j->id<st.Z/\∃blk,st.Y id=some blk/\blk.arr=false)/\(zB<=s->(st.M (s-zB)).Y7=true)
def eF:Value->Option O
 | .slice none 0 0=>some .nil
 | .bool b=>some (.v (.bool b))
 | .int k n=>some (.v (.int k n))
 | .string s=>some (.v (.string s))
 | .nilFunc=>some (.v .nilFunc)
 | .pointer none=>some (.v (.pointer none))
 | .nilIface=>some (.v .nilIface)
 | .map none=>some (.v (.map none))
 |_=>none
def vk:List Value->Option zb
 |[]=>some []
 |x::l=>match eF x,vk l with
  |some p,some r=>some (p::r)
  |_,_=>none
def iU:Value->Option O
 | .agg cs=>(vk cs.toList).map .agg
 |x=>eF x
def get(M:Nat->O):Operand->Option O
 | .tmp t=>some (M t)
 | .const x=>iU x
 | .func f=>some (.fn (.func f) [] [])
 | .global _=>none
def qY(P:Program)(t:TypeId):Option Nat:=(P.info? t).map (·.size)
def vH(P:Program)(t:TypeId):Option Nat:=(P.info? t).map (·.bytes)
def jK(P:Program)(t:TypeId):Option zb:=((P.info? t).bind (·.zero)).bind fun z=>vk z.cells.toList
def jx(P:Program)(t:TypeId):Option Bool:=(P.underlying t).map fun
 | .struct _|.array _ _=>true
 |_=>false
def y2(P:Program)(t:TypeId):Option TypeId:=match P.underlying t with
 |some (.slice e)=>some e
 |_=>none
def wC(P:Program)(t:TypeId)(f:Nat):Option (Nat×Nat×Bool):=match P.underlying t with
 |some (.struct b)=>match b[f]? with
  |some x=>match qY P x.type,jx P x.type with
   |some n,some a=>some (x.offset,n,a)
   |_,_=>none
  |none=>none
 |_=>none
def O.cells:O->zb
 | .agg cs=>cs
 |x=>[x]
def yd(P:Program)(t:TypeId)(cs:zb):Option O:=
 match jx P t,qY P t with
 |some true,some n=>if n<=cs.length then some (.agg (cs.take n))else none
 |some false,some _=>cs[0]?
 |_,_=>none
def O.kI:O->Bool
 | .own _ _ _=>true
 |_=>false
def O.noOwn:O->Bool
 | .agg cs=>!cs.any O.kI
 | .own _ _ _=>false
 |_=>true
def qp(Y:Hp):O->Option (O×Hp)
 | .own id off n=>match Y id with
  |some b=>if b.arr=true/\off+n<=b.es.length then some (.sl b.s ((b.es.drop off).take n),qf Y id none)else none
  |none=>none
 | .v x=>some (.v x,Y)
 | .nil=>some (.nil,Y)
 | .sl s es=>some (.sl s es,Y)
 | .em=>some (.em,Y)
 | .ptr cs=>some (.ptr cs,Y)
 | .fn f xs ys=>if xs.all O.shut=true/\ys.all O.shut=true then some (.fn f xs ys,Y)else none
 |_=>none
def qm(Y:Hp):zb->Option (zb×Hp)
 |[]=>some ([],Y)
 |x::l=>match qp Y x with
  |some (y,Y1)=>match qm Y1 l with
   |some (r,Y2)=>some (y::r,Y2)
   |none=>none
  |none=>none
def zO(Y:Hp):O->Option (O×Hp)
 | .agg cs=>match qm Y cs with
  |some (l,h)=>some (.agg l,h)
  |none=>none
 |x=>qp Y x
def zH(Y:Hp):zb->Option (zb×Hp)
 |[]=>some ([],Y)
 |x::l=>match zO Y x with
  |some (y,Y1)=>match zH Y1 l with
   |some (r,Y2)=>some (y::r,Y2)
   |none=>none
  |none=>none
def freeze(Y:Hp):O->Option (O×Hp)
 | .wL cs=>match zH Y cs with
  |some (l,h)=>some (.wL l,h)
  |none=>none
 |x=>zO Y x
def view(Y:Hp)(n:Nat):O->Option (List zb)
 | .nil=>some []
 | .em=>some []
 | .sl s es=>if s=n then some es else none
 | .own id off k=>match Y id with
  |some b=>if b.arr=true/\b.s=n/\off+k<=b.es.length then some ((b.es.drop off).take k)else none
  |none=>none
 |_=>none
def ib(op:BinOp)(k:IntKind)(a b:Int):Option O:=
 match op with
 | .add=>some (.v (.int k (k.wrap (a+b))))
 | .sub=>some (.v (.int k (k.wrap (a-b))))
 | .mul=>some (.v (.int k (k.wrap (a*b))))
 | .quo=>if b=0 then none else some (.v (.int k (k.wrap (a.tdiv b))))
 | .rem=>if b=0 then none else some (.v (.int k (a.tmod b)))
 | .eql=>some (.v (.bool (a==b)))
 | .neq=>some (.v (.bool (a != b)))
 | .lss=>some (.v (.bool (decide (a<b))))
 | .leq=>some (.v (.bool (decide (a<=b))))
 | .gtr=>some (.v (.bool (decide (a>b))))
 | .geq=>some (.v (.bool (decide (a>=b))))
 | .and=>some (.v (.int k (k.wrap (BitVec.ofInt k.bits a &&& BitVec.ofInt k.bits b).toNat)))
 | .or=>some (.v (.int k (k.wrap (BitVec.ofInt k.bits a||| BitVec.ofInt k.bits b).toNat)))
 | .xor=>some (.v (.int k (k.wrap (BitVec.ofInt k.bits a ^^^ BitVec.ofInt k.bits b).toNat)))
 | .andNot=>some (.v (.int k (k.wrap (BitVec.ofInt k.bits a &&& ~~~ BitVec.ofInt k.bits b).toNat)))
 | .shr=>if b<0 then none else some (.v (.int k (a.fdiv (2 ^ (min b.toNat k.bits)))))
 | .shl=>if b<0 then none else some (.v (.int k (k.wrap (a*2 ^ (min b.toNat k.bits)))))
def Nd(op:BinOp)(a b:ByteArray):Option O:=
 match op with
 | .add=>if a.size+b.size<=maxLen then some (.v (.string (a++b)))else none
 | .eql=>some (.v (.bool (a.toList==b.toList)))
 | .neq=>some (.v (.bool (!(a.toList==b.toList))))
 | .lss=>some (.v (.bool (Op.bytesLess a.toList b.toList)))
 | .leq=>some (.v (.bool (Op.bytesLess a.toList b.toList||a.toList==b.toList)))
 | .gtr=>some (.v (.bool (!(Op.bytesLess a.toList b.toList||a.toList==b.toList))))
 | .geq=>some (.v (.bool (!(Op.bytesLess a.toList b.toList))))
 |_=>none
def yo:List Nat->zb->zb->Option Bool
 |[],_,_=>some true
 | 0::c,.v (.int k a)::xs,.v (.int k' b)::ys=>if k=k' then(yo c xs ys).map ((a==b)&&·)else none
 | 1::c,.v (.bool a)::xs,.v (.bool b)::ys=>(yo c xs ys).map ((a==b)&&·)
 | 2::c,.v (.string a)::xs,.v (.string b)::ys=>(yo c xs ys).map ((a==b)&&·)
 |_,_,_=>none
def Iu(P:Program)(t:TypeId):Option Nat:=match P.underlying t with
 |some (.int _)=>some 0
 |some .bool=>some 1
 |some .string=>some 2
 |_=>none
def ra(P:Program):Nat->List Field->Option (List Nat)
 |_,[]=>some []
 |i,f::a=>if f.offset=i/\f.name≠ "_" then match Iu P f.type,ra P (i+1) a with
   |some k,some b=>some (k::b)
   |_,_=>none
  else none
def subA(P:Program)(t:TypeId):Option (List Nat):=if P.stoodInHeld t=true then none else match P.underlying t with
 |some (.struct b)=>match ra P 0 b.toList with
  |some a=>if qY P t=some a.length then some a else none
  |none=>none
 |_=>none
def rb(P:Program):Nat->List Field->Option (List Nat)
 |_,[]=>some []
 |i,f::b=>if f.offset=i/\f.name≠ "_" then match Iu P f.type with
   |some k=>match rb P (i+1) b with
    |some a=>some (k::a)
    |none=>none
   |none=>match subA P f.type with
    |some c=>match rb P (i+c.length) b with
     |some a=>some (c++a)
     |none=>none
    |none=>none
  else none
def GX(P:Program)(t:TypeId):Option (List Nat):=
 if P.stoodInHeld t=true\/P.eqGuardType P.depth t=true then none else
 match P.underlying t with
 |some (.struct a)=>rb P 0 a.toList
 |_=>none
def KG:O->Option Bool
 | .nil=>some true
 | .em=>some false
 | .own _ _ _=>some false
 | .sl _ (_::_)=>some false
 |_=>none
def Qi(P:Program)(op:BinOp)(t:TypeId):O->O->Option O
 | .v (.int k a),.v (.int k' b)=>if k=k' then ib op k a b else none
 | .v (.string a),.v (.string b)=>Nd op a b
 | .v (.bool a),.v (.bool b)=>match op,P.underlying t with
  | .eql,some .bool=>some (.v (.bool (a==b)))
  | .neq,some .bool=>some (.v (.bool (!(a==b))))
  |_,_=>none
 | .agg xs,.agg ys=>match GX P t with
  |some c=>match op with
   | .eql=>(yo c xs ys).map fun r=>.v (.bool r)
   | .neq=>(yo c xs ys).map fun r=>.v (.bool !r)
   |_=>none
  |none=>none
 |p,.nil=>match y2 P t,KG p,op with
  |some _,some r,.eql=>some (.v (.bool r))
  |some _,some r,.neq=>some (.v (.bool !r))
  |_,_,_=>none
 |_,_=>none
def Eu(P:Program)(t:TypeId):Bool:=match P.underlying t with
 |some (.interface _)=>true
 |_=>false
def isK:Operand->Bool
 | .const _=>true
 |_=>false
def GY(P:Program)(op:BinOp)(t:TypeId):Option O:=if Eu P t=true then match op with
 | .eql=>some (.v (.bool true))
 | .neq=>some (.v (.bool false))
 |_=>none
 else none
def VP(c:Bool)(P:Program)(op:BinOp)(t:TypeId)(p q:O):Option O:=match c,q,p with
 |true,.v .nilIface,.v .nilIface=>GY P op t
 |_,q,p=>Qi P op t p q
@[simp]theorem zfw(P:Program)(op:BinOp)(t:TypeId)(p q:O):VP false P op t p q=Qi P op t p q:=rfl
@[simp]theorem zhx(t:Tmp):isK (.tmp t)=false:=rfl
@[simp]theorem zer(v:Value):isK (.const v)=true:=rfl
@[simp]theorem zfx(f:FuncId):isK (.func f)=false:=rfl
@[simp]theorem zfy(c:Bool)(P:Program)(op:BinOp)(t:TypeId)(p:O)(k:IntKind)(n:Int):VP c P op t p (.v (.int k n))=Qi P op t p (.v (.int k n)):=by cases c<;>rfl
@[simp]theorem zfz(c:Bool)(P:Program)(op:BinOp)(t:TypeId)(p:O)(s:ByteArray):VP c P op t p (.v (.string s))=Qi P op t p (.v (.string s)):=by cases c<;>rfl
@[simp]theorem zes(c:Bool)(P:Program)(op:BinOp)(t:TypeId)(p:O)(b:Bool):VP c P op t p (.v (.bool b))=Qi P op t p (.v (.bool b)):=by cases c<;>rfl
@[simp]theorem zfA(c:Bool)(P:Program)(op:BinOp)(t:TypeId)(p:O):VP c P op t p .nil=Qi P op t p .nil:=by cases c<;>rfl
@[simp]theorem zet(P:Program)(op:BinOp)(t:TypeId):VP true P op t (.v .nilIface) (.v .nilIface)=GY P op t:=rfl
def Tb(op:UnOp):O->Option O
 | .v (.bool b)=>match op with
  | .not=>some (.v (.bool !b))
  |_=>none
 | .v (.int k n)=>match op with
  | .neg=>some (.v (.int k (k.wrap (0-n))))
  |_=>none
 |_=>none
def aP(P:Program)(a dst:TypeId):O->Option O
 | .v (.int _ n)=>match P.underlying a,P.underlying dst with
  |some _,some (.int k)=>some (.v (.int k (k.wrap n)))
  |_,_=>none
 | .v (.string s)=>match P.underlying a,P.underlying dst with
  |some _,some .string=>some (.v (.string s))
  |_,_=>none
 |_=>none
def kl(a:Nat):Option (Option O)->Option Nat
 |none=>some a
 |some (some (.v (.int _ i)))=>if 0<=i then some i.toNat else none
 |_=>none
def yZ(P:Program)(Y:Hp)(t:TypeId)(x:O)(a c:Option (Option O)):Option O:=
 match P.underlying t,x with
 |some .string,.v (.string s)=>match kl 0 a,kl s.size c with
  |some l,some h=>if l<=h/\h<=s.size then some (.v (.string (s.extract l h)))else none
  |_,_=>none
 |some (.slice e),.sl s es=>match qY P e,kl 0 a,kl es.length c with
  |some n,some l,some h=>if s=n/\l<=h/\h<=es.length then some (.sl s ((es.drop l).take (h-l)))else none
  |_,_,_=>none
 |some (.slice e),.nil=>match qY P e,kl 0 a,kl 0 c with
  |some _,some l,some h=>if l=0/\h=0 then some .nil else none
  |_,_,_=>none
 |some (.slice e),.own id off n=>match qY P e,kl 0 a,kl n c with
  |some m,some l,some h=>match Y id with
   |some b=>if b.s=m/\l<=h/\h<=n then some (if l=0 then .own id off h else if h=l then .sl m []else .own id (off+l) (h-l))else none
   |none=>none
  |_,_,_=>none
 |_,_=>none
def XY(k:IntKind)(x:Int):zb->Option O
 |[]=>some (.v (.int k x))
 | .v (.int k' y)::l=>if k=k' then XY k (if y<x then y else x) l else none
 |_=>none
def Nf:zb->Option O
 | .v (.int k x)::l=>XY k x l
 |_=>none
def XZ(k:IntKind)(x:Int):zb->Option O
 |[]=>some (.v (.int k x))
 | .v (.int k' y)::l=>if k=k' then XZ k (if y>x then y else x) l else none
 |_=>none
def Ng:zb->Option O
 | .v (.int k x)::l=>XZ k x l
 |_=>none
def JF(P:Program)(t:TypeId):O->Option O
 | .v (.string s)=>match P.underlying t with
  |some .string=>some (.v (.int .i64 s.size))
  |_=>none
 | .v (.slice (some _) 0 0)=>(y2 P t).map fun _=>.v (.int .i64 0)
 | .sl _ es=>(y2 P t).map fun _=>.v (.int .i64 es.length)
 | .nil=>(y2 P t).map fun _=>.v (.int .i64 0)
 | .em=>(y2 P t).map fun _=>.v (.int .i64 0)
 | .own _ _ n=>(y2 P t).map fun _=>.v (.int .i64 n)
 |_=>none
def yF(cs:zb)(off:Nat):zb->zb
 |[]=>cs
 |x::l=>yF (cs.set off x) (off+1) l
def qe(a:Nat->Option (Nat×Nat))(cs:zb):List (Nat×O)->Option zb
 |[]=>some cs
 |(i,x)::b=>match a i with
  |some (off,n)=>if x.cells.length=n/\off+n<=cs.length/\x.cells.all O.ye=true then qe a (yF cs off x.cells) b else none
  |none=>none
def yB{α:Type}:List (Option α)->Option (List α)
 |[]=>some []
 |some x::l=>(yB l).map (x::·)
 |none::_=>none
def vn(a:Operand->Option O):List (Nat×Operand)->Option (List (Nat×O))
 |[]=>some []
 |(i,x)::l=>match a x,vn a l with
  |some p,some r=>some ((i,p)::r)
  |_,_=>none
def vB(P:Program)(t:TypeId):Option (List (Nat×Nat)):=match P.underlying t with
 |some (.struct a)=>a.toList.mapM (fun f=>(P.info? f.type).map fun i=>(f.offset,i.size))
 |_=>none
def zI(P:Program)(t:TypeId)(a:List (Nat×O)):Option O:=
 match vB P t,jK P t with
 |some b,some z=>(qe (fun i=>b[i]?) z a).map .agg
 |none,some z=>match P.underlying t with
  |some (.array _ e)=>match qY P e with
   |some n=>(qe (fun i=>some (i*n,n)) z a).map .agg
   |none=>none
  |_=>none
 |_,_=>none
def zr(Y:Hp):List (Nat×O)->Option (List (Nat×O)×Hp)
 |[]=>some ([],Y)
 |(i,x)::l=>match zO Y x with
  |some (y,Y1)=>match zr Y1 l with
   |some (r,Y2)=>some ((i,y)::r,Y2)
   |none=>none
  |none=>none
def zF(n:Nat)(es:List zb):List (Nat×O)->Option (List zb)
 |[]=>some es
 |(i,x)::l=>if x.cells.length=n/\i<es.length/\x.cells.all O.ye=true then zF n (es.set i x.cells) l else none
def zs(P:Program)(Y:Hp)(Z:Nat)(t:TypeId)(len:Nat)(a:List (Nat×O)):Option (O×Hp×Nat):=
 match y2 P t with
 |some e=>match qY P e,jK P e,zr Y a with
  |some n,some z,some (b,Y1)=>if 0<n/\z.length=n/\len*n<=16777216 then
    match zF n (List.replicate len z) b with
    |some es=>some (.own Z 0 len,qf Y1 Z (some ⟨e,n,true,es⟩),Z+1)
    |none=>none
   else none
  |_,_,_=>none
 |none=>none
def YA(P:Program)(Y:Hp)(Z:Nat)(t:TypeId):O->O->Option (O×Hp×Nat)
 | .v (.int _ l),.v (.int _ c)=>match y2 P t with
  |some e=>match qY P e,vH P e,jK P e with
   |some n,some a,some z=>if 0<n/\z.length=n/\0<=l/\l<=c/\c.toNat<=maxLen/\c.toNat*a<=140737488355328 then
     some (.own Z 0 l.toNat,qf Y Z (some ⟨e,n,true,List.replicate l.toNat z⟩),Z+1)
    else none
   |_,_,_=>none
  |none=>none
 |_,_=>none
def Tr(P:Program)(u:TypeId):Bool:=match P.underlying u with
 |some .string=>true
 |_=>false
def GZ(P:Program)(e:TypeId):Bool:=match P.info? e with
 |some i=>match i.zero with
  |some (.int .u8 z)=>z==0&&i.size==1&&i.bytes==1
  |_=>false
 |none=>false
def lI(P:Program)(Y:Hp)(n:Nat)(e t u:TypeId):O->Option (List zb)
 | .v (.string b)=>if Tr P u=true/\GZ P e=true then some (b.data.toList.map fun c=>[.v (.int .u8 c.toNat)])else none
 |x=>if u=t then view Y n x else none
def jF(P:Program)(Y:Hp)(Z:Nat)(t u:TypeId)(s x:O):Option (O×Hp×Nat):=
 match y2 P t with
 |some e=>match qY P e,vH P e,jK P e with
  |some n,some a,some z=>match lI P Y n e t u x with
   |some xs=>match s with
    | .nil=>
     if 0<n/\z.length=n/\xs.length<=maxLen/\xs.length*a<=140737488355328 then
      if xs.length=0 then some (.nil,Y,Z)
      else some (.own Z 0 xs.length,qf Y Z (some ⟨e,n,true,xs⟩),Z+1)
     else none
    | .own id 0 k=>match Y id with
     |some b=>if b.arr=true/\b.e=e/\k=b.es.length/\0<n/\z.length=n/\k+xs.length<=maxLen/\(k+xs.length)*a<=140737488355328 then
       some (.own Z 0 (k+xs.length),qf (qf Y id none) Z (some ⟨e,n,true,b.es++xs⟩),Z+1)
      else none
     |none=>none
    |_=>none
   |none=>none
  |_,_,_=>none
 |none=>none
def G3(P:Program)(Y:Hp)(Z:Nat)(t:TypeId)(d x:O):Option (O×Hp×Nat):=
 match y2 P t,d with
 |some e,.own id off k=>match Y id,qY P e with
  |some b,some n=>match view Y n x with
   |some xs=>if b.arr=true/\b.e=e/\off+k<=b.es.length/\0<n then
     some (.v (.int .i64 (min xs.length k:Nat)),qf Y id (some ⟨b.e,b.s,true,b.es.take off++xs.take (min xs.length k)++b.es.drop (off+min xs.length k)⟩),Z)
    else none
   |none=>none
  |_,_=>none
 |_,_=>none
def VQ(P:Program)(Y:Hp)(Z:Nat)(t:TypeId)(x:O):Option (O×Hp×Nat):=
 match y2 P t,x with
 |some e,.own id off k=>match Y id,qY P e,jK P e with
  |some b,some n,some z=>if(0<n/\z.length=n)/\b.arr=true/\b.e=e/\off+k<=b.es.length/\0<k then
    some (.wL [],qf Y id (some ⟨b.e,b.s,true,b.es.take off++List.replicate k z++b.es.drop (off+k)⟩),Z)
   else none
  |_,_,_=>none
 |_,_=>none
def xn(P:Program)(Y:Hp)(t:TypeId):O->Option O
 | .ptr cs=>yd P t cs
 | .ref id i j=>match Y id with
  |some b=>match b.es[i]? with
   |some c=>yd P t (c.drop j)
   |none=>none
  |none=>none
 |_=>none
def ZY(P:Program)(Y:Hp)(t:TypeId)(a x:O):Option Hp:=
 match a with
 | .ref id i j=>match Y id with
  |some d=>match(if d.arr=true then zO Y x else some (x,Y))with
   |some (y,Y1)=>match Y1 id,qY P t with
    |some b,some n=>match b.es[i]? with
     |some c=>if y.cells.length=n/\j+n<=c.length/\y.cells.all O.ye=true then
       some (qf Y1 id (some ⟨b.e,b.s,b.arr,b.es.set i (yF c j y.cells)⟩))else none
     |none=>none
    |_,_=>none
   |none=>none
  |none=>none
 |_=>none
def jh(P:Program)(t:TypeId)(f:Nat):O->Option O
 | .ptr cs=>match wC P t f with
  |some (o,n,_)=>if n=0 then none else some (.ptr (cs.drop o))
  |none=>none
 | .ref id i j=>match wC P t f with
  |some (o,n,_)=>if n=0 then none else some (.ref id i (j+o))
  |none=>none
 |_=>none
def xg(P:Program)(t:TypeId)(f:Nat):O->Option O
 | .agg cs=>match wC P t f with
  |some (o,n,true)=>if o+n<=cs.length then some (.agg ((cs.drop o).take n))else none
  |some (o,_,false)=>cs[o]?
  |none=>none
 |_=>none
def A7(P:Program)(t:TypeId):Option (Nat×TypeId):=match P.underlying t with
 |some (.array n e)=>some (n,e)
 |_=>none
def x4(P:Program)(t:TypeId)(i:Int)(x:O):Option O:=
 match A7 P t with
 |some (m,e)=>match qY P e with
  |some n=>if 0<=i/\i<m then match x with
    | .ptr cs=>some (.ptr (cs.drop (i.toNat*n)))
    | .ref id a b=>some (.ref id a (b+i.toNat*n))
    |_=>none
   else none
  |none=>none
 |none=>none
def qS(P:Program)(Y:Hp)(t:TypeId):O->O->Option O
 |x,.v (.int _ i)=>match y2 P t with
  |some e=>match qY P e,x with
   |some n,.sl s es=>if s=n/\0<n/\0<=i then(es[i.toNat]?).map .ptr else none
   |some n,.own id off k=>match Y id with
    |some b=>if b.e=e/\0<n/\0<=i/\i.toNat<k then some (.ref id (off+i.toNat) 0)else none
    |none=>none
   |_,_=>none
  |none=>x4 P t i x
 |_,_=>none
def QU(P:Program)(t:TypeId):O->O->Option O
 | .v (.string s),.v (.int _ i)=>match P.underlying t with
  |some .string=>if 0<=i then match s[i.toNat]? with
    |some b=>some (.v (.int .u8 b.toNat))
    |none=>none
   else none
  |_=>none
 |_,_=>none
def cz(P:Program)(t:TypeId):Option (Option IntKind×TypeId):=match P.underlying t with
 |some (.map b a)=>match P.underlying b with
  |some (.int k)=>some (some k,a)
  |some .string=>some (none,a)
  |_=>none
 |_=>none
def cA:Option IntKind->Value->Bool
 |some k,.int k' _=>k'==k
 |none,.string _=>true
 |_,_=>false
def W6:Value->Value->Option Bool
 | .int k a,.int k' b=>if k=k' then some (a==b)else none
 | .string a,.string b=>some (a.toList==b.toList)
 |_,_=>none
def JZ(k:Value):List zb->Nat->Option (Option (Nat×O))
 |[],_=>some none
 |[.v k',v]::l,i=>match W6 k k' with
  |some true=>some (some (i,v))
  |some false=>JZ k l (i+1)
  |none=>none
 |_::_,_=>none
def cB(P:Program)(t:TypeId):Option O:=((P.info? t).bind (·.zero)).bind iU
def A8(Y:Hp):O->Option (List zb)
 | .mp id=>match Y id with
  |some b=>if b.s=0 then some b.es else none
  |none=>none
 | .v (.map none)=>some []
 |_=>none
def Jj(P:Program)(Y:Hp)(t:TypeId)(x a:O)(b:Bool):Option O:=
 match cz P t,A8 Y x,a with
 |some (c,d),some es,.v k=>if cA c k=true then match JZ k es 0 with
   |some (some (_,v))=>some (if b=true then .wL [v,.v (.bool true)]else v)
   |some none=>(cB P d).map fun z=>if b=true then .wL [z,.v (.bool false)]else z
   |none=>none
  else none
 |_,_,_=>none
def Qj(P:Program)(Y:Hp)(t:TypeId)(x a y:O):Option Hp:=
 match cz P t,x,a with
 |some (c,_),.mp id,.v k=>if cA c k=true then match zO Y y with
   |some (z,Y1)=>match Y1 id with
    |some b=>if b.s=0 then match JZ k b.es 0 with
      |some (some (i,_))=>some (qf Y1 id (some ⟨b.e,b.s,b.arr,b.es.set i [.v k,z]⟩))
      |some none=>some (qf Y1 id (some ⟨b.e,b.s,b.arr,b.es++[[.v k,z]]⟩))
      |none=>none
     else none
    |none=>none
   |none=>none
  else none
 |_,_,_=>none
def yG(P:Program)(Y:Hp)(Z:Nat)(ts:Array TypeId)(b:Builtin)(xs:zb):Option (O×Hp×Nat):=
 match b with
 | .len=>match xs,ts[0]? with
  |[x],some t=>(JF P t x).map fun y=>(y,Y,Z)
  |_,_=>none
 | .min=>(Nf xs).map fun y=>(y,Y,Z)
 | .max=>(Ng xs).map fun y=>(y,Y,Z)
 | .append=>match xs,ts[0]?,ts[1]? with
  |[s,x],some t,some u=>jF P Y Z t u s x
  |_,_,_=>none
 | .copy=>match xs,ts[0]? with
  |[d,x],some t=>G3 P Y Z t d x
  |_,_=>none
 | .clear=>match xs,ts[0]? with
  |[x],some t=>VQ P Y Z t x
  |_,_=>none
 |_=>none
def jO(C:Ctx)(Y:Hp)(Z:Nat)(f:Option O)(xs:zb):Option (O×Hp×Nat):=
 match f with
 |some (.fn (.func g) first a)=>match C.Γ g with
  |some b=>b (first++xs++a) Y Z
  |none=>none
 |_=>none
def xH(C:Ctx)(a:Operand->Option O)(Y:Hp)(Z:Nat)(c:Call):Option (O×Hp×Nat):=
 match yB (c.args.toList.map a)with
 |some xs=>match c.callee with
  | .builtin b=>yG C.P Y Z c.argTypes b xs
  | .value f=>jO C Y Z (a f) xs
  | .invoke _ _=>none
 |none=>none
def qb(C:Ctx)(d:Operand->Option O)(Y:Hp)(Z:Nat)(o:Op):Option (O×Hp×Nat):=
 match o with
 | .move x=>(d x).map fun y=>(y,Y,Z)
 | .assign x=>(d x).map fun y=>(y,Y,Z)
 | .pick c a b=>match d c with
  |some (.v (.bool true))=>(d a).map fun y=>(y,Y,Z)
  |some (.v (.bool false))=>(d b).map fun y=>(y,Y,Z)
  |_=>none
 | .alloc t=>match qY C.P t,jK C.P t with
  |some n,some z=>if 0<n/\z.length=n then some (.ref Z 0 0,qf Y Z (some ⟨t,n,false,[z]⟩),Z+1)else none
  |_,_=>none
 | .box t x=>match qY C.P t,d x with
  |some n,some y=>if 0<n/\y.cells.length=n/\y.cells.all O.ye=true then some (.ref Z 0 0,qf Y Z (some ⟨t,n,false,[y.cells]⟩),Z+1)else none
  |_,_=>none
 | .build t e=>match vn d e.toList with
  |some s=>(zI C.P t s).map fun y=>(y,Y,Z)
  |none=>none
 | .buildSlice t len e=>match vn d e.toList with
  |some s=>zs C.P Y Z t len s
  |none=>none
 | .load t a=>match d a with
  |some p=>(xn C.P Y t p).map fun y=>(y,Y,Z)
  |none=>none
 | .store t a x=>match d a,d x with
  |some p,some y=>(ZY C.P Y t p y).map fun h=>(.wL [],h,Z)
  |_,_=>none
 | .nilCheck x=>match d x with
  |some (.ref id i j)=>some (.ref id i j,Y,Z)
  |some (.ptr cs)=>some (.ptr cs,Y,Z)
  |_=>none
 | .binOp op t x y _=>match d x,d y with
  |some p,some q=>(VP (isK y) C.P op t p q).map fun r=>(r,Y,Z)
  |_,_=>none
 | .unOp op _ x=>match d x with
  |some p=>(Tb op p).map fun r=>(r,Y,Z)
  |none=>none
 | .convert u dst x=>match d x with
  |some p=>(aP C.P u dst p).map fun r=>(r,Y,Z)
  |none=>none
 | .makeFunc f first g=>match yB (first.toList.map d),yB (g.toList.map d)with
  |some xs,some ys=>some (.fn f xs ys,Y,Z)
  |_,_=>none
 | .makeSlice t l c=>match d l,d c with
  |some p,some q=>YA C.P Y Z t p q
  |_,_=>none
 | .slice t x w A none=>match d x with
  |some p=>(yZ C.P Y t p (w.map d) (A.map d)).map fun r=>(r,Y,Z)
  |none=>none
 | .fieldAddr t x f=>match d x with
  |some p=>(jh C.P t f p).map fun r=>(r,Y,Z)
  |none=>none
 | .field t x f=>match d x with
  |some p=>(xg C.P t f p).map fun r=>(r,Y,Z)
  |none=>none
 | .indexAddr t x i=>match d x,d i with
  |some p,some q=>(qS C.P Y t p q).map fun r=>(r,Y,Z)
  |_,_=>none
 | .index t x i=>match d x,d i with
  |some p,some q=>(QU C.P t p q).map fun r=>(r,Y,Z)
  |_,_=>none
 | .extract x i=>match d x with
  |some (.wL vs)=>(vs[i]?).map fun r=>(r,Y,Z)
  |_=>none
 | .call c=>xH C d Y Z c
 | .makeMap t none=>match cz C.P t with
  |some _=>some (.mp Z,qf Y Z (some ⟨t,0,false,[]⟩),Z+1)
  |none=>none
 | .lookup t x i B=>match d x,d i with
  |some p,some q=>(Jj C.P Y t p q B).map fun r=>(r,Y,Z)
  |_,_=>none
 | .mapUpdate t m k x=>match d m,d k,d x with
  |some p,some q,some y=>(Qj C.P Y t p q y).map fun h=>(.wL [],h,Z)
  |_,_,_=>none
 | .insert t m k x=>match d m,d k,d x with
  |some p,some q,some y=>(Qj C.P Y t p q y).map fun h=>(.wL [],h,Z)
  |_,_,_=>none
 |_=>none
def put(M:Nat->O)(dst:Option Tmp)(x:O):Nat->O:=
 match dst with
 |some d=>qf M d x
 |none=>M
def QV(a:Array Oper)(M:Nat->O)(j:Nat):Option Bool:=
 match(a[j]?).bind (·.dst)with
 |some d=>match M d with
  | .v (.bool b)=>some b
  |_=>none
 |none=>none
def y9(C:Ctx)(a:Array Oper)(o:Oper)(st:St):Option St:=
 if Region.wanted o (QV a st.M)=true then
  match qb C (get st.M) st.Y st.Z o.op with
  |some (x,Y,Z)=>some ⟨put st.M o.dst x,Y,Z⟩
  |none=>none
 else some ⟨put st.M o.dst (.wL []),st.Y,st.Z⟩
def vZ(C:Ctx)(a:Array Oper):List Oper->St->Option St
 |[],st=>some st
 |o::l,st=>match y9 C a o st with
  |some b=>vZ C a l b
  |none=>none
def iter(f:St->Option (Exit×St)):Nat->St->Option (Exit×St)
 | 0,_=>none
 |n+1,st=>match f st with
  |some (.normal,a)=>iter f n a
  |r=>r
open Classical in
noncomputable def aQ (f:St->Option (Exit×St)) (st:St):Option (Exit×St):=
 if h:∃n,(iter f n st).isSome=true then iter f (Classical.choose h) st else none
def AN:List Tmp->St->Option St
 |[],st=>some st
 |t::l,st=>match zO st.Y (st.M t)with
  |some (y,Y1)=>AN l ⟨qf st.M t y,Y1,st.Z⟩
  |none=>none
def KH(b c:St->Option (Exit×St))(M:Nat->O)(p:Tmp):zb->Hp->Nat->Option (Exit×Hp×Nat)
 |[],Y,Z=>some (.normal,Y,Z)
 |x::xs,Y,Z=>match b ⟨qf M p x,Y,Z⟩with
  |some (.normal,d)=>match c d with
   |some (.normal,a)=>KH b c M p xs a.Y a.Z
   |some (.ret,a)=>some (.ret,a.Y,a.Z)
   |some (.exit i,a)=>some (.exit i,a.Y,a.Z)
   |_=>none
  |_=>none
open Classical in
noncomputable def wa (C:Ctx):Code->St->Option (Exit×St)
 | .skip,st=>some (.normal,st)
 | .region id j _,k=>match AN (C.fz id) k with
  |some st=>if Qg (C.dyn id) st/\Qh (C.M6 id) st then match vZ C j j.toList st with
   |some d=>some (.normal,d)
   |none=>none
   else none
  |none=>none
 | .seq a b,st=>match wa C a st with
  |some (.normal,d)=>wa C b d
  |r=>r
 | .cond c x y,st=>match get st.M c with
  |some (.v (.bool true))=>wa C x st
  |some (.v (.bool false))=>wa C y st
  |_=>none
 | .block id h,st=>match wa C h st with
  |some (.exit i,d)=>if i=id then some (.normal,d)else some (.exit i,d)
  |r=>r
 | .loop h,st=>aQ (wa C h) st
 | .exit id,st=>some (.exit id,st)
 | .ret,st=>some (.ret,st)
 | .label _,st=>some (.normal,st)
 | .rangeFunc f m a b,st=>match m.toList,get st.M f with
  |[p],some (.fn (.func g) [] cap)=>match C.it g with
   |some it=>match it cap st.Y with
    |some (xs,Y1)=>match KH (wa C a) (wa C b) st.M p xs Y1 st.Z with
     |some (e,Y2,l)=>some (e,⟨st.M,Y2,l⟩)
     |none=>none
    |none=>none
   |none=>none
  |_,_=>none
 |_,_=>none
def W7(P:Program)(st:St):ResultVar->Option O
 | .tmp t=>some (st.M t)
 | .cell a t=>xn P st.Y t (st.M a)
def xI(P:Program)(fn:Func)(st:St):Option O:=
 match yB (fn.results.toList.map (W7 P st))with
 |some [x]=>some x
 |some xs=>some (.wL xs)
 |none=>none
def km(args:zb):Nat->O:=fun t=>(args[t]?).getD (.wL [])
noncomputable def jr (C:Ctx) (fn:Func) (args:zb) (Y:Hp) (Z:Nat):Option (O×Hp×Nat):=
 match fn.body with
 |some code=>match wa C code ⟨km args,Y,Z⟩with
  |some (.normal,st)=>(xI C.P fn st).map fun x=>(x,st.Y,st.Z)
  |some (.ret,st)=>(xI C.P fn st).map fun x=>(x,st.Y,st.Z)
  |_=>none
 |none=>none
noncomputable def zG (C:Ctx) (fn:Func) (args:zb):Option O:=
 match jr C fn args (fun _=>none) 0 with
 |some (x,Y,_)=>(freeze Y x).map (·.1)
 |none=>none
theorem re(f:St->Option (Exit×St)):∀(n k:Nat) (st:St) (r:Exit×St),iter f n st=some r->iter f (n+k) st=some r:=by
 intro n
 induction n with
 |zero=>intro k st r h;simp[iter]at h
 |succ n b=>
  intro k st r h;rw[show n+1+k=(n+k)+1 from by omega];simp only[iter]at h⊢;split at h
  ·rename_i a c;simp only[b k a r h]
  ·simpa using h
theorem JG{f:St->Option (Exit×St)}{n:Nat}{st:St}{r:Exit×St}(h:iter f n st=some r):aQ f st=some r:=by have c:∃n,(iter f n st).isSome=true:=⟨n,by simp[h]⟩;unfold aQ;rw[dif_pos c];have e:=yK c;obtain⟨g,d⟩:=Option.isSome_iff_exists.1 e;rw[d];have a:=re f _ (Classical.choose c) st r h;have b:=re f _ n st g d;rw[ek]at b;rw[a]at b;exact b.symm
theorem Q8{f:St->Option (Exit×St)}{st:St}{r:Exit×St}(h:aQ f st=some r):∃n,iter f n st=some r:=by
 unfold aQ at h;split at h
 ·exact⟨_,h⟩
 ·cases h
theorem td(f:St->Option (Exit×St))(st:St):aQ f st=match f st with
  |some (.normal,a)=>aQ f a
  |r=>r:=by
 cases d:f st with
 |none=>
  simp only[];cases c:aQ f st with
  |none=>rfl
  |some r=>
   obtain⟨n,b⟩:=Q8 c;cases n with
   |zero=>simp[iter]at b
   |succ n=>simp[iter,d]at b
 |some p=>
  obtain⟨e,a⟩:=p;by_cases h:e=.normal
  ·subst h;simp only[];cases c:aQ f a with
   |some r=>obtain⟨n,b⟩:=Q8 c;exact JG (n:=n+1) (by simp[iter,d,b])
   |none=>
    cases g:aQ f st with
    |none=>rfl
    |some r=>
     obtain⟨n,b⟩:=Q8 g;cases n with
     |zero=>simp[iter]at b
     |succ n=>simp only[iter,d]at b;rw[JG b]at c;cases c
  ·have i:iter f 1 st=some (e,a):=by simp only[iter,d];cases e<;>simp_all
   rw[JG i];cases e<;>simp_all
variable{dr:Prop}
def kn(Y:Hp)(G:Nat->GI)(b:Nat):Prop:=∃id blk,Y id=some blk/\(G id).g=b
structure kN (dr:Prop) (P:Program) (Y:Hp) (Z:Nat) (S:Nat->Prop) (G:Nat->GI) (w:World) (Y':Hp) (Z':Nat) (S':Nat->Prop) (G':Nat->GI) (w':World):Prop where
 inv:Inv P w' S' G' Y' Z'
 up:Z<=Z'
 loc:∀id,id<Z->G' id=G id
 Ji:∀b,S b->S' b
 from_:∀b,S' b->S b\/kn Y G b\/w.heap.size<=b
 own:∀id blk,Y' id=some blk->kn Y G (G' id).g\/w.heap.size<=(G' id).g
 fr:Fr dr w (kn Y G) w'
theorem kN.same{P:Program}{Y g:Hp}{Z i:Nat}{S c:Nat->Prop}{G j:Nat->GI}{w d:World}(h:kN dr P Y Z S G w g i c j d)(f:Inv P w S G Y Z) :
  ∀b,S b->c b/\d.heap[b]?=w.heap[b]?:=fun b a=>
 ⟨h.Ji b a,h.fr.block b (f.st b a) fun⟨id,blk,hid,e⟩=>f.apart id blk hid (e ▸ a)⟩
theorem kN.refl{P:Program}{Y:Hp}{Z:Nat}{S:Nat->Prop}{G:Nat->GI}{w:World}(h:Inv P w S G Y Z):kN dr P Y Z S G w Y Z S G w:=
 ⟨h,zk _,fun _ _=>rfl,fun _ h=>h,fun _ h=>.inl h,fun id blk a=>.inl ⟨id,blk,a,rfl⟩,Fr.refl _ _⟩
theorem kN.trans{P:Program}{Y j a:Hp}{Z n c:Nat}{S o f:Nat->Prop}{G l g:Nat->GI}{w p i:World}
  (h:kN dr P Y Z S G w j n o l p) (k:kN dr P j n o l p a c f g i):kN dr P Y Z S G w a c f g i:=by
 have m:∀b,kn j l b->kn Y G b\/w.heap.size<=b:=by rintro b ⟨id,blk,h1,rfl⟩;exact h.own id blk h1
 refine⟨k.inv,z8 h.up k.up,fun id hid=>(k.loc id (yi hid h.up)).trans (h.loc id hid),fun b d=>k.Ji b (h.Ji b d),fun b d=>?_,fun id blk d=>?_,?_⟩
 ·rcases k.from_ b d with h1|h1|h1
  ·exact h.from_ b h1
  ·rcases m b h1 with e|e
   ·exact .inr (.inl e)
   ·exact .inr (.inr e)
  ·exact .inr (.inr (z8 h.fr.size h1))
 ·rcases k.own id blk d with h1|h1
  ·exact m _ h1
  ·exact .inr (z8 h.fr.size h1)
 ·refine h.fr.trans k.fr fun b d h1=>?_
  rcases m b h1 with e|e
  ·exact e
  ·omega
theorem Inv.same{P:Program}{w c:World}{S:Nat->Prop}{G:Nat->GI}{Y:Hp}{Z:Nat}(h:Inv P w S G Y Z)(d:c.heap=w.heap):Inv P c S G Y Z:=by
 have e:∀b,S b->S b/\c.heap[b]?=w.heap[b]?:=fun b a=>⟨a,by rw[d]⟩
 exact⟨fun b a=>by rw[d];exact h.st b a,h.top,fun id b a=>(h.live id b a).mono e (zk _) (fun _ _=>rfl) (by rw[d]),h.apart,h.inj,h.eC.mono e⟩
theorem kN.drew{P:Program}{Y:Hp}{Z:Nat}{S:Nat->Prop}{G:Nat->GI}{w:World}(h:Inv P w S G Y Z):kN dr P Y Z S G w Y Z S G w.drew:=
 ⟨h.same rfl,zk _,fun _ _=>rfl,fun _ h=>h,fun _ h=>.inl h,fun id blk a=>.inl ⟨id,blk,a,rfl⟩,Fr.drew _ _⟩
theorem kN.alloc{P:Program}{Y:Hp}{Z:Nat}{S:Nat->Prop}{G:Nat->GI}{w:World}(h:Inv P w S G Y Z)(d:Array Value)(e:TypeId)(q:Bool)(es:List zb)(s:Nat)(B:0<s)
  (C:(P.info? e).map (·.size)=some s) (v:∀c∈es,c.length=s) (x:es.length*s<=d.size)
  (y:∀(i j:Nat) (c:zb) (z:O),es[i]?=some c->c[j]?=some z->∃u,d[i*s+j]?=some u/\ke w S G Z q z u) :
  kN dr P Y Z S G w (qf Y Z (some ⟨e,s,q,es⟩)) (Z+1) S (qf G Z ⟨w.heap.size,d.size,s⟩) (w.alloc (.cells d e)):=by
 have m:∀b,b<w.heap.size->(w.alloc (.cells d e)).heap[b]?=w.heap[b]?:=fun b a=>Below.heap_alloc w _ b a
 have D:∀b,S b->S b/\(w.alloc (.cells d e)).heap[b]?=w.heap[b]?:=fun b a=>⟨a,m b (h.st b a)⟩
 have p:∀id,id<Z->qf G Z ⟨w.heap.size,d.size,s⟩ id=G id:=fun id hid=>zc _ _ _ _ (by omega)
 have f:∀id,id≠Z->qf Y Z (some ⟨e,s,q,es⟩) id=Y id:=fun id hid=>zc _ _ _ _ hid
 have n:(w.alloc (.cells d e)).heap.size=w.heap.size+1:=by show(w.heap.push _).size=_;simp
 have r:∀id b,Y id=some b->(G id).g<w.heap.size:=fun id b a=>(h.live id b a).lt
 refine⟨⟨fun b a=>by rw[n];have:=h.st b a;omega,fun id b a=>?_,fun id b a=>?_,fun id b a=>?_,fun id id' b A a l t=>?_,h.eC.mono D⟩,by omega,p,fun _ a=>a,fun _ a=>.inl a,fun id b a=>?_,⟨rfl,rfl,rfl,by rw[n];omega,fun _=>zk _,fun k E _=>m k E⟩⟩
 ·by_cases hid:id=Z
  ·omega
  ·rw[f id hid]at a;have:=h.top id b a;omega
 ·by_cases hid:id=Z
  ·subst hid;simp only[wR]at a⊢;injection a with a
   subst a;refine .vk B rfl ⟨C,v,x,d,heap_alloc_new w _,rfl,fun i j c z F H=>?_⟩;obtain⟨u,I,J⟩:=y i j c z F H;exact⟨u,I,J.mono D (by omega) p⟩
  ·rw[f id hid]at a;have K:=h.top id b a;rw[p id K];exact(h.live id b a).mono D (by omega) p (m _ (r id b a))
 ·by_cases hid:id=Z
  ·subst hid;simp only[wR];intro hs;have:=h.st _ hs;omega
  ·rw[f id hid]at a;rw[p id (h.top id b a)];exact h.apart id b a
 ·by_cases hid:id=Z<;>by_cases o:id'=Z
  ·omega
  ·subst hid;rw[f id' o]at l;rw[p id' (h.top id' A l)]at t;have:=r id' A l;simp at t;omega
  ·subst o;rw[f id hid]at a;rw[p id (h.top id b a)]at t;have:=r id b a;simp at t;omega
  ·rw[f id hid]at a;rw[f id' o]at l;rw[p id (h.top id b a),p id' (h.top id' A l)]at t;exact h.inj id id' b A a l t
 ·by_cases hid:id=Z
  ·subst hid;simp
  ·rw[f id hid]at a;rw[p id (h.top id b a)];exact .inl ⟨id,b,a,rfl⟩
theorem kN.set{P:Program}{Y:Hp}{Z:Nat}{S:Nat->Prop}{G:Nat->GI}{w:World}(h:Inv P w S G Y Z){id:Nat}{b:Blk}(hid:Y id=some b)(n:0<(G id).s)(f:Array Value)(es:List zb)
  (F:f.size=(G id).z) (o:∀c∈es,c.length=(G id).s) (p:es.length*(G id).s<=(G id).z)
  (q:∀(i j:Nat) (c:zb) (t:O),es[i]?=some c->c[j]?=some t->∃u,f[i*(G id).s+j]?=some u/\ke w S G Z b.arr t u) :
  kN dr P Y Z S G w (qf Y id (some ⟨b.e,b.s,b.arr,es⟩)) Z S G (w.setRow (G id).g f):=by
 have l:∀k,k≠(G id).g->(w.setRow (G id).g f).heap[k]?=w.heap[k]?:=fun k d=>setRow_other w _ k _ d
 have v:∀b,S b->S b/\(w.setRow (G id).g f).heap[b]?=w.heap[b]?:=fun k d=>⟨d,l k fun e=>h.apart id b hid (e ▸ d)⟩
 have m:∀k,k≠id->qf Y id (some ⟨b.e,b.s,b.arr,es⟩) k=Y k:=fun k d=>zc _ _ _ _ d
 obtain⟨x,r,H,_⟩:=(h.live id b hid).row n;refine⟨⟨fun k d=>by rw[setRow_size];exact h.st k d,fun k c d=>?_,fun k c d=>?_,fun k c d=>?_,fun k k' c y d A I=>?_,h.eC.mono v⟩,zk _,fun _ _=>rfl,fun _ B=>B,fun _ B=>.inl B,fun k c d=>?_,⟨rfl,rfl,rfl,by simp,fun _=>zk _,fun k _ J=>l k fun e=>J ⟨id,b,hid,e.symm⟩⟩⟩
 ·by_cases a:k=id
  ·subst a;exact h.top _ b hid
  ·rw[m k a]at d;exact h.top k c d
 ·by_cases a:k=id
  ·subst a;simp only[wR]at d;injection d with d
   subst d;refine .vk n (h.live _ b hid).bs ⟨(h.live _ b hid).size n,o,p,f,Qc w _ x _ _ _ r,F,fun i j c t K L=>?_⟩;obtain⟨u,C,D⟩:=q i j c t K L;exact⟨u,C,D.mono v (zk _) (fun _ _=>rfl)⟩
  ·rw[m k a]at d;exact(h.live k c d).mono v (zk _) (fun _ _=>rfl) (l _ fun e=>a (h.inj k id c b d hid e))
 ·by_cases a:k=id
  ·subst a;exact h.apart _ b hid
  ·rw[m k a]at d;exact h.apart k c d
 ·have E:∀k c,qf Y id (some ⟨b.e,b.s,b.arr,es⟩) k=some c->∃y,Y k=some y:=by
   intro k c d;by_cases a:k=id
   ·subst a;exact⟨b,hid⟩
   ·rw[m k a]at d;exact⟨c,d⟩
  obtain⟨N,C⟩:=E k c d;obtain⟨Q,D⟩:=E k' y A;exact h.inj k k' N Q C D I
 ·by_cases a:k=id
  ·subst a;exact .inl ⟨_,b,hid,rfl⟩
  ·rw[m k a]at d;exact .inl ⟨k,c,d,rfl⟩
theorem kN.kill{P:Program}{Y:Hp}{Z:Nat}{S:Nat->Prop}{G:Nat->GI}{w:World}(h:Inv P w S G Y Z){id:Nat}{b:Blk}(hid:Y id=some b) :
  kN dr P Y Z S G w (qf Y id none) Z (fun k=>S k\/k=(G id).g) G w:=by
 have i:∀k,S k->(S k\/k=(G id).g)/\w.heap[k]?=w.heap[k]?:=fun k a=>⟨.inl a,rfl⟩
 have d:∀k c,qf Y id none k=some c->k≠id/\Y k=some c:=by
  intro k c a;by_cases e:k=id
  ·subst e;simp at a
  ·rw[zc _ _ _ _ e]at a;exact⟨e,a⟩
 refine⟨⟨fun k a=>?_,fun k c a=>h.top k c (d k c a).2,fun k c a=>(h.live k c (d k c a).2).mono i (zk _) (fun _ _=>rfl) rfl,fun k c a=>?_,fun k k' c j a f he=>h.inj k k' c j (d k c a).2 (d k' j f).2 he,h.eC.mono i⟩,
  zk _,fun _ _=>rfl,fun _ l=>.inl l,fun k a=>?_,fun k c a=>.inl ⟨k,c,(d k c a).2,rfl⟩,Fr.refl _ _⟩
 ·rcases a with a|rfl
  ·exact h.st k a
  ·exact(h.live id b hid).lt
 ·rintro (hs|he)
  ·exact h.apart k c (d k c a).2 hs
  ·exact(d k c a).1 (h.inj k id c b (d k c a).2 hid he)
 ·rcases a with a|rfl
  ·exact .inl a
  ·exact .inr (.inl ⟨id,b,hid,rfl⟩)
theorem Ev{P:Program}{Y:Hp}{Z:Nat}{S:Nat->Prop}{G:Nat->GI}{w:World}(h:Inv P w S G Y Z){id off n cap:Nat}{b:Blk}(hid:Y id=some b)(o:0<(G id).s)(p:b.arr=true)(R:off+n<=b.es.length)
  (F:n<=cap) (q:cap<=maxLen) (y:Nat->Prop) (H:∀k,S k->y k) (I:y (G id).g) :
  wT w y (.sl b.s ((b.es.drop off).take n)) (.slice (some ⟨(G id).g,off*(G id).s,none⟩) n cap):=by
 have B:=h.live id b hid;obtain⟨r,J,T,K⟩:=B.row o;have L:((b.es.drop off).take n).length=n:=by simp;omega
 have t:∀(i:Nat) (c:zb),((b.es.drop off).take n)[i]?=some c->b.es[off+i]?=some c:=by
  intro i c a;rw[zX]at a;split at a
  ·rwa [qI]at a
  ·cases a
 have m:∀(i j:Nat),∃u,∀(c:zb) (d:O),((b.es.drop off).take n)[i]?=some c->c[j]?=some d->r[(off+i)*(G id).s+j]?=some u/\ke w S G Z b.arr d u:=by
  intro i j;by_cases z:∃c d,((b.es.drop off).take n)[i]?=some c/\c[j]?=some d
  ·obtain⟨c,d,a,l⟩:=z;obtain⟨u,A,v⟩:=K (off+i) j c d (t i c a) l;refine⟨u,fun U N e f=>?_⟩;rw[a]at e;injection e with e;subst e;rw[l]at f;injection f with f;subst f;exact⟨A,v⟩
  ·exact⟨undef,fun c d a l=>(z ⟨c,d,a,l⟩).elim⟩
 rw[B.bs];have C:wT w y (.sl (G id).s ((b.es.drop off).take n)) (.slice (some ⟨(G id).g,off*(G id).s,none⟩) ((b.es.drop off).take n).length cap):=by
  refine .sl (s:=(G id).s) (fun i j=>Classical.choose (m i j)) (by simp) (by omega) q (fun c z=>B.len o c (iQ _ _ (Vo _ _ z))) (fun i j c d a l=>?_) (fun i j c d a l=>?_)
  ·obtain⟨A,v⟩:=yK (m i j) c d a l;refine⟨_,rfl,I,?_,v.2.2⟩;have x:(⟨(G id).g,off*(G id).s,none⟩:Addr).add (i*(G id).s+j)=⟨(G id).g,(off+i)*(G id).s+j,none⟩:=by
    unfold Addr.add;split
    ·rename_i W;have D:i*(G id).s=0:=by omega
     have E:j=0:=by omega
     simp[yc,D,E]
    ·simp[yc];omega
   rw[x,cell_of_row w _ _ r _ _ J];exact A
  ·obtain⟨A,v⟩:=yK (m i j) c d a l;exact(v.1 p).mono fun k Q=>⟨H k Q,rfl⟩
 rwa [L]at C
theorem Marks.step{P:Program}{i:Nat}{Y j:Hp}{Z q:Nat}{S l:Nat->Prop}{G m:Nat->GI}{w n:World}{o:List Deferred}(h:Marks i w S Y G o)(k:kN dr P Y Z S G w j q l m n):Marks i n l j m o:=by
 obtain⟨d,r,e,s,t⟩:=h;refine⟨z8 d k.fr.size,r,e,s,fun D hd=>?_⟩;obtain⟨u,p,c,f⟩:=t D hd;have g:D<w.heap.size:=(z6.1 p).1;refine⟨u,(k.fr.block D g fun⟨id,b,a,e⟩=>f id b a e).trans p,fun hs=>?_,fun id b a e=>?_⟩
 ·rcases k.from_ D hs with h|⟨id,b,a,e⟩|h
  ·exact c h
  ·exact f id b a e
  ·omega
 rcases k.own id b a with⟨id',v,c,x⟩|c
 ·exact f id' v c (x.trans e)
 ·omega
theorem QH.step{P:Program}{m:World}{o L:Nat->Prop}{N p:Nat}{q:Nat->GI}{r:Nat}{st:St}{S g:Nat->Prop}{G i:Nat->GI}{a:Act}{w j:World}{s:Hp}{l:Nat}{x:O}{u:Value}{dst:Option Tmp}
  (h:QH dr P m o L N p q r st S G a w) (k:kN dr P st.Y st.Z S G w s l g i j) (v:qw j g i l x u) (hd:∀d,dst=some d->d<N) :
  QH dr P m o L N p q r ⟨put st.M dst x,s,l⟩ g i (a.put dst u) j:=by
 have y:=k.same h.inv;have n:∀b,kn st.Y G b->L b\/m.heap.size<=b:=by rintro b ⟨id,blk,h1,rfl⟩;exact h.own id blk h1
 refine⟨k.inv,fun t=>?_,?_,?_,fun b f=>k.Ji b (h.s0 b f),fun b f=>?_,fun id blk f=>?_,?_,z8 h.up k.up,fun id hid=>(k.loc id (yi hid h.up)).trans (h.loc id hid)⟩
 ·have c:qw j g i l (st.M t) (a.tmps.getD t undef):=(h.Zq t).mono y k.up k.loc;cases dst with
  |none=>exact c
  |some d=>
   show qw j g i l (qf st.M d x t) ((a.tmps.setIfInBounds d u).getD t undef);by_cases e:t=d
   ·subst e;have:t<a.tmps.size:=by rw[h.size];exact hd t rfl
    simpa[qf,this]using v
   ·have z:¬d=t:=fun h=>e h.symm
    simp only[qf,e,zQ];have:(a.tmps.setIfInBounds d u).getD t undef=a.tmps.getD t undef:=by simp[fV z]
    rw[this];exact c
 ·cases dst with
  |none=>exact h.size
  |some d=>show(a.tmps.setIfInBounds d u).size=N;simp[h.size]
 ·cases dst<;>exact h.defers.step k
 ·rcases k.from_ b f with h1|h1|h1
  ·exact h.s1 b h1
  ·rcases n b h1 with h2|h2
   ·exact .inr (.inl h2)
   ·exact .inr (.inr h2)
  ·exact .inr (.inr (z8 h.fr.size h1))
 ·rcases k.own id blk f with h1|h1
  ·exact n _ h1
  ·exact .inr (z8 h.fr.size h1)
 ·refine h.fr.trans k.fr fun b f h1=>?_
  rcases n b h1 with h2|h2
  ·exact h2
  ·omega
variable{dr:Prop}
section
variable{P:Program}{w:World}{S:Nat->Prop}{G:Nat->GI}{Y:Hp}{Z:Nat}
theorem wT.yn{x u:Value}(h:wT w S (.v x) u):u=x/\lit x=true:=by cases h;exact⟨rfl,‹_›⟩
theorem qw.yn{x u:Value}(h:qw w S G Z (.v x) u):u=x/\lit x=true:=by
 cases h with
 |c h=>exact h.yn
theorem qw.ZV{u:Value}(h:qw w S G Z .nil u):u=.slice none 0 0:=by
 cases h with
 |c h=>cases h;rfl
theorem qw.oP{u:Value}(h:qw w S G Z .em u):∃a cap,u=.slice (some a) 0 cap/\cap<=maxLen:=by
 cases h with
 |c h=>cases h;exact⟨_,_,rfl,‹_›⟩
theorem qw.cu{s:Nat}{es:List zb}{u:Value}(h:qw w S G Z (.sl s es) u):wT w S (.sl s es) u:=by
 cases h with
 |c h=>exact h
theorem qw.Vq{cs:zb}{u:Value}(h:qw w S G Z (.ptr cs) u):wT w S (.ptr cs) u:=by
 cases h with
 |c h=>exact h
theorem qw.Zk{id off n:Nat}{u:Value}(h:qw w S G Z (.own id off n) u):∃cap,id<Z/\n<=cap/\cap<=maxLen/\(off+cap)*(G id).s=(G id).z/\u=.slice (some ⟨(G id).g,off*(G id).s,none⟩) n cap:=by
 cases h with
 |c h=>cases h
 |own a b d e _=>exact⟨_,a,b,d,e,rfl⟩
theorem qw.ZW{id off n:Nat}{u:Value}(h:qw w S G Z (.own id off n) u):0<(G id).s:=by
 cases h with
 |c h=>cases h
 |own _ _ _ _ a=>exact a
theorem qw.Wn{id i j:Nat}{u:Value}(h:qw w S G Z (.ref id i j) u):id<Z/\u=.pointer (some ⟨(G id).g,i*(G id).s+j,none⟩):=by
 cases h with
 |c h=>cases h
 |ref a _=>exact⟨a,rfl⟩
theorem qw.aB{id i j:Nat}{u:Value}(h:qw w S G Z (.ref id i j) u):0<(G id).s:=by
 cases h with
 |c h=>cases h
 |ref _ a=>exact a
theorem qw.Sz{id:Nat}{u:Value}(h:qw w S G Z (.mp id) u):id<Z/\(G id).s=0/\u=.map (some (G id).g):=by
 cases h with
 |c h=>cases h
 |mp a b=>exact⟨a,b,rfl⟩
theorem qw.Wo{cs:zb}{u:Value}(h:qw w S G Z (.agg cs) u):∃us:Array Value,u=.agg us/\cs.length=us.size/\∀(j:Nat) (d:O) (x:Value),cs[j]?=some d->us[j]?=some x->qw w S G Z d x:=by
 cases h with
 |c h=>cases h with
  |agg e f=>exact⟨_,rfl,e,fun j d x a b=>.c (f j d x a b)⟩
 |agg e f=>exact⟨_,rfl,e,f⟩
theorem qw.Ik{cs:zb}{u:Value}(h:qw w S G Z (.wL cs) u):∃us:Array Value,u=.tuple us/\cs.length=us.size/\∀(j:Nat) (d:O) (x:Value),cs[j]?=some d->us[j]?=some x->qw w S G Z d x:=by
 cases h with
 |c h=>cases h with
  |wL e f=>exact⟨_,rfl,e,fun j d x a b=>.c (f j d x a b)⟩
 |wL e f=>exact⟨_,rfl,e,f⟩
theorem qw.AO{f:Fn}{xs ys:zb}{u:Value}(h:qw w S G Z (.fn f xs ys) u):∃us ts:Array Value,u=.func f us ts/\xs.length=us.size/\ys.length=ts.size /\
  (∀(j:Nat) (d:O) (x:Value),xs[j]?=some d->us[j]?=some x->qw w S G Z d x)/\∀(j:Nat) (d:O) (x:Value),ys[j]?=some d->ts[j]?=some x->qw w S G Z d x:=by
 cases h with
 |c h=>cases h with
  |fn e g i k=>exact⟨_,_,rfl,e,g,fun j d x a b=>.c (i j d x a b),fun j d x a b=>.c (k j d x a b)⟩
 |fn e g i k=>exact⟨_,_,rfl,e,g,i,k⟩
theorem kA:qw w S G Z (.wL []) undef:=.c (.wL rfl (by simp))
theorem lJ{x:Value}{a:O}(h:eF x=some a):wT w S a x/\x.oneCell'=true/\a.ye=true:=by
 unfold eF at h;split at h<;>first
  |(injection h with h;subst h;exact⟨.nil,rfl,rfl⟩)
  |(injection h with h;subst h;exact⟨.v rfl,rfl,rfl⟩)
  |cases h
theorem j8:∀{l:List Value} {r:zb},vk l=some r->r.length=l.length/\(∀(j:Nat) (a:O) (u:Value),r[j]?=some a->l[j]?=some u->wT w S a u/\u.oneCell'=true/\a.ye=true)
 |[],r,h=>by simp[vk]at h;subst h;simp
 |x::l,r,h=>by
  simp only[vk]at h;split at h
  ·rename_i p q Y d;injection h with h
   subst h;obtain⟨e,f⟩:=j8 d;refine⟨by simp[e],fun j a u b c=>?_⟩;cases j with
   |zero=>simp at b c;subst b;subst c;exact lJ Y
   |succ j=>exact f j a u (by simpa using b) (by simpa using c)
  ·cases h
theorem gd{x:Value}{a:O}(h:iU x=some a):wT w S a x:=by
 unfold iU at h;split at h
 ·rename_i cs;cases b:vk cs.toList with
  |none=>simp[b]at h
  |some r=>simp[b]at h;subst h;obtain⟨c,d⟩:=j8 (w:=w) (S:=S) b;exact .agg (by simpa using c) (fun j a u e f=>(d j a u e (by simpa using f)).1)
 ·exact(lJ h).1
theorem Jk{M:Nat->O}{a:Act}(hs:∀t,qw w S G Z (M t) (a.tmps.getD t undef)){y:Operand}{b:O}(h:get M y=some b):qw w S G Z b (a.eval y):=by
 cases y with
 |tmp t=>simp[get]at h;subst h;exact hs t
 |const x=>exact .c (gd h)
 |global g=>simp[get]at h
 |func f=>simp[get]at h;subst h;exact .c (.fn rfl rfl (by simp) (by simp))
theorem eG{y:O}{u:Value}(h:qw w S G Z y u)(a:y.cells.all O.ye=true):y.cells.length=u.cells.size/\∀(j:Nat) (d:O) (c:Value),y.cells[j]?=some d->u.cells[j]?=some c->qw w S G Z d c/\c.oneCell'=true:=by
 by_cases e:∃cs,y=.agg cs
 ·obtain⟨cs,rfl⟩:=e;obtain⟨us,rfl,k,l⟩:=h.Wo;refine⟨k,fun j d c b f=>?_⟩;have g:=l j d c b f;refine⟨g,g.Vp ?_⟩;simp only[O.cells]at a b;exact qB.1 a d (zT b)
 ·have m:y.cells=[y]:=by cases y<;>first|rfl|exact(e ⟨_,rfl⟩).elim
  rw[m]at a⊢;have n:y.ye=true:=by simpa using a
  have i:=h.Vp n;have f:u.cells=#[u]:=by cases u<;>first|rfl|simp[Value.oneCell']at i
  rw[f];refine⟨rfl,fun j d c b a=>?_⟩;cases j with
  |zero=>simp at b a;subst b;subst a;exact⟨h,i⟩
  |succ j=>simp at b
def QI(dr:Prop)(P:Program)(w:World)(Y:Hp)(Z:Nat)(S:Nat->Prop)(G:Nat->GI)(x:O)(e:Hp)(b:Nat)(r:Result Value):Prop:=
 ∃v a c d,r=.ok v a/\kN dr P Y Z S G w e b c d a/\qw a c d b x v
theorem qF(a:Inv P w S G Y Z){x:O}{v:Value}{r:Result Value}(b:r=.ok v w)(c:qw w S G Z x v):QI dr P w Y Z S G x Y Z r:=⟨v,w,S,G,b,.refl a,c⟩
theorem W8{t:TypeId}{n:Nat}(h:qY P t=some n):∃i,P.info? t=some i/\i.size=n:=by
 unfold qY at h;cases a:P.info? t with
 |none=>simp[a]at h
 |some i=>exact⟨i,rfl,by simpa[a]using h⟩
theorem yJ{t:TypeId}{n:Nat}(h:qY P t=some n)(w:World):(sizeOf t).run P w=.ok n w:=by obtain⟨i,a,rfl⟩:=W8 h;simp[sizeOf,typeInfo,a]
theorem xh{t:TypeId}{b:Bool}(h:jx P t=some b)(w:World):(isAgg t).run P w=.ok b w:=by
 unfold jx at h;cases a:P.underlying t with
 |none=>simp[a]at h
 |some d=>simp[a]at h;subst h;unfold isAgg;rw[vO,zx a w];cases d<;>rfl
theorem W9{t:TypeId}{z:zb}(h:jK P t=some z):∃i v,P.info? t=some i/\i.zero=some v/\vk v.cells.toList=some z:=by
 unfold jK at h;cases a:P.info? t with
 |none=>simp[a]at h
 |some i=>
  cases b:i.zero with
  |none=>simp[a,b]at h
  |some v=>exact⟨i,v,rfl,b,by simpa[a,b]using h⟩
theorem Q9{t:TypeId}{i:TypeInfo}{v:Value}(a:P.info? t=some i)(b:i.zero=some v)(w:World):(zeroValue t).run P w=.ok v w:=by simp[zeroValue,typeInfo,a,b]
theorem Ew(a:Inv P w S G Y Z){t:TypeId}{n:Nat}{z:zb}(hs:qY P t=some n)(o:jK P t=some z)(g:0<n)(e:z.length=n) :
  QI dr P w Y Z S G (.ref Z 0 0) (qf Y Z (some ⟨t,n,false,[z]⟩)) (Z+1) ((Instr.alloc t true (.tuple #[])).run P w):=by
 obtain⟨i,v,p,q,r⟩:=W9 o;obtain⟨s,u⟩:=j8 (w:=w) (S:=S) r;have f:(P.info? t).map (·.size)=some n:=hs;have b:v.cells.size=n:=by rw[<-e,s];simp
 have k:=kN.alloc (dr:=dr) a v.cells t false [z] n g f (by simp[e]) (by simp[b]) (fun i j c x a l=>by
  cases i with
  |succ i=>simp at a
  |zero=>
   simp at a;subst a;have d:j<v.cells.size:=by rw[b,<-e];exact(zj.1 l).1
   refine⟨v.cells[j],by simp[d],?_⟩;have m:=u j x v.cells[j] l (by simp[d]);exact⟨fun h=>(by cases h),.c m.1,m.2.1⟩)
 refine⟨.pointer (some ⟨w.heap.size,0,none⟩),_,_,_,?_,k,?_⟩
 ·simp[Instr.alloc,Q9 p q,newVar,newRow]
 ·have:=qw.ref (w:=w.alloc (.cells v.cells t)) (S:=S) (G:=qf G Z ⟨w.heap.size,v.cells.size,n⟩) (Z:=Z+1) (id:=Z) (i:=0) (j:=0) (by omega) (by simpa using g);simpa using this
theorem Nh(a:Inv P w S G Y Z){t:TypeId}{n:Nat}{y:O}{u:Value}(hs:qY P t=some n)(o:qw w S G Z y u)(e:0<n)(f:y.cells.length=n)(p:y.cells.all O.ye=true) :
  QI dr P w Y Z S G (.ref Z 0 0) (qf Y Z (some ⟨t,n,false,[y.cells]⟩)) (Z+1) ((Instr.box t u).run P w):=by
 obtain⟨g,q⟩:=eG o p;have d:u.cells.size=n:=by rw[<-g,f]
 have k:=kN.alloc (dr:=dr) a u.cells t false [y.cells] n e hs (by simp[f]) (by simp[d]) (fun i j c r a l=>by
  cases i with
  |succ i=>simp at a
  |zero=>
   simp at a;subst a;have b:j<u.cells.size:=by rw[<-g];exact(zj.1 l).1
   refine⟨u.cells[j],by simp[b],?_⟩;have m:=q j r u.cells[j] l (by simp[b]);exact⟨fun h=>(by cases h),m.1,m.2⟩)
 refine⟨.pointer (some ⟨w.heap.size,0,none⟩),_,_,_,?_,k,?_⟩
 ·simp[Instr.box,newVar,newRow]
 ·have:=qw.ref (w:=w.alloc (.cells u.cells t)) (S:=S) (G:=qf G Z ⟨w.heap.size,u.cells.size,n⟩) (Z:=Z+1) (id:=Z) (i:=0) (j:=0) (by omega) (by simpa using e);simpa using this
theorem X0{t:TypeId}{cs:zb}{x:O}(h:yd P t cs=some x)(c:Addr)(us:Nat->Value)(e:∀(j:Nat) (d:O),cs[j]?=some d->w.cell? (c.add j)=some (us j)/\qw w S G Z d (us j)) :
  ∃v,(loadVar t c).run P w=.ok v w/\qw w S G Z x v:=by
 unfold yd at h;split at h
 ·rename_i n f hs;split at h
  ·rename_i i;injection h with h
   subst h;have k:(loadCells c n).run P w=.ok ((List.range n).map us).toArray w:=by
    have:=run_loadCells_list (P:=P) w c ((List.range n).map us) (fun j v a=>by
     have b:j<n:=by simpa using(zj.1 a).1
     have Y:=e j (cs[j]'(by omega)) (zo (by omega));rw[Y.1];rw[qD,Wl b]at a;simpa using a)
    simpa using this
   refine⟨.agg ((List.range n).map us).toArray,?_,.agg ?_ ?_⟩
   ·simp[loadVar,xh f,yJ hs,k]
   ·simp;omega
   ·intro j d u a g;rw[zX]at a;split at a
    ·rename_i b;have:=(e j d a).2;simp[b]at g;rwa [<-g]
    ·cases a
  ·cases h
 ·rename_i n f hs;have:=e 0 x h;refine⟨us 0,?_,this.2⟩;have l:c.add 0=c:=rfl;rw[l]at this;simp[loadVar,xh f,this.1]
 ·cases h
theorem rf(l:Inv P w S G Y Z){t:TypeId}{p x:O}{u:Value}(h:xn P Y t p=some x)(m:qw w S G Z p u):QI dr P w Y Z S G x Y Z ((Instr.loadAt t u).run P w):=by
 unfold xn at h;split at h
 ·rename_i cs;cases m.Vq with
  |ptr us n y=>obtain⟨v,o,q⟩:=X0 (G:=G) (Z:=Z) (w:=w) (S:=S) h _ us (fun j f z=>⟨(n j f z).2,.c (y j f z)⟩);exact qF l (v:=v) (by simp[Instr.loadAt,Instr.sureAddr,o]) q
 ·rename_i id i j;have r:=m.aB;obtain⟨hid,rfl⟩:=m.Wn;split at h
  ·rename_i b B;split at h
   ·rename_i c C;obtain⟨a,n,y,D⟩:=(l.live id b B).row r;have d:∀k:Nat,w.cell? ((⟨(G id).g,i*(G id).s+j,none⟩:Addr).add k)=a[i*(G id).s+j+k]?:=by intro k;rw[yz,cell_of_row w _ _ a _ _ n]
    obtain⟨v,o,q⟩:=X0 (G:=G) (Z:=Z) (w:=w) (S:=S) h ⟨(G id).g,i*(G id).s+j,none⟩ (fun k=>(a[i*(G id).s+j+k]?).getD undef) (fun k f A=>by
     rw[qI]at A;obtain⟨u,E,F⟩:=D i (j+k) c f C A;rw[d];have e:i*(G id).s+j+k=i*(G id).s+(j+k):=by omega
     rw[e,E];exact⟨rfl,F.2.1⟩)
    exact qF l (v:=v) (by simp[Instr.loadAt,Instr.sureAddr,o]) q
   ·cases h
  ·cases h
 ·cases h
end
variable{dr:Prop}
section
variable{P:Program}{w:World}{S:Nat->Prop}{G:Nat->GI}{Y:Hp}{Z:Nat}
def Zip{α a:Type}(R:α->a->Prop)(xs:List α)(us:List a):Prop:=xs.length=us.length/\∀(j:Nat) (x:α) (u:a),xs[j]?=some x->us[j]?=some u->R x u
theorem Zip.nil{α a:Type}{R:α->a->Prop}:Zip R [] ([]:List a):=⟨rfl,by simp⟩
theorem Zip.cons{α a:Type}{R:α->a->Prop}{x:α}{u:a}{xs:List α}{us:List a}(h:R x u)(t:Zip R xs us):Zip R (x::xs) (u::us):=by
 refine⟨by simp[t.1],fun j y v b c=>?_⟩;cases j with
 |zero=>simp at b c;subst b;subst c;exact h
 |succ j=>exact t.2 j y v (by simpa using b) (by simpa using c)
theorem Zip.jX{α b:Type}{R:α->b->Prop}{x:α}{xs:List α}{us:List b}(h:Zip R (x::xs) us):∃u a,us=u::a/\R x u/\Zip R xs a:=by
 cases us with
 |nil=>have:=h.1;simp at this
 |cons u a=>refine⟨u,a,rfl,h.2 0 x u rfl rfl,by have:=h.1;simpa using this,fun j y v c d=>h.2 (j+1) y v (by simpa using c) (by simpa using d)⟩
theorem Zip.Y8{α a:Type}{R:α->a->Prop}{us:List a}(h:Zip R ([]:List α) us):us=[]:=oM h.1.symm
theorem Zip.imp{α c:Type}{R d:α->c->Prop}{xs:List α}{us:List c}(h:Zip R xs us)(e:∀x u,R x u->d x u):Zip d xs us:=⟨h.1,fun j x u a b=>e x u (h.2 j x u a b)⟩
theorem vI{h:Hp}{i k:Nat}{b:Blk}(a:qf h i none k=some b):h k=some b:=by
 unfold qf at a;split at a
 ·cases a
 ·exact a
theorem rh{x:O}{u:Value}(h:qw w S G Z x u)(hs:x.W5=true):wT w S x u:=by
 cases x with
 |v y=>obtain⟨rfl,a⟩:=h.yn;exact .v a
 |nil=>rw[h.ZV];exact .nil
 |em=>obtain⟨c,cap,rfl,b⟩:=h.oP;exact .em b
 |sl s es=>exact h.cu
 |ptr cs=>exact h.Vq
 |_=>simp[O.W5]at hs
theorem A9{x:O}{u:Value}(h:qw w S G Z x u)(hs:x.shut=true):wT w S x u:=by
 cases x with
 |agg cs=>obtain⟨us,rfl,d,e⟩:=h.Wo;exact .agg d fun j c y a b=>rh (e j c y a b) (qB.1 hs c (zT a))
 |_=>exact rh h hs
theorem J0(m:Inv P w S G Y Z){x y:O}{Y1:Hp}{u:Value}(h:qp Y x=some (y,Y1))(d:qw w S G Z x u) :
  ∃g,kN dr P Y Z S G w Y1 Z g G w/\wT w g y u/\(x.kI=false->g=S):=by
 have c:∀{o:O} {p:Hp},some (x,Y)=some (o,p)->wT w S x u->∃g,kN dr P Y Z S G w p Z g G w/\wT w g o u/\(x.kI=false->g=S):=by
  intro o p e A;injection e with e
  injection e with B C;subst B;subst C;exact⟨S,.refl m,A,fun _=>rfl⟩
 unfold qp at h;split at h
 ·rename_i id off n;split at h
  ·rename_i b t;split at h
   ·rename_i i;injection h with h
    injection h with q r;subst q;subst r;obtain⟨cap,z,s,D,I,rfl⟩:=d.Zk;exact⟨_,kN.kill m t,Ev m t d.ZW i.1 i.2 s D _ (fun k E=>.inl E) (.inr rfl),fun h=>by simp[O.kI]at h⟩
   ·cases h
  ·cases h
 ·obtain⟨rfl,F⟩:=d.yn;exact c h (.v F)
 ·have:=d.ZV;subst this;exact c h .nil
 ·exact c h d.cu
 ·obtain⟨J,cap,rfl,H⟩:=d.oP;exact c h (.em H)
 ·exact c h d.Vq
 ·rename_i f xs ys;split at h
  ·rename_i i;obtain⟨us,ts,rfl,q,r,z,s⟩:=d.AO;exact c h (.fn q r (fun j l y a b=>A9 (z j l y a b) (qB.1 i.1 l (zT a))) (fun j l y a b=>A9 (s j l y a b) (qB.1 i.2 l (zT a))))
  ·cases h
 ·cases h
theorem Jl{Y Y1:Hp}{x y:O}(h:qp Y x=some (y,Y1)):y.ye=true:=by
 unfold qp at h;split at h<;>(try (split at h))<;>(try (split at h))<;>first
  |(injection h with h;injection h with a b;subst a;rfl)
  |cases h
theorem Jm:∀{xs ys:zb} {Y Y1:Hp} {S:Nat->Prop} {us:List Value} (_:Inv P w S G Y Z),qm Y xs=some (ys,Y1)->Zip (qw w S G Z) xs us ->
  ∃c,kN dr P Y Z S G w Y1 Z c G w/\Zip (wT w c) ys us/\ys.all O.ye=true/\(xs.any O.kI=false->c=S)
 |[],ys,Y,Y1,S,us,a,h,d=>by
  simp only[qm]at h;injection h with h
  injection h with g i;subst g;subst i;rw[d.Y8];exact⟨S,.refl a,.nil,rfl,fun _=>rfl⟩
 |x::l,ys,Y,Y1,S,us,a,h,d=>by
  simp only[qm]at h;split at h
  ·rename_i y g j;split at h
   ·rename_i r i m;injection h with h
    injection h with n o;subst n;subst o;obtain⟨u,p,rfl,q,e⟩:=d.jX;obtain⟨s,b,t,n1⟩:=J0 (dr:=dr) a j q;have v:=b.same a;obtain⟨z,k,A,B,C⟩:=Jm (S:=s) b.inv m (e.imp fun x u D=>D.mono v (zk _) (fun _ _=>rfl));refine⟨z,b.trans k,.cons (t.mono (k.same b.inv)) A,by simp[B,Jl j],fun f=>?_⟩;simp only[kV,wE]at f;rw[C f.2,n1 f.1]
   ·cases h
  ·cases h
theorem kU(g:Inv P w S G Y Z){x y:O}{Y1:Hp}{u:Value}(h:zO Y x=some (y,Y1))(i:qw w S G Z x u) :
  ∃d,kN dr P Y Z S G w Y1 Z d G w/\wT w d y u/\y.cells.all O.ye=true/\(x.noOwn=true->d=S):=by
 unfold zO at h;split at h
 ·rename_i cs;split at h
  ·rename_i l Y2 m;injection h with h
   injection h with n o;subst n;subst o;obtain⟨us,rfl,p,q⟩:=i.Wo;obtain⟨d,k,z,r,e⟩:=Jm (us:=us.toList) g m ⟨by simpa using p,fun j f x a b=>q j f x a (by simpa using b)⟩;exact⟨d,k,.agg (by have:=z.1;simpa using this) (fun j f x a b=>z.2 j f x a (by simpa using b)),r,fun h=>e (by simpa[O.noOwn]using h)⟩
  ·cases h
 ·obtain⟨d,k,c,e⟩:=J0 g h i;refine⟨d,k,c,?_,fun s=>e ?_⟩
  ·have:=Jl h;cases y<;>simp_all[O.cells,O.ye]
  ·cases x<;>simp_all[O.noOwn,O.kI]
theorem js:∀{xs ys:zb} {Y Y1:Hp} {S:Nat->Prop} {us:List Value} (_:Inv P w S G Y Z),zH Y xs=some (ys,Y1)->Zip (qw w S G Z) xs us ->
  ∃c,kN dr P Y Z S G w Y1 Z c G w/\Zip (wT w c) ys us/\(xs.all O.noOwn=true->c=S)
 |[],ys,Y,Y1,S,us,a,h,d=>by
  simp only[zH]at h;injection h with h
  injection h with g i;subst g;subst i;rw[d.Y8];exact⟨S,.refl a,.nil,fun _=>rfl⟩
 |x::l,ys,Y,Y1,S,us,a,h,d=>by
  simp only[zH]at h;split at h
  ·rename_i y g k;split at h
   ·rename_i r i m;injection h with h
    injection h with n o;subst n;subst o;obtain⟨u,p,rfl,q,e⟩:=d.jX;obtain⟨s,b,t,_,n1⟩:=kU (dr:=dr) a k q;have v:=b.same a;obtain⟨z,j,A,B⟩:=js (S:=s) b.inv m (e.imp fun x u C=>C.mono v (zk _) (fun _ _=>rfl));refine⟨z,b.trans j,.cons (t.mono (j.same b.inv)) A,fun f=>?_⟩;simp only[wZ,zD]at f;rw[B f.2,n1 f.1]
   ·cases h
  ·cases h
theorem Za(f:Inv P w S G Y Z){x y:O}{Y1:Hp}{u:Value}(h:freeze Y x=some (y,Y1))(g:qw w S G Z x u) :
  ∃d,kN dr P Y Z S G w Y1 Z d G w/\wT w d y u:=by
 unfold freeze at h;split at h
 ·rename_i cs;split at h
  ·rename_i l Y2 i;injection h with h
   injection h with m n;subst m;subst n;obtain⟨us,rfl,o,p⟩:=g.Ik;obtain⟨d,k,z,_⟩:=js (us:=us.toList) f i ⟨by simpa using o,fun j e x a b=>p j e x a (by simpa using b)⟩;exact⟨d,k,.wL (by have:=z.1;simpa using this) (fun j e x a b=>z.2 j e x a (by simpa using b))⟩
  ·cases h
 ·obtain⟨d,k,c,_⟩:=kU f h g;exact⟨d,k,c⟩
theorem WK:∀(l cs:zb) (off:Nat),(yF cs off l).length=cs.length
 |[],cs,off=>rfl
 |x::l,cs,off=>by simp[yF,WK l]
theorem KI:∀(l cs:zb) (off k:Nat),off+l.length<=cs.length->(yF cs off l)[k]?=if off<=k/\k<off+l.length then l[k-off]? else cs[k]?
 |[],cs,off,k,_=>by simp[yF];omega
 |x::l,cs,off,k,h=>by
  simp only[zd]at h;have b:=KI l (cs.set off x) (off+1) k (by simp;omega);simp only[yF];rw[b];by_cases a:off+1<=k/\k<off+1+l.length
  ·rw[zg a,zg ⟨by omega,by simp;omega⟩];obtain⟨d,rfl⟩:∃d,k=off+1+d:=⟨k-(off+1),by omega⟩;rw[show off+1+d-(off+1)=d from by omega,show off+1+d-off=d+1 from by omega];simp
  ·rw[zf a];by_cases c:k=off
   ·subst c;rw[zg ⟨by omega,by simp⟩,zbj (by omega)];simp
   ·rw[zf (by simp;omega),oN (by omega)]
theorem vo{α:Type}(l vs:List α)(o k:Nat)(h:o+vs.length<=l.length):(l.take o++vs++l.drop (o+vs.length))[k]?=if o<=k/\k<o+vs.length then vs[k-o]? else l[k]?:=by
 have a:(l.take o).length=o:=by simp;omega
 rw[qP];by_cases b:k<o
 ·rw[zf (by omega),qC (by omega),zX,zg b]
 ·rw[qo (by omega),a];by_cases c:k<o+vs.length
  ·rw[zg ⟨by omega,c⟩,qC (by omega)]
  ·rw[zf (by omega),qo (by omega),qI];congr 1;omega
theorem Wa{α:Type}(l vs:List α)(o:Nat)(h:o+vs.length<=l.length):(l.take o++vs++l.drop (o+vs.length)).length=l.length:=by simp;omega
theorem lK{s i j i':Nat}(c:j<s)(b:i'≠i)(a n:Nat)(d:a+n<=s):¬(i*s+a<=i'*s+j/\i'*s+j<i*s+a+n):=by
 rcases Nat.lt_or_gt_of_ne b with h|h
 ·have:(i'+1)*s<=i*s:=z7 s h;rw[yc]at this;omega
 ·have:(i+1)*s<=i'*s:=z7 s h;rw[yc]at this;omega
theorem xo{i j n s:Nat}(a:i<n)(b:j<s):i*s+j<n*s:=by have:(i+1)*s<=n*s:=z7 s a;rw[yc]at this;omega
theorem tf(J:Inv P w S G Y Z){id i j:Nat}{b:Blk}{c ys:zb}{vs:List Value}(K:Y id=some b)(d:0<(G id).s)(B:b.es[i]?=some c)(T:ys.length=vs.length)(U:j+ys.length<=c.length)
  (L:∀(k:Nat) (p:O) (u:Value),ys[k]?=some p->vs[k]?=some u->ke w S G Z b.arr p u) :
  ∃N,(storeCells ⟨(G id).g,i*(G id).s+j,none⟩ vs).run P w=.ok () N/\kN dr P Y Z S G w (qf Y id (some ⟨b.e,b.s,b.arr,b.es.set i (yF c j ys)⟩)) Z S G N:=by
 have l:=J.live id b K;obtain⟨n,W,X,Q⟩:=l.row d;have C:c.length=(G id).s:=l.len d c (zT B);have q:i<b.es.length:=(zj.1 B).1;have m:i*(G id).s+j+vs.length<=n.size:=by have:(i+1)*(G id).s<=b.es.length*(G id).s:=z7 _ q;have:=l.fit d;rw[yc]at *;omega
 have D:∀v∈vs,v.oneCell'=true:=by
  intro v hv;obtain⟨k,r⟩:=List.getElem?_of_mem hv;have E:k<ys.length:=by rw[T];exact(zj.1 r).1
  exact(L k ys[k] v (zo E) r).2.2
 have t:=run_storeCells_at P (G id).g (i*(G id).s+j) b.e vs 0 n w W (by simpa using m) D;simp only[Zi]at t;have x:i*(G id).s+j+vs.length<=n.toList.length:=by simpa using m
 refine⟨_,t,kN.set J K d _ _ ?_ ?_ ?_ ?_⟩
 ·rw[wF,Wa _ _ _ x];simpa using X
 ·intro A F;rcases GM F with h|h
  ·exact l.len d A h
  ·subst h;rw[WK];exact C
 ·simpa using l.fit d
 ·intro i' j' A p a f;have R:i'<b.es.length:=by have:=(zj.1 a).1;simpa using this
  rw[List.getElem?_toArray,vo _ _ _ _ x];by_cases o:i'=i
  ·subst o;rw[zbj q]at a;injection a with a
   subst a;rw[KI _ _ _ _ U]at f;by_cases y:j<=j'/\j'<j+ys.length
   ·rw[zg y]at f;rw[zg ⟨by omega,by omega⟩];have r:j'-j<vs.length:=by omega
    refine⟨vs[j'-j],?_,L (j'-j) p _ f (zo r)⟩;rw[show i'*(G id).s+j'-(i'*(G id).s+j)=j'-j from by omega];exact zo r
   ·rw[zf y]at f;rw[zf (by omega)];obtain⟨u,H,I⟩:=Q i' j' c p B f;exact⟨u,by simpa using H,I⟩
  ·rw[oN (fun e=>o e.symm)]at a;have z:j'<(G id).s:=by rw[<-l.len d A (zT a)];exact(zj.1 f).1
   rw[zf (lK z o j vs.length (by omega))];obtain⟨u,H,I⟩:=Q i' j' A p a f;exact⟨u,by simpa using H,I⟩
theorem Ex(hi:Inv P w S G Y Z){t:TypeId}{a x:O}{L:Hp}{u v:Value}(h:ZY P Y t a x=some L)(ha:qw w S G Z a u)(hx:qw w S G Z x v) :
  ∃z R T,(Instr.storeAt t u v).run P w=.ok () z/\kN dr P Y Z S G w L Z R T z:=by
 unfold ZY at h;split at h
 ·rename_i id i j;have U:=ha.aB;obtain⟨hid,rfl⟩:=ha.Wn;split at h
  ·rename_i W F;have H:∀(y:O) (Y1:Hp) (A:Nat->Prop),kN dr P Y Z S G w Y1 Z A G w->qw w A G Z y v->(W.arr=true->wT w A y v)->(∀b,Y1 id=some b->b.arr=W.arr) ->
     (match Y1 id,qY P t with
      |some b,some n=>match b.es[i]? with
       |some c=>if y.cells.length=n/\j+n<=c.length/\y.cells.all O.ye=true then some (qf Y1 id (some ⟨b.e,b.s,b.arr,b.es.set i (yF c j y.cells)⟩))else none
       |none=>none
      |_,_=>none)=some L->∃z R T,(Instr.storeAt t (.pointer (some ⟨(G id).g,i*(G id).s+j,none⟩)) v).run P w=.ok () z/\kN dr P Y Z S G w L Z R T z:=by
    intro y Y1 A N hy X hbb h;split at h
    ·rename_i b n f hn;split at h
     ·rename_i c Q;split at h
      ·rename_i B;obtain⟨e1,e2,e3⟩:=B;injection h with h
       subst h;obtain⟨hl,hr⟩:=eG hy e3;have hsz:v.cells.size=n:=by rw[<-hl,e1]
       obtain⟨z,M7,k2⟩:=tf (P:=P) N.inv (ys:=y.cells) (vs:=v.cells.toList) (j:=j) f U Q (by simpa using hl) (by rw[e1];exact e2) (fun k pv u E hu=>by
        have m:v.cells[k]?=some u:=by simpa using hu
        have h6:=hr k pv u E m;refine⟨fun I=>?_,h6.1,h6.2⟩;rw[hbb b f]at I;have C:=X I;by_cases J:∃cs,y=.agg cs
        ·obtain⟨cs,rfl⟩:=J;cases C with
         |agg g1 g2=>exact g2 k pv u E m
        ·have K:y.cells=[y]:=by cases y<;>first|rfl|exact(J ⟨_,rfl⟩).elim
         have ho:=C.Vp (by rw[K]at e3;simpa using e3);have hv1:v.cells=#[v]:=by cases v<;>first|rfl|simp[Value.oneCell']at ho
         rw[K]at E;rw[hv1]at m;cases k with
         |zero=>simp at E m;subst E;subst m;exact C
         |succ k=>simp at E)
       refine⟨z,A,G,?_,N.trans k2⟩;simp[Instr.storeAt,Instr.sureAddr,storeVar,yJ hn,hsz,M7]
      ·cases h
     ·cases h
    ·cases h
   by_cases o:W.arr=true
   ·simp only[o,zK]at h;split at h
    ·rename_i y Y1 d;obtain⟨A,N,Q,_,_⟩:=kU hi d hx;refine H y Y1 A N (.c Q) (fun _=>Q) (fun b f=>?_) h;have:∀b,Y1 id=some b->Y id=some b:=fun b f=>by
      have p:∀{x y:O} {h q:Hp} (_:qp h x=some (y,q)) (k:Nat) (b:Blk),q k=some b->h k=some b:=by
       intro x y h q d k b f;unfold qp at d;split at d<;>(try (split at d))<;>(try (split at d))<;>first
        |(injection d with d;injection d with e1 e2;subst e2
          first
           |exact f
           |exact vI f)
        |cases d
      have D:∀(xs ys:zb) (h q:Hp) (_:qm h xs=some (ys,q)) (k:Nat) (b:Blk),q k=some b->h k=some b:=by
       intro xs
       induction xs with
       |nil=>intro ys h q d k b f;simp only[qm]at d;injection d with d;injection d with _ e;subst e;exact f
       |cons x l ih=>
        intro ys h q d k b f;simp only[qm]at d;split at d
        ·rename_i y h1 hc1;split at d
         ·rename_i r h2 hr;injection d with d
          injection d with _ e;subst e;exact p hc1 k b (ih _ _ _ hr k b f)
         ·cases d
        ·cases d
      unfold zO at d;split at d
      ·split at d
       ·rename_i l h2 hcs;injection d with d
        injection d with _ e;subst e;exact D _ _ _ _ hcs id b f
       ·cases d
      ·exact p d id b f
     have:=this b f;rw[F]at this;injection this with this
     rw[this]
    ·cases h
   ·simp only[o]at h;exact H x Y S (.refl hi) hx (fun h=>(o h).elim) (fun b f=>by rw[F]at f;injection f with f;rw[f]) h
  ·cases h
 ·cases h
end
variable{dr:Prop}
section
variable{P:Program}{w:World}{S:Nat->Prop}{G:Nat->GI}{Y:Hp}{Z:Nat}
theorem VR{t:TypeId}{f o n:Nat}{ag:Bool}(h:wC P t f=some (o,n,ag)):∃(a:Array Field) (x:Field),P.underlying t=some (.struct a)/\a[f]?=some x/\x.offset=o/\qY P x.type=some n/\jx P x.type=some ag:=by
 unfold wC at h;split at h
 ·rename_i a b;split at h
  ·rename_i x c;split at h
   ·rename_i k l d e;injection h with h
    injection h with g h;injection h with i j;subst g;subst i;subst j;exact⟨a,x,b,c,rfl,d,e⟩
   ·cases h
  ·cases h
 ·cases h
theorem lL(r:Inv P w S G Y Z){t:TypeId}{f:Nat}{p x:O}{u:Value}(h:jh P t f p=some x)(k:qw w S G Z p u):QI dr P w Y Z S G x Y Z ((Instr.fieldAt t u f).run P w):=by
 have a:∀{o n:Nat} {g:Bool} {l:Addr},wC P t f=some (o,n,g)->n≠0->(Instr.fieldAt t (.pointer (some l)) f).run P w=.ok (.pointer (some (l.add o))) w:=by intro o n g l b d;obtain⟨A,x,s,v,rfl,hs,_⟩:=VR b;simp[Instr.fieldAt,zx s,v,Instr.sureAddr,fieldPlace,yJ hs,d]
 unfold jh at h;split at h
 ·rename_i cs;split at h
  ·rename_i o n g b;split at h
   ·cases h
   ·rename_i d;injection h with h
    subst h;cases k.Vq with
    |ptr us y z=>
     refine qF r (a b d) (.c (.ptr (fun j=>us (o+j)) (fun j m e=>?_) (fun j m e=>?_)))
     ·rw[qI]at e;rw[QT,cy];exact y _ m e
     ·rw[qI]at e;exact z _ m e
  ·cases h
 ·rename_i id i j;have q:=k.aB;obtain⟨hid,rfl⟩:=k.Wn;split at h
  ·rename_i o n g b;split at h
   ·cases h
   ·rename_i d;injection h with h
    subst h;refine qF r (a b d) ?_;rw[yz,lF];exact .ref hid q
  ·cases h
 ·cases h
theorem Ey(l:Inv P w S G Y Z){t:TypeId}{f:Nat}{p x:O}{u:Value}(h:xg P t f p=some x)(q:qw w S G Z p u):QI dr P w Y Z S G x Y Z ((Instr.field t u f).run P w):=by
 unfold xg at h;split at h
 ·rename_i cs;obtain⟨us,rfl,r,m⟩:=q.Wo;split at h
  ·rename_i o n d;split at h
   ·rename_i s;injection h with h
    subst h;obtain⟨z,x,e,g,rfl,hs,i⟩:=VR d;refine qF (v:=.agg (us.extract x.offset (x.offset+n))) l ?_ (.agg ?_ ?_)
    ·simp[Instr.field,zx e,g,asAgg,part,xh i,yJ hs]
    ·simp;omega
    ·intro j A v a c;rw[zX]at a;split at a
     ·rw[qI]at a;rw[Array.getElem?_extract]at c;split at c
      ·exact m _ A v a c
      ·cases c
     ·cases a
   ·cases h
  ·rename_i o n d;obtain⟨z,y,e,g,rfl,hs,i⟩:=VR d;have k:y.offset<us.size:=by rw[<-r];exact(zj.1 h).1
   have b:us[y.offset]?=some us[y.offset]:=by simp[k]
   refine qF (v:=us[y.offset]) l ?_ (m _ x _ h b);simp[Instr.field,zx e,g,asAgg,part,xh i,b]
  ·cases h
 ·cases h
theorem xi{t e:TypeId}(h:y2 P t=some e):P.underlying t=some (.slice e):=by
 unfold y2 at h;split at h
 ·injection h with h;subst h;assumption
 ·cases h
theorem Ni{t:TypeId}{m:Nat}{e:TypeId}(h:A7 P t=some (m,e)):P.underlying t=some (.array m e):=by
 unfold A7 at h;split at h
 ·injection h with h;injection h with a b;subst a;subst b;assumption
 ·cases h
theorem oY(y:Inv P w S G Y Z){t:TypeId}{p x:O}{u:Value}{k:IntKind}{i:Int}(h:x4 P t i p=some x)(o:qw w S G Z p u):QI dr P w Y Z S G x Y Z ((Instr.indexAt t u (.int k i)).run P w):=by
 unfold x4 at h;split at h
 ·rename_i m e B;have z:=Ni B;split at h
  ·rename_i n A;split at h
   ·rename_i C;obtain⟨d,f⟩:=C;split at h
    ·rename_i cs;injection h with h
     subst h;cases o.Vq with
     |ptr us D E=>
      rename_i F;refine qF (v:=.pointer (some (F.add (i.toNat*n)))) y ?_ (.c (.ptr (fun j=>us (i.toNat*n+j)) (fun j q l=>?_) (fun j q l=>?_)))
      ·simp[Instr.indexAt,zx z,asIntOf,d,f,Instr.sureAddr,yJ A]
      ·rw[qI]at l;rw[QT,cy];exact D _ q l
      ·rw[qI]at l;exact E _ q l
    ·rename_i id a b;injection h with h
     subst h;have r:=o.aB;obtain⟨hid,rfl⟩:=o.Wn;refine qF (v:=.pointer (some ((⟨(G id).g,a*(G id).s+b,none⟩:Addr).add (i.toNat*n)))) y ?_ ?_
     ·simp[Instr.indexAt,zx z,asIntOf,d,f,Instr.sureAddr,yJ A]
     ·rw[yz,lF];exact .ref hid r
    ·cases h
   ·cases h
  ·cases h
 ·cases h
theorem lM(r:Inv P w S G Y Z){t:TypeId}{p q x:O}{u v:Value}(h:qS P Y t p q=some x)(y:qw w S G Z p u)(Q:qw w S G Z q v):QI dr P w Y Z S G x Y Z ((Instr.indexAt t u v).run P w):=by
 unfold qS at h;split at h
 ·rename_i k i;obtain⟨rfl,_⟩:=Q.yn;split at h
  ·rename_i e R;have K:=xi R;split at h
   ·rename_i n s es hs;split at h
    ·rename_i z;obtain⟨rfl,T,d⟩:=z;cases a:es[i.toNat]? with
     |none=>simp[a]at h
     |some c=>
      simp[a]at h;subst h;cases y.cu with
      |sl us h0 h1 h2 B C L=>
       rename_i A cap;have U:=B c (zT a);have W:i.toNat<es.length:=(zj.1 a).1;have D:c[0]?=some (c[0]'(by omega)):=zo (by omega);obtain⟨X,rfl,hS,_⟩:=C i.toNat 0 c _ a D;have f:i<es.length:=by omega
       refine qF (v:=.pointer (some (X.add (i.toNat*s)))) r ?_ (.c (.ptr (fun j=>us i.toNat j) (fun j E F=>?_) (fun j E F=>L i.toNat j c E a F)))
       ·simp[Instr.indexAt,zx K,asIntOf,d,f,yJ hs]
       ·obtain⟨ad',H,N,I,_⟩:=C i.toNat j c E a F;injection H with H;subst H;rw[QT,cy];exact⟨N,I⟩
    ·cases h
   ·rename_i n id off m hs;split at h
    ·rename_i b hb;split at h
     ·rename_i z;obtain⟨rfl,hn0,d,hik⟩:=z;injection h with h
      subst h;have l:=y.ZW;obtain⟨cap,B,C,L,N,rfl⟩:=y.Zk;have J:(G id).s=n:=by
       have:=(r.live id b hb).size l;have I:(P.info? b.e).map (·.size)=some n:=hs;rw[I]at this;injection this with this
       exact this.symm
      have o:i<m:=by omega
      refine qF (v:=.pointer (some ((⟨(G id).g,off*(G id).s,none⟩:Addr).add (i.toNat*n)))) r ?_ ?_
      ·simp[Instr.indexAt,zx K,asIntOf,d,o,yJ hs]
      ·rw[yz,<-J,<-yc];have:=qw.ref (w:=w) (S:=S) (G:=G) (Z:=Z) (id:=id) (i:=off+i.toNat) (j:=0) B l;simpa using this
     ·cases h
    ·cases h
   ·cases h
  ·exact oY r h y
 ·cases h
theorem Ez(a:Inv P w S G Y Z){t:TypeId}{p q x:O}{u v:Value}(h:QU P t p q=some x)(d:qw w S G Z p u)(e:qw w S G Z q v):QI dr P w Y Z S G x Y Z ((Instr.index t u v).run P w):=by
 unfold QU at h;split at h
 ·rename_i s k i;obtain⟨rfl,_⟩:=e.yn;obtain⟨rfl,_⟩:=d.yn;split at h
  ·rename_i f;split at h
   ·rename_i g;split at h
    ·rename_i b j;injection h with h
     subst h;refine qF (v:=.int .u8 b.toNat) a ?_ (.c (.v rfl));simp[Instr.index,zx f,asIntOf,g,j]
    ·cases h
   ·cases h
  ·cases h
 ·cases h
theorem th(c:Inv P w S G Y Z){vs:zb}{x:O}{i:Nat}{u:Value}(h:vs[i]?=some x)(d:qw w S G Z (.wL vs) u):QI dr P w Y Z S G x Y Z ((Instr.extract u i).run P w):=by
 obtain⟨us,rfl,e,f⟩:=d.Ik;have b:i<us.size:=by rw[<-e];exact(zj.1 h).1
 have a:us[i]?=some us[i]:=by simp[b]
 exact qF (v:=us[i]) c (by simp[Instr.extract,a]) (f i x _ h a)
theorem xp(x:Value)(h:lit x=true):qw w S G Z (.v x) x:=.c (.v h)
theorem Nj{op:BinOp}{k:IntKind}{a b:Int}{x:O}(h:ib op k a b=some x)(t:TypeId)(w:World):∃v,x=.v v/\lit v=true/\(binOp op t (.int k a) (.int k b)).run P w=.ok v w:=by
 unfold ib at h;split at h<;>(try (split at h))<;>first
  |(injection h with h;subst h;exact⟨_,rfl,rfl,by simp[binOp,Op.intArith,Op.intDiv,Op.intCmp,Op.intBits,Op.shift, *]⟩)
  |cases h
theorem Nk{op:BinOp}{a b:ByteArray}{x:O}(h:Nd op a b=some x)(t:TypeId)(w:World):∃v,x=.v v/\lit v=true/\(binOp op t (.string a) (.string b)).run P w=.ok v w:=by
 have d:IntKind.i64.max=9223372036854775807:=by decide
 unfold Nd at h;split at h
 ·split at h
  ·rename_i c;injection h with h
   subst h;refine⟨_,rfl,rfl,?_⟩;have e:(a.size:Int)+(b.size:Int)<=9223372036854775807:=by simp only[maxLen]at c;omega
   simp[binOp,Op.stringOp,e]
  ·cases h
 all_goals first
  |(injection h with h;subst h;exact⟨_,rfl,rfl,by simp[binOp,Op.stringOp]⟩)
  |cases h
theorem Jn{op:BinOp}{t:TypeId}{x y:Operand}{a b:Value}(h:lit a=true)(c:a≠.nilIface)(w:World):(eqGuard op t x y a b).run P w=.ok () w:=by unfold eqGuard;cases op<;>simp<;>(cases a<;>cases b<;>simp_all[lit])
theorem G5{t:TypeId}{k:Nat}(h:Iu P t=some k):jx P t=some false:=by
 unfold Iu at h;unfold jx;split at h<;>first
  |(rename_i a;rw[a];rfl)
  |cases h
theorem cC(w:World)(d:Nat)(B C:Array Value):∀(D:List Field) (k:Nat) (Q:List Nat) (E F:zb) (r:Bool),ra P k D=some Q->yo Q E F=some r ->
  (∀(j:Nat) (t:O),E[j]?=some t->∃u,B[k+j]?=some u/\qw w S G Z t u)->(∀(j:Nat) (t:O),F[j]?=some t->∃u,C[k+j]?=some u/\qw w S G Z t u) ->
  (Op.eqFields (d+1) B C D).run P w=.ok r w
 |[],k,Q,E,F,r,g,e,_,_=>by
  simp only[ra]at g;injection g with g
  subst g;simp only[yo]at e;injection e with e
  subst e;simp[Op.eqFields]
 |f::D,k,Q,E,F,r,g,e,W,X=>by
  simp only[ra]at g;split at g
  ·rename_i z;split at g
   ·rename_i tg i H h2;injection g with g
    subst g;have A:∀(p q:O) (x y:zb) (b s:Bool),E=p::x->F=q::y->(∀u v,qw w S G Z p u->qw w S G Z q v->(Op.equalIn (d+1) f.type u v).run P w=.ok b w)->yo i x y=some s->r=(b&&s) ->
      (Op.eqFields (d+1) B C (f::D)).run P w=.ok r w:=by
     intro p q x y b s h e2 h3 h4 h5;subst h;subst e2;subst h5;obtain⟨u,I,R⟩:=W 0 p rfl;obtain⟨v,J,T⟩:=X 0 q rfl;simp only[Zi]at I J;have ha:=G5 H;have Y1:(part f.type B f.offset).run P w=.ok u w:=by simp[part,xh ha,z.1,I]
     have Y2:(part f.type C f.offset).run P w=.ok v w:=by simp[part,xh ha,z.1,J]
     have ih:=cC w d B C D (k+1) i x y s h2 h4 (fun j t U=>by have:=W (j+1) t (by simpa using U);rwa [show k+(j+1)=k+1+j from by omega]at this) (fun j t U=>by have:=X (j+1) t (by simpa using U);rwa [show k+(j+1)=k+1+j from by omega]at this);cases b<;>simp[Op.eqFields,z.2,Y1,Y2,h3 u v R T,ih]
    unfold yo at e;unfold Iu at H;split at e
    ·simp_all
    ·rename_i K kk a l kk' b m h;injection h with h n
     subst h;subst n;split at e
     ·rename_i hk;subst hk;cases c:yo i l m with
      |none=>simp[c]at e
      |some s=>
       simp[c]at e;refine A _ _ _ _ (a==b) s rfl rfl (fun u v L N=>?_) c e.symm;obtain⟨rfl,_⟩:=L.yn;obtain⟨rfl,_⟩:=N.yn;split at H<;>first
        |(rename_i o;simp[Op.equalIn,zx o];done)
        |simp_all
     ·cases e
    ·rename_i K a l b m h;injection h with h n
     subst h;subst n;cases c:yo i l m with
     |none=>simp[c]at e
     |some s=>
      simp[c]at e;refine A _ _ _ _ (a==b) s rfl rfl (fun u v L N=>?_) c e.symm;obtain⟨rfl,_⟩:=L.yn;obtain⟨rfl,_⟩:=N.yn;split at H<;>first
       |(rename_i o;simp[Op.equalIn,zx o];done)
       |simp_all
    ·rename_i K a l b m h;injection h with h n
     subst h;subst n;cases c:yo i l m with
     |none=>simp[c]at e
     |some s=>
      simp[c]at e;refine A _ _ _ _ (a==b) s rfl rfl (fun u v L N=>?_) c e.symm;obtain⟨rfl,_⟩:=L.yn;obtain⟨rfl,_⟩:=N.yn;split at H<;>first
       |(rename_i o;simp[Op.equalIn,zx o];done)
       |simp_all
    ·cases e
   ·cases g
  ·cases g
def eq1:Nat->O->O->Option Bool
 | 0,.v (.int k a),.v (.int k' b)=>if k=k' then some (a==b)else none
 | 1,.v (.bool a),.v (.bool b)=>some (a==b)
 | 2,.v (.string a),.v (.string b)=>some (a==b)
 |_,_,_=>none
theorem KJ(k:Nat)(a:List Nat)(b:zb):yo (k::a) [] b=none:=by unfold yo;split<;>first|rfl|simp_all
theorem KK(k:Nat)(a:List Nat)(b:zb):yo (k::a) b []=none:=by unfold yo;split<;>first|rfl|simp_all
theorem Ya(k:Nat)(c:List Nat)(p q:O)(d e:zb):yo (k::c) (p::d) (q::e)=(eq1 k p q).bind fun b=>(yo c d e).map (b&&·):=by
 match k with
 | 0=>
  cases p with
  |v x=>cases x with
   |int w a=>cases q with
    |v y=>cases y with
     |int f b=>simp only[yo,eq1];split<;>rfl
     |_=>rfl
    |_=>rfl
   |_=>rfl
  |_=>rfl
 | 1=>
  cases p with
  |v x=>cases x with
   |bool a=>cases q with
    |v y=>cases y<;>rfl
    |_=>rfl
   |_=>rfl
  |_=>rfl
 | 2=>
  cases p with
  |v x=>cases x with
   |string a=>cases q with
    |v y=>cases y<;>rfl
    |_=>rfl
   |_=>rfl
  |_=>rfl
 |k+3=>rfl
theorem VS:∀(a c:List Nat) (d e:zb) (r:Bool),yo (a++c) d e=some r->∃f g,yo a d e=some f/\yo c (d.drop a.length) (e.drop a.length)=some g/\r=(f&&g)
 |[],c,d,e,r,h=>⟨true,r,rfl,h,rfl⟩
 |k::a,c,[],e,r,h=>by rw[qU,KJ]at h;cases h
 |k::a,c,p::d,[],r,h=>by rw[qU,KK]at h;cases h
 |k::a,c,p::d,q::e,r,h=>by
  rw[qU,Ya]at h;cases i:eq1 k p q with
  |none=>rw[i]at h;cases h
  |some b=>rw[i,zW]at h;obtain⟨j,l,rfl⟩:=eo.1 h;obtain⟨f,g,m,n,rfl⟩:=VS a c d e j l;exact⟨b&&f,g,by rw[Ya,i,zW,m];rfl,n,by rw[Bool.and_assoc]⟩
theorem cD:∀(a:List Nat) (b c:zb),yo a (b.take a.length) (c.take a.length)=yo a b c
 |[],b,c=>by simp only[yo]
 |k::a,[],c=>by rw[List.take_nil,KJ,KJ]
 |k::a,p::b,[]=>by rw[List.take_nil,KK,KK]
 |k::a,p::b,q::c=>by rw[zd,ziM,ziM,Ya,Ya,cD a b c]
theorem Nl{t:TypeId}{b:List Nat}(h:subA P t=some b):∃a,P.underlying t=some (.struct a)/\ra P 0 a.toList=some b/\P.stoodInHeld t=false/\qY P t=some b.length:=by
 unfold subA at h;split at h
 ·cases h
 ·rename_i g;split at h
  ·rename_i a c;split at h
   ·rename_i d e;split at h
    ·rename_i f;injection h with h
     subst h;exact⟨a,c,e,by cases i:P.stoodInHeld t<;>simp_all,f⟩
    ·cases h
   ·cases h
  ·cases h
theorem JH(w:World)(d:Nat)(s t:Array Value):∀(R:List Field) (k:Nat) (ks:List Nat) (I J:zb) (r:Bool),rb P k R=some ks->yo ks I J=some r ->
  (∀(j:Nat) (c:O),I[j]?=some c->∃u,s[k+j]?=some u/\qw w S G Z c u)->(∀(j:Nat) (c:O),J[j]?=some c->∃u,t[k+j]?=some u/\qw w S G Z c u) ->
  (Op.eqFields (d+2) s t R).run P w=.ok r w
 |[],k,ks,I,J,r,g,h,_,_=>by
  simp only[rb]at g;injection g with g
  subst g;simp only[yo]at h;injection h with h
  subst h;simp[Op.eqFields]
 |f::R,k,ks,I,J,r,g,h,hx,hy=>by
  simp only[rb]at g;split at g
  ·rename_i o;split at g
   ·rename_i tg T;split at g
    case h_2=>cases g
    rename_i l h2;injection g with g
    subst g;have K:∀(p q:O) (E F:zb) (b C:Bool),I=p::E->J=q::F->(∀u v,qw w S G Z p u->qw w S G Z q v->(Op.equalIn (d+2) f.type u v).run P w=.ok b w)->yo l E F=some C->r=(b&&C) ->
      (Op.eqFields (d+2) s t (f::R)).run P w=.ok r w:=by
     intro p q E F b C i e2 h3 h4 h5;subst i;subst e2;subst h5;obtain⟨u,m,x⟩:=hx 0 p rfl;obtain⟨v,U,hv2⟩:=hy 0 q rfl;simp only[Zi]at m U;have ha:=G5 T;have Y1:(part f.type s f.offset).run P w=.ok u w:=by simp[part,xh ha,o.1,m]
     have Y2:(part f.type t f.offset).run P w=.ok v w:=by simp[part,xh ha,o.1,U]
     have ih:=JH w d s t R (k+1) l E F C h2 h4 (fun j c D=>by have:=hx (j+1) c (by simpa using D);rwa [show k+(j+1)=k+1+j from by omega]at this) (fun j c D=>by have:=hy (j+1) c (by simpa using D);rwa [show k+(j+1)=k+1+j from by omega]at this);cases b<;>simp[Op.eqFields,o.2,Y1,Y2,h3 u v x hv2,ih]
    unfold yo at h;unfold Iu at T;split at h
    ·simp_all
    ·rename_i W kk a y kk' b z i;injection i with i A
     subst i;subst A;split at h
     ·rename_i hk;subst hk;cases e:yo l y z with
      |none=>simp[e]at h
      |some C=>
       simp[e]at h;refine K _ _ _ _ (a==b) C rfl rfl (fun u v X hv=>?_) e h.symm;obtain⟨rfl,_⟩:=X.yn;obtain⟨rfl,_⟩:=hv.yn;split at T<;>first
        |(rename_i B;simp[Op.equalIn,zx B];done)
        |simp_all
     ·cases h
    ·rename_i W a y b z i;injection i with i A
     subst i;subst A;cases e:yo l y z with
     |none=>simp[e]at h
     |some C=>
      simp[e]at h;refine K _ _ _ _ (a==b) C rfl rfl (fun u v X hv=>?_) e h.symm;obtain⟨rfl,_⟩:=X.yn;obtain⟨rfl,_⟩:=hv.yn;split at T<;>first
       |(rename_i B;simp[Op.equalIn,zx B];done)
       |simp_all
    ·rename_i W a y b z i;injection i with i A
     subst i;subst A;cases e:yo l y z with
     |none=>simp[e]at h
     |some C=>
      simp[e]at h;refine K _ _ _ _ (a==b) C rfl rfl (fun u v X hv=>?_) e h.symm;obtain⟨rfl,_⟩:=X.yn;obtain⟨rfl,_⟩:=hv.yn;split at T<;>first
       |(rename_i B;simp[Op.equalIn,zx B];done)
       |simp_all
    ·cases h
   ·split at g
    case h_2=>cases g
    rename_i n hs1;split at g
    case h_2=>cases g
    rename_i l h2;injection g with g
    subst g;obtain⟨r1,r2,i,e2,rfl⟩:=VS _ _ _ _ _ h;rw[<-cD]at i;obtain⟨gs,L,hgt,hgs,hgn⟩:=Nl hs1;have H:jx P f.type=some true:=by unfold jx;rw[L];rfl
    have hfo:P.fieldsOf f.type=gs:=by simp[Program.fieldsOf,L]
    have Y1:(part f.type s f.offset).run P w=.ok (.agg (s.extract k (k+n.length))) w:=by simp[part,xh H,o.1,yJ hgn]
    have Y2:(part f.type t f.offset).run P w=.ok (.agg (t.extract k (k+n.length))) w:=by simp[part,xh H,o.1,yJ hgn]
    have hin:∀(N:zb) (Q:Array Value),(∀(j:Nat) (c:O),N[j]?=some c->∃u,Q[k+j]?=some u/\qw w S G Z c u)->∀(j:Nat) (c:O),(N.take n.length)[j]?=some c->∃u,(Q.extract k (k+n.length))[0+j]?=some u/\qw w S G Z c u:=by
     intro N Q hz j c D;have hjl:j<n.length:=by have:=(zj.1 D).1;rw[yu]at this;omega
     rw[List.getElem?_take_of_lt hjl]at D;obtain⟨u,m,x⟩:=hz j c D;refine⟨u,?_,x⟩;rw[zh,Array.getElem?_extract];have hlt:=(z6.1 m).1;rw[zg (by omega)];exact m
    have hrun:(Op.equalIn (d+2) f.type (.agg (s.extract k (k+n.length))) (.agg (t.extract k (k+n.length)))).run P w=.ok r1 w:=by rw[run_equalIn_struct w (d+1) f.type _ _ (by rw[hfo];exact L) hgs,hfo];exact cC w d _ _ gs.toList 0 n _ _ r1 hgt i (hin I s hx) (hin J t hy)
    have M8:∀(N:zb) (Q:Array Value),(∀(j:Nat) (c:O),N[j]?=some c->∃u,Q[k+j]?=some u/\qw w S G Z c u)->∀(j:Nat) (c:O),(N.drop n.length)[j]?=some c->∃u,Q[k+n.length+j]?=some u/\qw w S G Z c u:=by intro N Q hz j c D;rw[qI]at D;obtain⟨u,m,x⟩:=hz (n.length+j) c D;exact⟨u,by rwa [show k+(n.length+j)=k+n.length+j by omega]at m,x⟩
    have ih:=JH w d s t R (k+n.length) l _ _ r2 h2 e2 (M8 I s hx) (M8 J t hy);cases r1<;>simp[Op.eqFields,o.2,Y1,Y2,hrun,ih]
  ·cases g
theorem ri{t:TypeId}{g:List Nat}{xs ys:zb}{r:Bool}{u v:Value}(b:GX P t=some g)(z:yo g xs ys=some r)(A:qw w S G Z (.agg xs) u)(B:qw w S G Z (.agg ys) v) :
  (Op.equal t u v).run P w=.ok r w/\∀(op:BinOp) (x y:Operand),(eqGuard op t x y u v).run P w=.ok () w:=by
 obtain⟨e,rfl,i,k⟩:=A.Wo;obtain⟨f,rfl,l,m⟩:=B.Wo;unfold GX at b;split at b
 ·cases b
 ·rename_i C;have n:P.stoodInHeld t=false:=by cases h:P.stoodInHeld t<;>simp_all
  have o:P.eqGuardType P.depth t=false:=by cases h:P.eqGuardType P.depth t<;>simp_all
  split at b
  ·rename_i q s;have c:P.fieldsOf t=q:=by simp[Program.fieldsOf,s]
   constructor
   ·unfold Op.equal Op.maxDepth;rw[show(10000:Nat)=9999+1 from rfl,run_equalIn_struct w 9999 t e f (by rw[c];exact s) n,c];exact JH w 9997 e f q.toList 0 g xs ys r b z
     (fun j p d=>by
      have a:j<e.size:=by rw[<-i];exact(zj.1 d).1
      exact⟨e[j],by simp[a],k j p _ d (by simp[a])⟩)
     (fun j p d=>by
      have a:j<f.size:=by rw[<-l];exact(zj.1 d).1
      exact⟨f[j],by simp[a],m j p _ d (by simp[a])⟩)
   ·intro op x y;unfold eqGuard;cases op<;>simp[o]
  ·cases b
theorem lN{t:TypeId}(a b:Bool)(c:P.underlying t=some .bool)(w:World):(Op.equal t (.bool a) (.bool b)).run P w=.ok (a==b) w:=by
 have h:∀d:Nat,(Op.equalIn (d+1) t (.bool a) (.bool b)).run P w=.ok (a==b) w:=fun d=>by simp only[Op.equalIn,vO,zx c,kx,WI]
 exact h 9999
theorem rj{t e:TypeId}(A:Option Addr)(n c:Nat)(a:P.underlying t=some (.slice e))(w:World):(Op.equal t (.slice A n c) (.slice none 0 0)).run P w=.ok A.isNone w:=by
 have h:∀d:Nat,(Op.equalIn (d+1) t (.slice A n c) (.slice none 0 0)).run P w=.ok A.isNone w:=fun d=>by cases A<;>simp only[Op.equalIn,vO,zx a,kx,WI]<;>rfl
 exact h 9999
theorem rk{p:O}{u:Value}{r:Bool}(h:KG p=some r)(b:qw w S G Z p u):∃A n c,u=.slice A n c/\A.isNone=r:=by
 unfold KG at h;split at h
 ·injection h with h;subst h;exact⟨none,0,0,b.ZV,rfl⟩
 ·injection h with h;subst h;obtain⟨f,cap,rfl,_⟩:=b.oP;exact⟨_,_,_,rfl,rfl⟩
 ·injection h with h;subst h;obtain⟨cap,_,_,_,_,rfl⟩:=b.Zk;exact⟨_,_,_,rfl,rfl⟩
 ·rename_i s c es;injection h with h;subst h
  cases b.cu with
  |sl us d e g i j k=>
   rename_i A cap;cases A with
   |none=>have:=d rfl;subst this;simp at e
   |some a=>exact⟨_,_,_,rfl,rfl⟩
 ·cases h
theorem EA(g:Inv P w S G Y Z){op:BinOp}{t:TypeId}{p q x:O}{u v:Value}(C D:Operand)(h:Qi P op t p q=some x)(f:qw w S G Z p u)(i:qw w S G Z q v) :
  QI dr P w Y Z S G x Y Z ((do eqGuard op t C D u v;binOp op t u v:Sem Value).run P w):=by
 unfold Qi at h;split at h
 ·rename_i k a k' b;obtain⟨rfl,_⟩:=f.yn;obtain⟨rfl,_⟩:=i.yn;split at h
  ·rename_i E;subst E;obtain⟨r,rfl,l,m⟩:=Nj (P:=P) h t w;exact qF (v:=r) g (by simp[Jn (a:=.int k a) rfl (by simp) w,m]) (xp r l)
  ·cases h
 ·rename_i a b;obtain⟨rfl,_⟩:=f.yn;obtain⟨rfl,_⟩:=i.yn;obtain⟨r,rfl,l,m⟩:=Nk (P:=P) h t w;exact qF (v:=r) g (by simp[Jn (a:=.string a) rfl (by simp) w,m]) (xp r l)
 ·rename_i a b;obtain⟨rfl,_⟩:=f.yn;obtain⟨rfl,_⟩:=i.yn;split at h
  ·rename_i j;injection h with h
   subst h;refine qF (v:=.bool (a==b)) g ?_ (xp _ rfl);simp only[vO,Jn (a:=.bool a) rfl (by simp) w,kx,binOp,lN a b j,WI]
  ·rename_i j;injection h with h
   subst h;refine qF (v:=.bool (!(a==b))) g ?_ (xp _ rfl);simp only[vO,Jn (a:=.bool a) rfl (by simp) w,kx,binOp,lN a b j,WI]
  ·cases h
 ·rename_i xs ys;split at h
  ·rename_i z B;split at h
   ·cases d:yo z xs ys with
    |none=>simp[d]at h
    |some r=>simp[d]at h;subst h;obtain⟨o,s⟩:=ri B d f i;obtain⟨F,rfl,_,_⟩:=f.Wo;obtain⟨H,rfl,_,_⟩:=i.Wo;exact qF (v:=.bool r) g (by simp[s,binOp,o]) (xp _ rfl)
   ·cases d:yo z xs ys with
    |none=>simp[d]at h
    |some r=>simp[d]at h;subst h;obtain⟨o,s⟩:=ri B d f i;obtain⟨F,rfl,_,_⟩:=f.Wo;obtain⟨H,rfl,_,_⟩:=i.Wo;exact qF (v:=.bool !r) g (by simp[s,binOp,o]) (xp _ rfl)
   ·cases h
  ·cases h
 ·have:=i.ZV;subst this;split at h
  ·rename_i e r d y;injection h with h
   subst h;obtain⟨A,n,c,rfl,rfl⟩:=rk y f;refine qF (v:=.bool A.isNone) g ?_ (xp _ rfl);simp only[vO,eqGuard,binOp,rj A n c (xi d),WI,kx];simp
  ·rename_i e r d y;injection h with h
   subst h;obtain⟨A,n,c,rfl,rfl⟩:=rk y f;refine qF (v:=.bool !A.isNone) g ?_ (xp _ rfl);simp only[vO,eqGuard,binOp,rj A n c (xi d),WI,kx];simp
  ·cases h
 ·cases h
theorem Iv(b:Inv P w S G Y Z){op:BinOp}{t:TypeId}{p q x:O}{u v:Value}(g a:Operand)(h:VP (isK a) P op t p q=some x)(i:qw w S G Z p u)(j:qw w S G Z q v) :
  QI dr P w Y Z S G x Y Z ((do eqGuard op t g a u v;binOp op t u v:Sem Value).run P w):=by
 unfold VP at h;split at h
 ·rename_i l;obtain⟨rfl,_⟩:=i.yn;obtain⟨rfl,_⟩:=j.yn;obtain⟨c,rfl⟩:∃c,a=.const c:=by cases a<;>first|exact⟨_,rfl⟩|(simp[isK]at l)
  unfold GY at h;split at h
  ·rename_i e;unfold Eu at e;split at e
   ·rename_i m f;have k:(Op.equal t .nilIface .nilIface).run P w=.ok true w:=by
     have h:∀d:Nat,(Op.equalIn (d+1) t .nilIface .nilIface).run P w=.ok true w:=fun d=>by simp only[Op.equalIn,vO,zx f,kx,WI]
     exact h 9999
    split at h
    ·injection h with h;subst h;refine qF (v:=.bool true) b ?_ (xp _ rfl);simp[eqGuard,binOp,k,Result.andThen]
    ·injection h with h;subst h;refine qF (v:=.bool false) b ?_ (xp _ rfl);simp[eqGuard,binOp,k,Result.andThen]
    ·cases h
   ·cases e
  ·cases h
 ·exact EA b g a h i j
theorem Iw(a:Inv P w S G Y Z){op:UnOp}{p x:O}{u:Value}(h:Tb op p=some x)(b:qw w S G Z p u):QI dr P w Y Z S G x Y Z ((Op.unary op u).run P w):=by
 unfold Tb at h;split at h
 ·obtain⟨rfl,_⟩:=b.yn;split at h
  ·injection h with h;subst h;exact qF (v:=_) a (by simp[Op.unary]) (xp _ rfl)
  ·cases h
 ·obtain⟨rfl,_⟩:=b.yn;split at h
  ·injection h with h;subst h;exact qF (v:=_) a (by simp[Op.unary,Op.intArith]) (xp _ rfl)
  ·cases h
 ·cases h
theorem Ix(e:Inv P w S G Y Z){a dst:TypeId}{p x:O}{u:Value}(h:aP P a dst p=some x)(f:qw w S G Z p u):QI dr P w Y Z S G x Y Z ((convert a dst u).run P w):=by
 unfold aP at h;split at h
 ·obtain⟨rfl,_⟩:=f.yn;split at h
  ·rename_i d k b c;injection h with h
   subst h;exact qF (v:=_) e (by simp[convert,zx b,zx c,Conv.intToInt]) (xp _ rfl)
  ·cases h
 ·obtain⟨rfl,_⟩:=f.yn;split at h
  ·rename_i d b c;injection h with h
   subst h;exact qF (v:=_) e (by simp[convert,zx b,zx c]) (xp _ rfl)
  ·cases h
 ·cases h
end
end Go.AM
