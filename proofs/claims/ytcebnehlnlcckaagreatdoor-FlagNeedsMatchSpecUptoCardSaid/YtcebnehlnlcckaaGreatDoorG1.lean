/- Lemmas. -/
import Derived.WalkKit
import Derived.ChangeAgain
import Derived.Lib.ItoaNum
import Derived.Test.YtcebnehlnlcckaaGreatDoorG0
set_option maxRecDepth 8000
set_option maxHeartbeats 4000000
open Go Proofs Proofs.YtcebnehlnlcckaaGreatDoor Proofs.Tryz RowKit AM SpanLaw Q Zz
namespace Go.AM
variable{dr:Prop}
inductive O where
 |v (x:Value)
 |nil
 |agg (cs:List O)
 |wP (cs:List O)
 |sl (s:Nat) (es:List (List O))
 |em
 |ptr (cs:List O)
 |own (id off n:Nat)
 |ref (id i j:Nat)
 |mp (id:Nat)
 |fn (f:Fn) (first captured:List O)
def lit:Value->Bool
 | .bool _|.int _ _|.string _|.nilFunc|.pointer none|.nilIface|.map none|.slice (some _) 0 0=>true
 |_=>false
def O.wW:O->Bool
 | .agg _|.wP _=>false
 |_=>true
inductive wH (w:World) (S:Nat->Prop):O->Value->Prop
 |v {x:Value}:lit x=true->wH w S (.v x) x
 |nil:wH w S .nil (.slice none 0 0)
 |em {ad:Addr} {cap:Nat}:cap<=maxLen->wH w S .em (.slice (some ad) 0 cap)
 |agg {cs:List O} {us:Array Value}:cs.length=us.size->(∀(j:Nat) (pv:O) (u:Value),cs[j]?=some pv->us[j]?=some u->wH w S pv u)->wH w S (.agg cs) (.agg us)
 |wP {cs:List O} {us:Array Value}:cs.length=us.size->(∀(j:Nat) (pv:O) (u:Value),cs[j]?=some pv->us[j]?=some u->wH w S pv u)->wH w S (.wP cs) (.tuple us)
 |sl {es:List (List O)} {A:Option Addr} {cap s:Nat} (us:Nat->Nat->Value):(A=none->cap=0)->es.length<=cap->cap<=maxLen->(∀c∈es,c.length=s) ->
   (∀(i j:Nat) (c:List O) (pv:O),es[i]?=some c->c[j]?=some pv->∃ad,A=some ad/\S ad.block/\w.cell? (ad.add (i*s+j))=some (us i j)/\(us i j).oneCell'=true) ->
   (∀(i j:Nat) (c:List O) (pv:O),es[i]?=some c->c[j]?=some pv->wH w S pv (us i j))->wH w S (.sl s es) (.slice A es.length cap)
 |ptr {cs:List O} {ad:Addr} (us:Nat->Value):(∀(j:Nat) (pv:O),cs[j]?=some pv->S ad.block/\w.cell? (ad.add j)=some (us j)) ->
   (∀(j:Nat) (pv:O),cs[j]?=some pv->wH w S pv (us j))->wH w S (.ptr cs) (.pointer (some ad))
 |fn {f:Fn} {xs ys:List O} {us ts:Array Value}:xs.length=us.size->ys.length=ts.size->(∀(j:Nat) (pv:O) (u:Value),xs[j]?=some pv->us[j]?=some u->wH w S pv u) ->
   (∀(j:Nat) (pv:O) (u:Value),ys[j]?=some pv->ts[j]?=some u->wH w S pv u)->wH w S (.fn f xs ys) (.func f us ts)
structure GI where
 g:Nat
 z:Nat
 s:Nat
inductive qe (w:World) (S:Nat->Prop) (G:Nat->GI) (Z:Nat):O->Value->Prop
 |c {pv:O} {x:Value}:wH w S pv x->qe w S G Z pv x
 |own {id off n cap:Nat}:id<Z->n<=cap->cap<=maxLen->(off+cap)*(G id).s=(G id).z->0<(G id).s->qe w S G Z (.own id off n) (.slice (some ⟨(G id).g,off*(G id).s,none⟩) n cap)
 |ref {id i j:Nat}:id<Z->0<(G id).s->qe w S G Z (.ref id i j) (.pointer (some ⟨(G id).g,i*(G id).s+j,none⟩))
 |mp {id:Nat}:id<Z->(G id).s=0->qe w S G Z (.mp id) (.map (some (G id).g))
 |agg {cs:List O} {us:Array Value}:cs.length=us.size->(∀(j:Nat) (pv:O) (u:Value),cs[j]?=some pv->us[j]?=some u->qe w S G Z pv u)->qe w S G Z (.agg cs) (.agg us)
 |wP {cs:List O} {us:Array Value}:cs.length=us.size->(∀(j:Nat) (pv:O) (u:Value),cs[j]?=some pv->us[j]?=some u->qe w S G Z pv u)->qe w S G Z (.wP cs) (.tuple us)
 |fn {f:Fn} {xs ys:List O} {us ts:Array Value}:xs.length=us.size->ys.length=ts.size->(∀(j:Nat) (pv:O) (u:Value),xs[j]?=some pv->us[j]?=some u->qe w S G Z pv u) ->
   (∀(j:Nat) (pv:O) (u:Value),ys[j]?=some pv->ts[j]?=some u->qe w S G Z pv u)->qe w S G Z (.fn f xs ys) (.func f us ts)
theorem Qx(a:Addr)(n:Nat):(a.add n).block=a.block:=by unfold Addr.add;split<;>rfl
theorem bj(a:Addr)(i j:Nat):(a.add i).add j=a.add (i+j):=by unfold Addr.add;by_cases hi:i=0<;>by_cases b:j=0<;>simp[hi,b,gQ]
theorem wH.mono{w w':World}{S p:Nat->Prop}{d:O}{x:Value}(h:wH w S d x)(g:∀b,S b->p b/\w'.heap[b]?=w.heap[b]?):wH w' p d x:=by
 induction h with
 |v h=>exact .v h
 |nil=>exact .nil
 |em h=>exact .em h
 |agg k _ a=>exact .agg k a
 |wP k _ a=>exact .wP k a
 |sl us q f l r s _ a=>refine .sl us q f l r (fun i j c d hi m=>?_) a;obtain⟨ad,e,hs,n,o⟩:=s i j c d hi m;refine⟨ad,e,(g _ hs).1,?_,o⟩;rw[<-n];apply V0;rw[Qx];exact(g _ hs).2
 |ptr us f _ a=>refine .ptr us (fun j d m=>?_) a;obtain⟨hs,n⟩:=f j d m;refine⟨(g _ hs).1,?_⟩;rw[<-n];apply V0;rw[Qx];exact(g _ hs).2
 |fn f l _ _ t u=>exact .fn f l t u
theorem qe.mono{w w':World}{S i:Nat->Prop}{G j:Nat->GI}{Z k:Nat}{l:O}{x:Value}(h:qe w S G Z l x)(o:∀b,S b->i b/\w'.heap[b]?=w.heap[b]?)
  (s:Z<=k) (e:∀id,id<Z->j id=G id):qe w' i j k l x:=by
 induction h with
 |c h=>exact .c (h.mono o)
 |own d a p m n=>rw[<-e _ d]at m n⊢;exact .own (by omega) a p m n
 |ref d a=>rw[<-e _ d]at a⊢;exact .ref (by omega) a
 |mp d a=>rw[<-e _ d]at a⊢;exact .mp (by omega) a
 |agg f _ g=>exact .agg f g
 |wP f _ g=>exact .wP f g
 |fn d a _ _ q r=>exact .fn d a q r
theorem wH.KJ{w:World}{S:Nat->Prop}{a:O}{x:Value}(h:wH w S a x)(b:a.wW=true):x.oneCell'=true:=by
 cases h with
 |v h=>cases x<;>simp_all[lit,Value.oneCell']
 |agg=>simp[O.wW]at b
 |wP=>simp[O.wW]at b
 |_=>rfl
theorem qe.KJ{w:World}{S:Nat->Prop}{G:Nat->GI}{Z:Nat}{b:O}{x:Value}(h:qe w S G Z b x)(a:b.wW=true):x.oneCell'=true:=by
 cases h with
 |c h=>exact h.KJ a
 |agg=>simp[O.wW]at a
 |wP=>simp[O.wW]at a
 |_=>rfl
structure kN where
 e:TypeId
 s:Nat
 arr:Bool
 es:List (List O)
abbrev Hp:=Nat->Option kN
def qR{α:Type}(f:Nat->α)(k:Nat)(x:α):Nat->α:=fun i=>if i=k then x else f i
@[simp]theorem wL{α:Type}(f:Nat->α)(k:Nat)(x:α):qR f k x k=x:=by simp[qR]
theorem wi{α:Type}(f:Nat->α)(k i:Nat)(x:α)(h:i≠k):qR f k x i=f i:=by simp[qR,h]
def jg(w:World)(S:Nat->Prop)(G:Nat->GI)(Z:Nat)(a:Bool)(b:O)(u:Value):Prop:=
 (a=true->wH w S b u)/\qe w S G Z b u/\u.oneCell'=true
structure Co (P:Program) (w:World) (S:Nat->Prop) (G:Nat->GI) (Z:Nat) (gi:GI) (b:kN):Prop where
 size:(P.info? b.e).map (·.size)=some gi.s
 len:∀c∈b.es,c.length=gi.s
 fit:b.es.length*gi.s<=gi.z
 row:∃cur:Array Value,w.heap[gi.g]?=some (.cells cur b.e (0,0))/\cur.size=gi.z /\
  ∀(i j:Nat) (c:List O) (pv:O),b.es[i]?=some c->c[j]?=some pv->∃u,cur[i*gi.s+j]?=some u/\jg w S G Z b.arr pv u
def c9(w:World)(S:Nat->Prop)(c:List O)(e:MapEntry):Prop:=∃(k:Value) (a:O),c=[.v k,a]/\e.key=k/\lit k=true/\wH w S a e.val
def Stamped(en:Array MapEntry)(a:Nat):Prop:=(∀x∈en.toList,x.born<a)/\(en.toList.map (·.born)).Nodup
structure zbh (w:World) (S:Nat->Prop) (gi:GI) (b:kN):Prop where
 row:∃(en:Array MapEntry) (clock:Nat),w.heap[gi.g]?=some (.map en clock)/\en.size=b.es.length/\∀(i:Nat) (c:List O) (e:MapEntry),b.es[i]?=some c->en[i]?=some e->c9 w S c e
 UC:∃(en:Array MapEntry) (clock:Nat),w.heap[gi.g]?=some (.map en clock)/\Stamped en clock
structure vW (P:Program) (w:World) (S:Nat->Prop) (G:Nat->GI) (Z:Nat) (gi:GI) (b:kN):Prop where
 bs:b.s=gi.s
 cel:0<gi.s->Co P w S G Z gi b
 UD:gi.s=0->zbh w S gi b
theorem vW.size{P:Program}{w:World}{S:Nat->Prop}{G:Nat->GI}{Z:Nat}{a:GI}{b:kN}(h:vW P w S G Z a b)(c:0<a.s):(P.info? b.e).map (·.size)=some a.s:=(h.cel c).size
theorem vW.len{P:Program}{w:World}{S:Nat->Prop}{G:Nat->GI}{Z:Nat}{a:GI}{b:kN}(h:vW P w S G Z a b)(d:0<a.s):∀c∈b.es,c.length=a.s:=(h.cel d).len
theorem vW.fit{P:Program}{w:World}{S:Nat->Prop}{G:Nat->GI}{Z:Nat}{a:GI}{b:kN}(h:vW P w S G Z a b)(c:0<a.s):b.es.length*a.s<=a.z:=(h.cel c).fit
theorem vW.row{P:Program}{w:World}{S:Nat->Prop}{G:Nat->GI}{Z:Nat}{d:GI}{b:kN}(h:vW P w S G Z d b)(k:0<d.s):∃a:Array Value,w.heap[d.g]?=some (.cells a b.e (0,0))/\a.size=d.z /\
  ∀(i j:Nat) (c:List O) (f:O),b.es[i]?=some c->c[j]?=some f->∃u,a[i*d.s+j]?=some u/\jg w S G Z b.arr f u:=(h.cel k).row
theorem vW.vG{P:Program}{w:World}{S:Nat->Prop}{G:Nat->GI}{Z:Nat}{a:GI}{b:kN}(d:0<a.s)(c:b.s=a.s)(h:Co P w S G Z a b):vW P w S G Z a b:=
 ⟨c,fun _=>h,fun e=>by omega⟩
def Lu(P:Program)(g:Nat):Prop:=g<P.globals.size/\∃zero t,((begin P (fun _ _=>0) default).world.heap[g]?).bind Obj.row?=some (zero,t)/\zero.size=1/\P.buildable t=true/\P.cellTypes P.depth t=some [t]/\P.underlying t=some (.int .i64)
def Jh:List (Nat×IntKind×List Int):=[]++[(5,.u64,Lib.pow10Tab)]
def ud(w:World)(S:Nat->Prop)(t:Nat×IntKind×List Int):Prop:=S t.1/\∃ty a,w.heap[t.1]?=some (.cells (t.2.2.map fun z=>Value.int t.2.1 z).toArray ty a)
def Gl(P:Program)(w:World)(S:Nat->Prop):Prop:=(∀g,Lu P g->S g/\∃m,w.cell? ⟨g,0,none⟩=some (.int .i64 m))/\∀t∈Jh,ud w S t
theorem Gl.mono{P:Program}{w w':World}{S e:Nat->Prop}(h:Gl P w S)(c:∀b,S b->e b/\w'.heap[b]?=w.heap[b]?):Gl P w' e:=by
 refine⟨fun g f=>?_,fun t i=>?_⟩
 ·obtain⟨a,m,d⟩:=h.1 g f;refine⟨(c g a).1,m,?_⟩;rw[<-d];exact V0 (c g a).2
 ·obtain⟨a,ty,j,d⟩:=h.2 t i;exact⟨(c _ a).1,ty,j,(c _ a).2.trans d⟩
theorem E8{w:World}{a:Addr}{v:Value}(h:w.cell? a=some v):a.block<w.heap.size:=by
 unfold World.cell? at h;split at h
 ·rename_i b;exact(qh.1 b).1
 ·cases h
theorem Gl.O4{P:Program}{w:World}(h:w.ShapedOpen P)(j:∀t∈Jh,ud w (fun b=>b<w.heap.size) t):Gl P w (fun b=>b<w.heap.size):=by
 refine⟨?_,j⟩;rintro g ⟨k,zero,t,l,s,m,n,o⟩;obtain⟨cs,p,hs,q⟩:=h.1 g zero t k l;obtain⟨ts,d,_,e⟩:=q m;rw[n]at d;cases d;have i:0<cs.size:=by omega
 obtain⟨u,f,c⟩:=e 0 cs[0] (by simp[i]);have:u=t:=by simpa using f.symm
 subst this;have a:w.cell? ⟨g,0,none⟩=some cs[0]:=by simp[World.cell?,p,i]
 refine⟨E8 a,?_⟩;rw[a];unfold Cell.ok at c;rw[o]at c;cases r:cs[0]<;>rw[r]at c<;>simp_all
structure Inv (P:Program) (w:World) (S:Nat->Prop) (G:Nat->GI) (Y:Hp) (Z:Nat):Prop where
 st:∀b,S b->b<w.heap.size
 top:∀id b,Y id=some b->id<Z
 live:∀id b,Y id=some b->vW P w S G Z (G id) b
 apart:∀id b,Y id=some b->¬S (G id).g
 inj:∀id id' b b',Y id=some b->Y id'=some b'->(G id).g=(G id').g->id=id'
 gT:Gl P w S
theorem vW.lt{P:Program}{w:World}{S:Nat->Prop}{G:Nat->GI}{Z:Nat}{a:GI}{b:kN}(h:vW P w S G Z a b):a.g<w.heap.size:=by
 rcases Nat.eq_zero_or_pos a.s with c|c
 ·obtain⟨en,d,e,_⟩:=(h.UD c).row;exact(qh.1 e).1
 ·obtain⟨f,e,_⟩:=h.row c;exact(qh.1 e).1
theorem jg.mono{w w':World}{S c:Nat->Prop}{G d:Nat->GI}{Z e:Nat}{a:Bool}{f:O}{u:Value}(h:jg w S G Z a f u)(g:∀b,S b->c b/\w'.heap[b]?=w.heap[b]?)
  (i:Z<=e) (j:∀id,id<Z->d id=G id):jg w' c d e a f u:=
 ⟨fun k=>(h.1 k).mono g,h.2.1.mono g i j,h.2.2⟩
theorem vW.mono{P:Program}{w w':World}{S r:Nat->Prop}{G s:Nat->GI}{Z t:Nat}{m:GI}{b:kN}(h:vW P w S G Z m b)(v:∀b,S b->r b/\w'.heap[b]?=w.heap[b]?)
  (x:Z<=t) (y:∀id,id<Z->s id=G id) (n:w'.heap[m.g]?=w.heap[m.g]?):vW P w' r s t m b:=by
 refine⟨h.bs,fun d=>⟨h.size d,h.len d,h.fit d,?_⟩,fun d=>⟨?_,?_⟩⟩
 ·obtain⟨o,f,l,p⟩:=h.row d;refine⟨o,n.trans f,l,fun i j c q hi z=>?_⟩;obtain⟨u,A,B⟩:=p i j c q hi z;exact⟨u,A,B.mono v x y⟩
 ·obtain⟨en,a,f,l,p⟩:=(h.UD d).row;refine⟨en,a,n.trans f,l,fun i c e hi C=>?_⟩;obtain⟨k,q,D,E,F,H⟩:=p i c e hi C;exact⟨k,q,D,E,F,H.mono v⟩
 ·obtain⟨en,a,f,l⟩:=(h.UD d).UC;exact⟨en,a,n.trans f,l⟩
structure Fr (dr:Prop) (w:World) (L:Nat->Prop) (w':World):Prop where
 os:w'.os=w.os
 tape:w'.tape=w.tape
 output:w'.output=w.output
 size:w.heap.size<=w'.heap.size
 drawn:dr->w.drawn<=w'.drawn
 block:∀k,k<w.heap.size->¬L k->w'.heap[k]?=w.heap[k]?
theorem Fr.refl(w:World)(L:Nat->Prop):Fr dr w L w:=⟨rfl,rfl,rfl,zk _,fun _=>zk _,fun _ _ _=>rfl⟩
theorem Fr.trans{w w' c:World}{L:Nat->Prop}(h:Fr dr w L w'){f:Nat->Prop}(a:Fr dr w' f c)(i:∀b,b<w.heap.size->f b->L b):Fr dr w L c:=
 ⟨a.os.trans h.os,a.tape.trans h.tape,a.output.trans h.output,zG h.size a.size,fun d=>zG (h.drawn d) (a.drawn d),fun k e g=>(a.block k (yZ e h.size) (fun j=>g (i k e j))).trans (h.block k e g)⟩
theorem Fr.drew(w:World)(L:Nat->Prop):Fr dr w L w.drew:=⟨rfl,rfl,rfl,zk _,fun _=>Qj _,fun _ _ _=>rfl⟩
structure St where
 U:Nat->O
 Y:Hp
 Z:Nat
def fN(D:Nat):Deferred:={target:=.collected D,args:=#[]}
def Marks(c:Nat)(w:World)(S:Nat->Prop)(Y:Hp)(G:Nat->GI)(ds:List Deferred):Prop:=c<=w.heap.size/\∃a:List Nat,ds=a.map fN/\a.Nodup/\∀D∈a,c<=D/\w.heap[D]?=some (.deferred (some []))/\¬S D/\∀id b,Y id=some b->(G id).g≠D
theorem Marks.nil{a:Nat}{w:World}{S:Nat->Prop}{Y:Hp}{G:Nat->GI}(h:a<=w.heap.size):Marks a w S Y G []:=⟨h,[],rfl,by simp,by simp⟩
structure Qm (dr:Prop) (P:Program) (w0:World) (S0 L:Nat->Prop) (N Z0:Nat) (G0:Nat->GI) (n0:Nat) (st:St) (S:Nat->Prop) (G:Nat->GI) (a:Act) (w:World):Prop where
 inv:Inv P w S G st.Y st.Z
 xc:∀t,qe w S G st.Z (st.U t) (a.tmps.getD t undef)
 size:a.tmps.size=N
 defers:Marks n0 w S st.Y G a.defers
 s0:∀b,S0 b->S b
 s1:∀b,S b->S0 b\/L b\/w0.heap.size<=b
 own:∀id b,st.Y id=some b->L (G id).g\/w0.heap.size<=(G id).g
 fr:Fr dr w0 L w
 up:Z0<=st.Z
 loc:∀id,id<Z0->G id=G0 id
def gz(dr:Prop)(P:Program)(b:World)(c L:Nat->Prop)(N Z0:Nat)(d:Nat->GI)(e:Nat)(st:St)(a:Act)(w:World):Prop:=∃S G,Qm dr P b c L N Z0 d e st S G a w
theorem yx{α:Sort _}(a:α):∃x,a=x:=⟨_,rfl⟩
theorem xN{a:Int}(h:¬a=0):(a != 0)=true:=by simpa using h
theorem jD{α:Type}[BEq α][LawfulBEq α]{a b:α}(h:¬a=b):(a==b)=false:=by simpa using h
abbrev zb:=List O
abbrev Spec:=zb->Hp->Nat->Option (O×Hp×Nat)
abbrev ZU:=zb->Hp->Option (zb×Hp)
structure Ctx where
 P:Program
 Γ:FuncId->Option Spec
 dyn:Nat->List (Tmp×Tmp):=fun _=>[]
 Lr:Nat->List Tmp:=fun _=>[]
 bk:FuncId->Bool:=fun _=>false
 fz:Nat->List Tmp:=fun _=>[]
 it:FuncId->Option ZU:=fun _=>none
def pV(st:St)(a b:Tmp):Prop:=∀id i j,st.U a=.ref id i j->∃id' i' j' blk,st.U b=.ref id' i' j'/\id≠id'/\st.Y id'=some blk/\blk.arr=false
def Ws(D:List (Tmp×Tmp))(st:St):Prop:=∀p∈D,pV st p.1 p.2
def O.WH:O->Bool
 | .v _|.nil|.em|.sl _ _|.ptr _=>true
 |_=>false
def O.shut:O->Bool
 | .agg cs=>cs.all O.WH
 |x=>x.WH
def O.YS:O->Bool
 | .wP _=>true
 |x=>x.shut
abbrev zB:Nat:=1000000
def TB(L:List Tmp)(st:St):Prop:=∀s∈L,(∀id o n,st.U s≠.own id o n)/\∀id i j,st.U s=.ref id i j->id<st.Z/\∃blk,st.Y id=some blk/\blk.arr=false
def Q6(L:List Tmp)(st:St):Prop:=∀s∈L,((∀id o n,st.U s≠.own id o n)/\∀id i j,st.U s=.ref id i j->id<st.Z/\∃blk,st.Y id=some blk/\blk.arr=false)/\(zB<=s->(st.U (s-zB)).YS=true)
def da:Value->Option O
 | .slice none 0 0=>some .nil
 | .bool b=>some (.v (.bool b))
 | .int k n=>some (.v (.int k n))
 | .string s=>some (.v (.string s))
 | .nilFunc=>some (.v .nilFunc)
 | .pointer none=>some (.v (.pointer none))
 | .nilIface=>some (.v .nilIface)
 | .map none=>some (.v (.map none))
 |_=>none
def vG:List Value->Option zb
 |[]=>some []
 |x::l=>match da x,vG l with
  |some p,some r=>some (p::r)
  |_,_=>none
def gB:Value->Option O
 | .agg cs=>(vG cs.toList).map .agg
 |x=>da x
def get(U:Nat->O):Operand->Option O
 | .tmp t=>some (U t)
 | .const x=>gB x
 | .func f=>some (.fn (.func f) [] [])
 | .global _=>none
def qv(P:Program)(t:TypeId):Option Nat:=(P.info? t).map (·.size)
def jV(P:Program)(t:TypeId):Option Nat:=(P.info? t).map (·.bytes)
def yC(P:Program)(t:TypeId):Option zb:=((P.info? t).bind (·.zero)).bind fun z=>vG z.cells.toList
def wQ(P:Program)(t:TypeId):Option Bool:=(P.underlying t).map fun
 | .struct _|.array _ _=>true
 |_=>false
def wY(P:Program)(t:TypeId):Option TypeId:=match P.underlying t with
 |some (.slice e)=>some e
 |_=>none
def qO(P:Program)(t:TypeId)(f:Nat):Option (Nat×Nat×Bool):=match P.underlying t with
 |some (.struct b)=>match b[f]? with
  |some x=>match qv P x.type,wQ P x.type with
   |some n,some a=>some (x.offset,n,a)
   |_,_=>none
  |none=>none
 |_=>none
def O.cells:O->zb
 | .agg cs=>cs
 |x=>[x]
def qC(P:Program)(t:TypeId)(cs:zb):Option O:=
 match wQ P t,qv P t with
 |some true,some n=>if n<=cs.length then some (.agg (cs.take n))else none
 |some false,some _=>cs[0]?
 |_,_=>none
def O.vn:O->Bool
 | .own _ _ _=>true
 |_=>false
def O.noOwn:O->Bool
 | .agg cs=>!cs.any O.vn
 | .own _ _ _=>false
 |_=>true
def wV(Y:Hp):O->Option (O×Hp)
 | .own id off n=>match Y id with
  |some b=>if b.arr=true/\off+n<=b.es.length then some (.sl b.s ((b.es.drop off).take n),qR Y id none)else none
  |none=>none
 | .v x=>some (.v x,Y)
 | .nil=>some (.nil,Y)
 | .sl s es=>some (.sl s es,Y)
 | .em=>some (.em,Y)
 | .ptr cs=>some (.ptr cs,Y)
 | .fn f xs ys=>if xs.all O.shut=true/\ys.all O.shut=true then some (.fn f xs ys,Y)else none
 |_=>none
def wx(Y:Hp):zb->Option (zb×Hp)
 |[]=>some ([],Y)
 |x::l=>match wV Y x with
  |some (y,Y1)=>match wx Y1 l with
   |some (r,Y2)=>some (y::r,Y2)
   |none=>none
  |none=>none
def qD(Y:Hp):O->Option (O×Hp)
 | .agg cs=>match wx Y cs with
  |some (l,h)=>some (.agg l,h)
  |none=>none
 |x=>wV Y x
def zD(Y:Hp):zb->Option (zb×Hp)
 |[]=>some ([],Y)
 |x::l=>match qD Y x with
  |some (y,Y1)=>match zD Y1 l with
   |some (r,Y2)=>some (y::r,Y2)
   |none=>none
  |none=>none
def freeze(Y:Hp):O->Option (O×Hp)
 | .wP cs=>match zD Y cs with
  |some (l,h)=>some (.wP l,h)
  |none=>none
 |x=>qD Y x
def view(Y:Hp)(n:Nat):O->Option (List zb)
 | .nil=>some []
 | .em=>some []
 | .sl s es=>if s=n then some es else none
 | .own id off k=>match Y id with
  |some b=>if b.arr=true/\b.s=n/\off+k<=b.es.length then some ((b.es.drop off).take k)else none
  |none=>none
 |_=>none
def Lv(op:BinOp)(k:IntKind)(a b:Int):Option O:=
 match op with
 | .add=>some (.v (.int k (k.wrap (a+b))))
 | .sub=>some (.v (.int k (k.wrap (a-b))))
 | .mul=>some (.v (.int k (k.wrap (a*b))))
 | .quo=>if b=0 then none else some (.v (.int k (k.wrap (a.tdiv b))))
 | .rem=>if b=0 then none else some (.v (.int k (a.tmod b)))
 | .eql=>some (.v (.bool (a==b)))
 | .neq=>some (.v (.bool (a != b)))
 | .lss=>some (.v (.bool (decide (a<b))))
 | .leq=>some (.v (.bool (decide (a<=b))))
 | .gtr=>some (.v (.bool (decide (a>b))))
 | .geq=>some (.v (.bool (decide (a>=b))))
 | .and=>some (.v (.int k (k.wrap (BitVec.ofInt k.bits a &&& BitVec.ofInt k.bits b).toNat)))
 | .or=>some (.v (.int k (k.wrap (BitVec.ofInt k.bits a||| BitVec.ofInt k.bits b).toNat)))
 | .xor=>some (.v (.int k (k.wrap (BitVec.ofInt k.bits a ^^^ BitVec.ofInt k.bits b).toNat)))
 | .andNot=>some (.v (.int k (k.wrap (BitVec.ofInt k.bits a &&& ~~~ BitVec.ofInt k.bits b).toNat)))
 | .shr=>if b<0 then none else some (.v (.int k (a.fdiv (2 ^ (min b.toNat k.bits)))))
 | .shl=>if b<0 then none else some (.v (.int k (k.wrap (a*2 ^ (min b.toNat k.bits)))))
def Lw(op:BinOp)(a b:ByteArray):Option O:=
 match op with
 | .add=>if a.size+b.size<=maxLen then some (.v (.string (a++b)))else none
 | .eql=>some (.v (.bool (a.toList==b.toList)))
 | .neq=>some (.v (.bool (!(a.toList==b.toList))))
 | .lss=>some (.v (.bool (Op.bytesLess a.toList b.toList)))
 | .leq=>some (.v (.bool (Op.bytesLess a.toList b.toList||a.toList==b.toList)))
 | .gtr=>some (.v (.bool (!(Op.bytesLess a.toList b.toList||a.toList==b.toList))))
 | .geq=>some (.v (.bool (!(Op.bytesLess a.toList b.toList))))
 |_=>none
def wU:List Nat->zb->zb->Option Bool
 |[],_,_=>some true
 | 0::c,.v (.int k a)::xs,.v (.int d b)::ys=>if k=d then(wU c xs ys).map ((a==b)&&·)else none
 | 1::c,.v (.bool a)::xs,.v (.bool b)::ys=>(wU c xs ys).map ((a==b)&&·)
 | 2::c,.v (.string a)::xs,.v (.string b)::ys=>(wU c xs ys).map ((a==b)&&·)
 |_,_,_=>none
def Gw(P:Program)(t:TypeId):Option Nat:=match P.underlying t with
 |some (.int _)=>some 0
 |some .bool=>some 1
 |some .string=>some 2
 |_=>none
def nV(P:Program):Nat->List Field->Option (List Nat)
 |_,[]=>some []
 |i,f::a=>if f.offset=i/\f.name≠ "_" then match Gw P f.type,nV P (i+1) a with
   |some k,some b=>some (k::b)
   |_,_=>none
  else none
def UN(P:Program)(t:TypeId):Option (List Nat):=if P.stoodInHeld t=true then none else match P.underlying t with
 |some (.struct b)=>match nV P 0 b.toList with
  |some a=>if qv P t=some a.length then some a else none
  |none=>none
 |_=>none
def nW(P:Program):Nat->List Field->Option (List Nat)
 |_,[]=>some []
 |i,f::b=>if f.offset=i/\f.name≠ "_" then match Gw P f.type with
   |some k=>match nW P (i+1) b with
    |some a=>some (k::a)
    |none=>none
   |none=>match UN P f.type with
    |some c=>match nW P (i+c.length) b with
     |some a=>some (c++a)
     |none=>none
    |none=>none
  else none
def E9(P:Program)(t:TypeId):Option (List Nat):=
 if P.stoodInHeld t=true\/P.eqGuardType P.depth t=true then none else
 match P.underlying t with
 |some (.struct a)=>nW P 0 a.toList
 |_=>none
def JS:O->Option Bool
 | .nil=>some true
 | .em=>some false
 | .own _ _ _=>some false
 | .sl _ (_::_)=>some false
 |_=>none
def ZV(P:Program)(op:BinOp)(t:TypeId):O->O->Option O
 | .v (.int k a),.v (.int d b)=>if k=d then Lv op k a b else none
 | .v (.string a),.v (.string b)=>Lw op a b
 | .v (.bool a),.v (.bool b)=>match op,P.underlying t with
  | .eql,some .bool=>some (.v (.bool (a==b)))
  | .neq,some .bool=>some (.v (.bool (!(a==b))))
  |_,_=>none
 | .agg xs,.agg ys=>match E9 P t with
  |some c=>match op with
   | .eql=>(wU c xs ys).map fun r=>.v (.bool r)
   | .neq=>(wU c xs ys).map fun r=>.v (.bool !r)
   |_=>none
  |none=>none
 |p,.nil=>match wY P t,JS p,op with
  |some _,some r,.eql=>some (.v (.bool r))
  |some _,some r,.neq=>some (.v (.bool !r))
  |_,_,_=>none
 |_,_=>none
def CK(P:Program)(t:TypeId):Bool:=match P.underlying t with
 |some (.interface _)=>true
 |_=>false
def TC:Operand->Bool
 | .const _=>true
 |_=>false
def Fa(P:Program)(op:BinOp)(t:TypeId):Option O:=if CK P t=true then match op with
 | .eql=>some (.v (.bool true))
 | .neq=>some (.v (.bool false))
 |_=>none
 else none
def K6(c:Bool)(P:Program)(op:BinOp)(t:TypeId)(p q:O):Option O:=match c,q,p with
 |true,.v .nilIface,.v .nilIface=>Fa P op t
 |_,q,p=>ZV P op t p q
@[simp]theorem zcd(P:Program)(op:BinOp)(t:TypeId)(p q:O):K6 false P op t p q=ZV P op t p q:=rfl
@[simp]theorem zer(t:Tmp):TC (.tmp t)=false:=rfl
@[simp]theorem zbj(v:Value):TC (.const v)=true:=rfl
@[simp]theorem zce(f:FuncId):TC (.func f)=false:=rfl
@[simp]theorem zcf(c:Bool)(P:Program)(op:BinOp)(t:TypeId)(p:O)(k:IntKind)(n:Int):K6 c P op t p (.v (.int k n))=ZV P op t p (.v (.int k n)):=by cases c<;>rfl
@[simp]theorem zcg(c:Bool)(P:Program)(op:BinOp)(t:TypeId)(p:O)(s:ByteArray):K6 c P op t p (.v (.string s))=ZV P op t p (.v (.string s)):=by cases c<;>rfl
@[simp]theorem zbk(c:Bool)(P:Program)(op:BinOp)(t:TypeId)(p:O)(b:Bool):K6 c P op t p (.v (.bool b))=ZV P op t p (.v (.bool b)):=by cases c<;>rfl
@[simp]theorem zch(c:Bool)(P:Program)(op:BinOp)(t:TypeId)(p:O):K6 c P op t p .nil=ZV P op t p .nil:=by cases c<;>rfl
@[simp]theorem zbl(P:Program)(op:BinOp)(t:TypeId):K6 true P op t (.v .nilIface) (.v .nilIface)=Fa P op t:=rfl
def Pu(op:UnOp):O->Option O
 | .v (.bool b)=>match op with
  | .not=>some (.v (.bool !b))
  |_=>none
 | .v (.int k n)=>match op with
  | .neg=>some (.v (.int k (k.wrap (0-n))))
  |_=>none
 |_=>none
def XQ(P:Program)(a dst:TypeId):O->Option O
 | .v (.int _ n)=>match P.underlying a,P.underlying dst with
  |some _,some (.int k)=>some (.v (.int k (k.wrap n)))
  |_,_=>none
 | .v (.string s)=>match P.underlying a,P.underlying dst with
  |some _,some .string=>some (.v (.string s))
  |_,_=>none
 |_=>none
def kD(a:Nat):Option (Option O)->Option Nat
 |none=>some a
 |some (some (.v (.int _ i)))=>if 0<=i then some i.toNat else none
 |_=>none
def yG(P:Program)(Y:Hp)(t:TypeId)(x:O)(lo hi:Option (Option O)):Option O:=
 match P.underlying t,x with
 |some .string,.v (.string s)=>match kD 0 lo,kD s.size hi with
  |some l,some h=>if l<=h/\h<=s.size then some (.v (.string (s.extract l h)))else none
  |_,_=>none
 |some (.slice e),.sl s es=>match qv P e,kD 0 lo,kD es.length hi with
  |some n,some l,some h=>if s=n/\l<=h/\h<=es.length then some (.sl s ((es.drop l).take (h-l)))else none
  |_,_,_=>none
 |some (.slice e),.nil=>match qv P e,kD 0 lo,kD 0 hi with
  |some _,some l,some h=>if l=0/\h=0 then some .nil else none
  |_,_,_=>none
 |some (.slice e),.own id off n=>match qv P e,kD 0 lo,kD n hi with
  |some m,some l,some h=>match Y id with
   |some b=>if b.s=m/\l<=h/\h<=n then some (if l=0 then .own id off h else if h=l then .sl m []else .own id (off+l) (h-l))else none
   |none=>none
  |_,_,_=>none
 |_,_=>none
def V4(k:IntKind)(x:Int):zb->Option O
 |[]=>some (.v (.int k x))
 | .v (.int a y)::l=>if k=a then V4 k (if y<x then y else x) l else none
 |_=>none
def Lx:zb->Option O
 | .v (.int k x)::l=>V4 k x l
 |_=>none
def V5(k:IntKind)(x:Int):zb->Option O
 |[]=>some (.v (.int k x))
 | .v (.int a y)::l=>if k=a then V5 k (if y>x then y else x) l else none
 |_=>none
def Ly:zb->Option O
 | .v (.int k x)::l=>V5 k x l
 |_=>none
def JT(P:Program)(t:TypeId):O->Option O
 | .v (.string s)=>match P.underlying t with
  |some .string=>some (.v (.int .i64 s.size))
  |_=>none
 | .v (.slice (some _) 0 0)=>(wY P t).map fun _=>.v (.int .i64 0)
 | .sl _ es=>(wY P t).map fun _=>.v (.int .i64 es.length)
 | .nil=>(wY P t).map fun _=>.v (.int .i64 0)
 | .em=>(wY P t).map fun _=>.v (.int .i64 0)
 | .own _ _ n=>(wY P t).map fun _=>.v (.int .i64 n)
 |_=>none
def yS(cs:zb)(off:Nat):zb->zb
 |[]=>cs
 |x::l=>yS (cs.set off x) (off+1) l
def qE(a:Nat->Option (Nat×Nat))(cs:zb):List (Nat×O)->Option zb
 |[]=>some cs
 |(i,x)::b=>match a i with
  |some (off,n)=>if x.cells.length=n/\off+n<=cs.length/\x.cells.all O.wW=true then qE a (yS cs off x.cells) b else none
  |none=>none
def yh{α:Type}:List (Option α)->Option (List α)
 |[]=>some []
 |some x::l=>(yh l).map (x::·)
 |none::_=>none
def vo(a:Operand->Option O):List (Nat×Operand)->Option (List (Nat×O))
 |[]=>some []
 |(i,x)::l=>match a x,vo a l with
  |some p,some r=>some ((i,p)::r)
  |_,_=>none
def ZW(P:Program)(t:TypeId):Option (List (Nat×Nat)):=match P.underlying t with
 |some (.struct a)=>a.toList.mapM (fun f=>(P.info? f.type).map fun i=>(f.offset,i.size))
 |_=>none
def qb(P:Program)(t:TypeId)(a:List (Nat×O)):Option O:=
 match ZW P t,yC P t with
 |some b,some z=>(qE (fun i=>b[i]?) z a).map .agg
 |none,some z=>match P.underlying t with
  |some (.array _ e)=>match qv P e with
   |some n=>(qE (fun i=>some (i*n,n)) z a).map .agg
   |none=>none
  |_=>none
 |_,_=>none
def zp(Y:Hp):List (Nat×O)->Option (List (Nat×O)×Hp)
 |[]=>some ([],Y)
 |(i,x)::l=>match qD Y x with
  |some (y,Y1)=>match zp Y1 l with
   |some (r,Y2)=>some ((i,y)::r,Y2)
   |none=>none
  |none=>none
def zJ(n:Nat)(es:List zb):List (Nat×O)->Option (List zb)
 |[]=>some es
 |(i,x)::l=>if x.cells.length=n/\i<es.length/\x.cells.all O.wW=true then zJ n (es.set i x.cells) l else none
def zr(P:Program)(Y:Hp)(Z:Nat)(t:TypeId)(len:Nat)(a:List (Nat×O)):Option (O×Hp×Nat):=
 match wY P t with
 |some e=>match qv P e,yC P e,zp Y a with
  |some n,some z,some (b,Y1)=>if 0<n/\z.length=n/\len*n<=16777216 then
    match zJ n (List.replicate len z) b with
    |some es=>some (.own Z 0 len,qR Y1 Z (some ⟨e,n,true,es⟩),Z+1)
    |none=>none
   else none
  |_,_,_=>none
 |none=>none
def Zz(P:Program)(Y:Hp)(Z:Nat)(t:TypeId):O->O->Option (O×Hp×Nat)
 | .v (.int _ l),.v (.int _ c)=>match wY P t with
  |some e=>match qv P e,jV P e,yC P e with
   |some n,some by_,some z=>if 0<n/\z.length=n/\0<=l/\l<=c/\c.toNat<=maxLen/\c.toNat*by_<=140737488355328 then
     some (.own Z 0 l.toNat,qR Y Z (some ⟨e,n,true,List.replicate l.toNat z⟩),Z+1)
    else none
   |_,_,_=>none
  |none=>none
 |_,_=>none
def PM(P:Program)(u:TypeId):Bool:=match P.underlying u with
 |some .string=>true
 |_=>false
def Fb(P:Program)(e:TypeId):Bool:=match P.info? e with
 |some i=>match i.zero with
  |some (.int .u8 z)=>z==0&&i.size==1&&i.bytes==1
  |_=>false
 |none=>false
def gX(P:Program)(Y:Hp)(n:Nat)(e t u:TypeId):O->Option (List zb)
 | .v (.string b)=>if PM P u=true/\Fb P e=true then some (b.data.toList.map fun c=>[.v (.int .u8 c.toNat)])else none
 |x=>if u=t then view Y n x else none
def yW(P:Program)(Y:Hp)(Z:Nat)(t u:TypeId)(s x:O):Option (O×Hp×Nat):=
 match wY P t with
 |some e=>match qv P e,jV P e,yC P e with
  |some n,some by_,some z=>match gX P Y n e t u x with
   |some xs=>match s with
    | .nil=>
     if 0<n/\z.length=n/\xs.length<=maxLen/\xs.length*by_<=140737488355328 then
      if xs.length=0 then some (.nil,Y,Z)
      else some (.own Z 0 xs.length,qR Y Z (some ⟨e,n,true,xs⟩),Z+1)
     else none
    | .own id 0 k=>match Y id with
     |some b=>if b.arr=true/\b.e=e/\k=b.es.length/\0<n/\z.length=n/\k+xs.length<=maxLen/\(k+xs.length)*by_<=140737488355328 then
       some (.own Z 0 (k+xs.length),qR (qR Y id none) Z (some ⟨e,n,true,b.es++xs⟩),Z+1)
      else none
     |none=>none
    |_=>none
   |none=>none
  |_,_,_=>none
 |none=>none
def Fc(P:Program)(Y:Hp)(Z:Nat)(t:TypeId)(d x:O):Option (O×Hp×Nat):=
 match wY P t,d with
 |some e,.own id off k=>match Y id,qv P e with
  |some b,some n=>match view Y n x with
   |some xs=>if b.arr=true/\b.e=e/\off+k<=b.es.length/\0<n then
     some (.v (.int .i64 (min xs.length k:Nat)),qR Y id (some ⟨b.e,b.s,true,b.es.take off++xs.take (min xs.length k)++b.es.drop (off+min xs.length k)⟩),Z)
    else none
   |none=>none
  |_,_=>none
 |_,_=>none
def db(P:Program)(Y:Hp)(Z:Nat)(t:TypeId)(x:O):Option (O×Hp×Nat):=
 match wY P t,x with
 |some e,.own id off k=>match Y id,qv P e,yC P e with
  |some b,some n,some z=>if(0<n/\z.length=n)/\b.arr=true/\b.e=e/\off+k<=b.es.length/\0<k then
    some (.wP [],qR Y id (some ⟨b.e,b.s,true,b.es.take off++List.replicate k z++b.es.drop (off+k)⟩),Z)
   else none
  |_,_,_=>none
 |_,_=>none
def xB(P:Program)(Y:Hp)(t:TypeId):O->Option O
 | .ptr cs=>qC P t cs
 | .ref id i j=>match Y id with
  |some b=>match b.es[i]? with
   |some c=>qC P t (c.drop j)
   |none=>none
  |none=>none
 |_=>none
def Qy(P:Program)(Y:Hp)(t:TypeId)(a x:O):Option Hp:=
 match a with
 | .ref id i j=>match Y id with
  |some d=>match(if d.arr=true then qD Y x else some (x,Y))with
   |some (y,Y1)=>match Y1 id,qv P t with
    |some b,some n=>match b.es[i]? with
     |some c=>if y.cells.length=n/\j+n<=c.length/\y.cells.all O.wW=true then
       some (qR Y1 id (some ⟨b.e,b.s,b.arr,b.es.set i (yS c j y.cells)⟩))else none
     |none=>none
    |_,_=>none
   |none=>none
  |none=>none
 |_=>none
def yN(P:Program)(t:TypeId)(f:Nat):O->Option O
 | .ptr cs=>match qO P t f with
  |some (o,n,_)=>if n=0 then none else some (.ptr (cs.drop o))
  |none=>none
 | .ref id i j=>match qO P t f with
  |some (o,n,_)=>if n=0 then none else some (.ref id i (j+o))
  |none=>none
 |_=>none
def ZI(P:Program)(t:TypeId)(f:Nat):O->Option O
 | .agg cs=>match qO P t f with
  |some (o,n,true)=>if o+n<=cs.length then some (.agg ((cs.drop o).take n))else none
  |some (o,_,false)=>cs[o]?
  |none=>none
 |_=>none
def ue(P:Program)(t:TypeId):Option (Nat×TypeId):=match P.underlying t with
 |some (.array n e)=>some (n,e)
 |_=>none
def x1(P:Program)(t:TypeId)(i:Int)(x:O):Option O:=
 match ue P t with
 |some (m,e)=>match qv P e with
  |some n=>if 0<=i/\i<m then match x with
    | .ptr cs=>some (.ptr (cs.drop (i.toNat*n)))
    | .ref id a b=>some (.ref id a (b+i.toNat*n))
    |_=>none
   else none
  |none=>none
 |none=>none
def qH(P:Program)(Y:Hp)(t:TypeId):O->O->Option O
 |x,.v (.int _ i)=>match wY P t with
  |some e=>match qv P e,x with
   |some n,.sl s es=>if s=n/\0<n/\0<=i then(es[i.toNat]?).map .ptr else none
   |some n,.own id off k=>match Y id with
    |some b=>if b.e=e/\0<n/\0<=i/\i.toNat<k then some (.ref id (off+i.toNat) 0)else none
    |none=>none
   |_,_=>none
  |none=>x1 P t i x
 |_,_=>none
def Qz(P:Program)(t:TypeId):O->O->Option O
 | .v (.string s),.v (.int _ i)=>match P.underlying t with
  |some .string=>if 0<=i then match s[i.toNat]? with
    |some b=>some (.v (.int .u8 b.toNat))
    |none=>none
   else none
  |_=>none
 |_,_=>none
def K7(P:Program)(t:TypeId):Option (Option IntKind×TypeId):=match P.underlying t with
 |some (.map b a)=>match P.underlying b with
  |some (.int k)=>some (some k,a)
  |some .string=>some (none,a)
  |_=>none
 |_=>none
def Yv:Option IntKind->Value->Bool
 |some k,.int a _=>a==k
 |none,.string _=>true
 |_,_=>false
def xd:Value->Value->Option Bool
 | .int k a,.int c b=>if k=c then some (a==b)else none
 | .string a,.string b=>some (a.toList==b.toList)
 |_,_=>none
def xm(k:Value):List zb->Nat->Option (Option (Nat×O))
 |[],_=>some none
 |[.v a,v]::l,i=>match xd k a with
  |some true=>some (some (i,v))
  |some false=>xm k l (i+1)
  |none=>none
 |_::_,_=>none
def bl(P:Program)(t:TypeId):Option O:=((P.info? t).bind (·.zero)).bind gB
def bm(Y:Hp):O->Option (List zb)
 | .mp id=>match Y id with
  |some b=>if b.s=0 then some b.es else none
  |none=>none
 | .v (.map none)=>some []
 |_=>none
def xC(P:Program)(Y:Hp)(t:TypeId)(x a:O)(b:Bool):Option O:=
 match K7 P t,bm Y x,a with
 |some (c,d),some es,.v k=>if Yv c k=true then match xm k es 0 with
   |some (some (_,v))=>some (if b=true then .wP [v,.v (.bool true)]else v)
   |some none=>(bl P d).map fun z=>if b=true then .wP [z,.v (.bool false)]else z
   |none=>none
  else none
 |_,_,_=>none
def Zt(P:Program)(Y:Hp)(t:TypeId)(x a y:O):Option Hp:=
 match K7 P t,x,a with
 |some (c,_),.mp id,.v k=>if Yv c k=true then match qD Y y with
   |some (z,Y1)=>match Y1 id with
    |some b=>if b.s=0 then match xm k b.es 0 with
      |some (some (i,_))=>some (qR Y1 id (some ⟨b.e,b.s,b.arr,b.es.set i [.v k,z]⟩))
      |some none=>some (qR Y1 id (some ⟨b.e,b.s,b.arr,b.es++[[.v k,z]]⟩))
      |none=>none
     else none
    |none=>none
   |none=>none
  else none
 |_,_,_=>none
def yn(P:Program)(Y:Hp)(Z:Nat)(ts:Array TypeId)(b:Builtin)(xs:zb):Option (O×Hp×Nat):=
 match b with
 | .len=>match xs,ts[0]? with
  |[x],some t=>(JT P t x).map fun y=>(y,Y,Z)
  |_,_=>none
 | .min=>(Lx xs).map fun y=>(y,Y,Z)
 | .max=>(Ly xs).map fun y=>(y,Y,Z)
 | .append=>match xs,ts[0]?,ts[1]? with
  |[s,x],some t,some u=>yW P Y Z t u s x
  |_,_,_=>none
 | .copy=>match xs,ts[0]? with
  |[d,x],some t=>Fc P Y Z t d x
  |_,_=>none
 | .clear=>match xs,ts[0]? with
  |[x],some t=>db P Y Z t x
  |_,_=>none
 |_=>none
def jH(C:Ctx)(Y:Hp)(Z:Nat)(f:Option O)(xs:zb):Option (O×Hp×Nat):=
 match f with
 |some (.fn (.func g) first a)=>match C.Γ g with
  |some b=>b (first++xs++a) Y Z
  |none=>none
 |_=>none
def xO(C:Ctx)(a:Operand->Option O)(Y:Hp)(Z:Nat)(c:Call):Option (O×Hp×Nat):=
 match yh (c.args.toList.map a)with
 |some xs=>match c.callee with
  | .builtin b=>yn C.P Y Z c.argTypes b xs
  | .value f=>jH C Y Z (a f) xs
  | .invoke _ _=>none
 |none=>none
def zU(C:Ctx)(d:Operand->Option O)(Y:Hp)(Z:Nat)(o:Op):Option (O×Hp×Nat):=
 match o with
 | .move x=>(d x).map fun y=>(y,Y,Z)
 | .assign x=>(d x).map fun y=>(y,Y,Z)
 | .pick c a b=>match d c with
  |some (.v (.bool true))=>(d a).map fun y=>(y,Y,Z)
  |some (.v (.bool false))=>(d b).map fun y=>(y,Y,Z)
  |_=>none
 | .alloc t=>match qv C.P t,yC C.P t with
  |some n,some z=>if 0<n/\z.length=n then some (.ref Z 0 0,qR Y Z (some ⟨t,n,false,[z]⟩),Z+1)else none
  |_,_=>none
 | .box t x=>match qv C.P t,d x with
  |some n,some y=>if 0<n/\y.cells.length=n/\y.cells.all O.wW=true then some (.ref Z 0 0,qR Y Z (some ⟨t,n,false,[y.cells]⟩),Z+1)else none
  |_,_=>none
 | .build t e=>match vo d e.toList with
  |some s=>(qb C.P t s).map fun y=>(y,Y,Z)
  |none=>none
 | .buildSlice t len e=>match vo d e.toList with
  |some s=>zr C.P Y Z t len s
  |none=>none
 | .load t a=>match d a with
  |some p=>(xB C.P Y t p).map fun y=>(y,Y,Z)
  |none=>none
 | .store t a x=>match d a,d x with
  |some p,some y=>(Qy C.P Y t p y).map fun h=>(.wP [],h,Z)
  |_,_=>none
 | .nilCheck x=>match d x with
  |some (.ref id i j)=>some (.ref id i j,Y,Z)
  |some (.ptr cs)=>some (.ptr cs,Y,Z)
  |_=>none
 | .binOp op t x y _=>match d x,d y with
  |some p,some q=>(K6 (TC y) C.P op t p q).map fun r=>(r,Y,Z)
  |_,_=>none
 | .unOp op _ x=>match d x with
  |some p=>(Pu op p).map fun r=>(r,Y,Z)
  |none=>none
 | .convert u dst x=>match d x with
  |some p=>(XQ C.P u dst p).map fun r=>(r,Y,Z)
  |none=>none
 | .makeFunc f first g=>match yh (first.toList.map d),yh (g.toList.map d)with
  |some xs,some ys=>some (.fn f xs ys,Y,Z)
  |_,_=>none
 | .makeSlice t l c=>match d l,d c with
  |some p,some q=>Zz C.P Y Z t p q
  |_,_=>none
 | .slice t x lo hi none=>match d x with
  |some p=>(yG C.P Y t p (lo.map d) (hi.map d)).map fun r=>(r,Y,Z)
  |none=>none
 | .fieldAddr t x f=>match d x with
  |some p=>(yN C.P t f p).map fun r=>(r,Y,Z)
  |none=>none
 | .field t x f=>match d x with
  |some p=>(ZI C.P t f p).map fun r=>(r,Y,Z)
  |none=>none
 | .indexAddr t x i=>match d x,d i with
  |some p,some q=>(qH C.P Y t p q).map fun r=>(r,Y,Z)
  |_,_=>none
 | .index t x i=>match d x,d i with
  |some p,some q=>(Qz C.P t p q).map fun r=>(r,Y,Z)
  |_,_=>none
 | .extract x i=>match d x with
  |some (.wP vs)=>(vs[i]?).map fun r=>(r,Y,Z)
  |_=>none
 | .call c=>xO C d Y Z c
 | .makeMap t none=>match K7 C.P t with
  |some _=>some (.mp Z,qR Y Z (some ⟨t,0,false,[]⟩),Z+1)
  |none=>none
 | .lookup t x i w=>match d x,d i with
  |some p,some q=>(xC C.P Y t p q w).map fun r=>(r,Y,Z)
  |_,_=>none
 | .mapUpdate t m k x=>match d m,d k,d x with
  |some p,some q,some y=>(Zt C.P Y t p q y).map fun h=>(.wP [],h,Z)
  |_,_,_=>none
 | .insert t m k x=>match d m,d k,d x with
  |some p,some q,some y=>(Zt C.P Y t p q y).map fun h=>(.wP [],h,Z)
  |_,_,_=>none
 |_=>none
def put(U:Nat->O)(dst:Option Tmp)(x:O):Nat->O:=
 match dst with
 |some d=>qR U d x
 |none=>U
def QA(a:Array Oper)(U:Nat->O)(j:Nat):Option Bool:=
 match(a[j]?).bind (·.dst)with
 |some d=>match U d with
  | .v (.bool b)=>some b
  |_=>none
 |none=>none
def yD(C:Ctx)(a:Array Oper)(o:Oper)(st:St):Option St:=
 if Region.wanted o (QA a st.U)=true then
  match zU C (get st.U) st.Y st.Z o.op with
  |some (x,Y,Z)=>some ⟨put st.U o.dst x,Y,Z⟩
  |none=>none
 else some ⟨put st.U o.dst (.wP []),st.Y,st.Z⟩
def xn(C:Ctx)(a:Array Oper):List Oper->St->Option St
 |[],st=>some st
 |o::l,st=>match yD C a o st with
  |some b=>xn C a l b
  |none=>none
def iter(f:St->Option (Exit×St)):Nat->St->Option (Exit×St)
 | 0,_=>none
 |n+1,st=>match f st with
  |some (.normal,a)=>iter f n a
  |r=>r
open Classical in
noncomputable def XR (f:St->Option (Exit×St)) (st:St):Option (Exit×St):=
 if h:∃n,(iter f n st).isSome=true then iter f (Classical.choose h) st else none
def tQ:List Tmp->St->Option St
 |[],st=>some st
 |t::l,st=>match qD st.Y (st.U t)with
  |some (y,Y1)=>tQ l ⟨qR st.U t y,Y1,st.Z⟩
  |none=>none
def JU(b c:St->Option (Exit×St))(U:Nat->O)(p:Tmp):zb->Hp->Nat->Option (Exit×Hp×Nat)
 |[],Y,Z=>some (.normal,Y,Z)
 |x::xs,Y,Z=>match b ⟨qR U p x,Y,Z⟩with
  |some (.normal,d)=>match c d with
   |some (.normal,a)=>JU b c U p xs a.Y a.Z
   |some (.ret,a)=>some (.ret,a.Y,a.Z)
   |some (.exit i,a)=>some (.exit i,a.Y,a.Z)
   |_=>none
  |_=>none
open Classical in
noncomputable def qV (C:Ctx):Code->St->Option (Exit×St)
 | .skip,st=>some (.normal,st)
 | .region id j _,k=>match tQ (C.fz id) k with
  |some st=>if Ws (C.dyn id) st/\Q6 (C.Lr id) st then match xn C j j.toList st with
   |some d=>some (.normal,d)
   |none=>none
   else none
  |none=>none
 | .seq a b,st=>match qV C a st with
  |some (.normal,d)=>qV C b d
  |r=>r
 | .cond c x y,st=>match get st.U c with
  |some (.v (.bool true))=>qV C x st
  |some (.v (.bool false))=>qV C y st
  |_=>none
 | .block id h,st=>match qV C h st with
  |some (.exit i,d)=>if i=id then some (.normal,d)else some (.exit i,d)
  |r=>r
 | .loop h,st=>XR (qV C h) st
 | .exit id,st=>some (.exit id,st)
 | .ret,st=>some (.ret,st)
 | .label _,st=>some (.normal,st)
 | .rangeFunc f m a b,st=>match m.toList,get st.U f with
  |[p],some (.fn (.func g) [] cap)=>match C.it g with
   |some it=>match it cap st.Y with
    |some (xs,Y1)=>match JU (qV C a) (qV C b) st.U p xs Y1 st.Z with
     |some (e,Y2,l)=>some (e,⟨st.U,Y2,l⟩)
     |none=>none
    |none=>none
   |none=>none
  |_,_=>none
 |_,_=>none
def WJ(P:Program)(st:St):ResultVar->Option O
 | .tmp t=>some (st.U t)
 | .cell a t=>xB P st.Y t (st.U a)
def xP(P:Program)(fn:Func)(st:St):Option O:=
 match yh (fn.results.toList.map (WJ P st))with
 |some [x]=>some x
 |some xs=>some (.wP xs)
 |none=>none
def kE(args:zb):Nat->O:=fun t=>(args[t]?).getD (.wP [])
noncomputable def jJ (C:Ctx) (fn:Func) (args:zb) (Y:Hp) (Z:Nat):Option (O×Hp×Nat):=
 match fn.body with
 |some code=>match qV C code ⟨kE args,Y,Z⟩with
  |some (.normal,st)=>(xP C.P fn st).map fun x=>(x,st.Y,st.Z)
  |some (.ret,st)=>(xP C.P fn st).map fun x=>(x,st.Y,st.Z)
  |_=>none
 |none=>none
noncomputable def zo (C:Ctx) (fn:Func) (args:zb):Option O:=
 match jJ C fn args (fun _=>none) 0 with
 |some (x,Y,_)=>(freeze Y x).map (·.1)
 |none=>none
theorem nX(f:St->Option (Exit×St)):∀(n k:Nat) (st:St) (r:Exit×St),iter f n st=some r->iter f (n+k) st=some r:=by
 intro n
 induction n with
 |zero=>intro k st r h;simp[iter]at h
 |succ n b=>
  intro k st r h;rw[show n+1+k=(n+k)+1 from by omega];simp only[iter]at h⊢;split at h
  ·rename_i a c;simp only[b k a r h]
  ·simpa using h
theorem YU{f:St->Option (Exit×St)}{n:Nat}{st:St}{r:Exit×St}(h:iter f n st=some r):XR f st=some r:=by have c:∃n,(iter f n st).isSome=true:=⟨n,by simp[h]⟩;unfold XR;rw[Te c];have e:=jo c;obtain⟨g,d⟩:=Option.isSome_iff_exists.1 e;rw[d];have a:=nX f _ (Classical.choose c) st r h;have b:=nX f _ n st g d;rw[cW]at b;rw[a]at b;exact b.symm
theorem QR{f:St->Option (Exit×St)}{st:St}{r:Exit×St}(h:XR f st=some r):∃n,iter f n st=some r:=by
 unfold XR at h;split at h
 ·exact⟨_,h⟩
 ·cases h
theorem pW(f:St->Option (Exit×St))(st:St):XR f st=match f st with
  |some (.normal,a)=>XR f a
  |r=>r:=by
 cases d:f st with
 |none=>
  simp only[];cases c:XR f st with
  |none=>rfl
  |some r=>
   obtain⟨n,b⟩:=QR c;cases n with
   |zero=>simp[iter]at b
   |succ n=>simp[iter,d]at b
 |some p=>
  obtain⟨e,a⟩:=p;by_cases h:e=.normal
  ·subst h;simp only[];cases c:XR f a with
   |some r=>obtain⟨n,b⟩:=QR c;exact YU (n:=n+1) (by simp[iter,d,b])
   |none=>
    cases g:XR f st with
    |none=>rfl
    |some r=>
     obtain⟨n,b⟩:=QR g;cases n with
     |zero=>simp[iter]at b
     |succ n=>simp only[iter,d]at b;rw[YU b]at c;cases c
  ·have i:iter f 1 st=some (e,a):=by simp only[iter,d];cases e<;>simp_all
   rw[YU i];cases e<;>simp_all
variable{dr:Prop}
def kF(Y:Hp)(G:Nat->GI)(b:Nat):Prop:=∃id blk,Y id=some blk/\(G id).g=b
structure kO (dr:Prop) (P:Program) (Y:Hp) (Z:Nat) (S:Nat->Prop) (G:Nat->GI) (w:World) (Y':Hp) (Z':Nat) (S':Nat->Prop) (G':Nat->GI) (w':World):Prop where
 inv:Inv P w' S' G' Y' Z'
 up:Z<=Z'
 loc:∀id,id<Z->G' id=G id
 keep:∀b,S b->S' b
 from_:∀b,S' b->S b\/kF Y G b\/w.heap.size<=b
 own:∀id blk,Y' id=some blk->kF Y G (G' id).g\/w.heap.size<=(G' id).g
 fr:Fr dr w (kF Y G) w'
theorem kO.same{P:Program}{Y d:Hp}{Z f:Nat}{S c:Nat->Prop}{G g:Nat->GI}{w w':World}(h:kO dr P Y Z S G w d f c g w')(hi:Inv P w S G Y Z) :
  ∀b,S b->c b/\w'.heap[b]?=w.heap[b]?:=fun b a=>
 ⟨h.keep b a,h.fr.block b (hi.st b a) fun⟨id,blk,hid,e⟩=>hi.apart id blk hid (e ▸ a)⟩
theorem kO.refl{P:Program}{Y:Hp}{Z:Nat}{S:Nat->Prop}{G:Nat->GI}{w:World}(h:Inv P w S G Y Z):kO dr P Y Z S G w Y Z S G w:=
 ⟨h,zk _,fun _ _=>rfl,fun _ h=>h,fun _ h=>.inl h,fun id blk a=>.inl ⟨id,blk,a,rfl⟩,Fr.refl _ _⟩
theorem kO.trans{P:Program}{Y j a:Hp}{Z n c:Nat}{S o f:Nat->Prop}{G l g:Nat->GI}{w w' i:World}
  (h:kO dr P Y Z S G w j n o l w') (k:kO dr P j n o l w' a c f g i):kO dr P Y Z S G w a c f g i:=by
 have m:∀b,kF j l b->kF Y G b\/w.heap.size<=b:=by rintro b ⟨id,blk,h1,rfl⟩;exact h.own id blk h1
 refine⟨k.inv,zG h.up k.up,fun id hid=>(k.loc id (yZ hid h.up)).trans (h.loc id hid),fun b d=>k.keep b (h.keep b d),fun b d=>?_,fun id blk d=>?_,?_⟩
 ·rcases k.from_ b d with h1|h1|h1
  ·exact h.from_ b h1
  ·rcases m b h1 with e|e
   ·exact .inr (.inl e)
   ·exact .inr (.inr e)
  ·exact .inr (.inr (zG h.fr.size h1))
 ·rcases k.own id blk d with h1|h1
  ·exact m _ h1
  ·exact .inr (zG h.fr.size h1)
 ·refine h.fr.trans k.fr fun b d h1=>?_
  rcases m b h1 with e|e
  ·exact e
  ·omega
theorem Inv.same{P:Program}{w w':World}{S:Nat->Prop}{G:Nat->GI}{Y:Hp}{Z:Nat}(h:Inv P w S G Y Z)(c:w'.heap=w.heap):Inv P w' S G Y Z:=by
 have d:∀b,S b->S b/\w'.heap[b]?=w.heap[b]?:=fun b a=>⟨a,by rw[c]⟩
 exact⟨fun b a=>by rw[c];exact h.st b a,h.top,fun id b a=>(h.live id b a).mono d (zk _) (fun _ _=>rfl) (by rw[c]),h.apart,h.inj,h.gT.mono d⟩
theorem kO.drew{P:Program}{Y:Hp}{Z:Nat}{S:Nat->Prop}{G:Nat->GI}{w:World}(h:Inv P w S G Y Z):kO dr P Y Z S G w Y Z S G w.drew:=
 ⟨h.same rfl,zk _,fun _ _=>rfl,fun _ h=>h,fun _ h=>.inl h,fun id blk a=>.inl ⟨id,blk,a,rfl⟩,Fr.drew _ _⟩
theorem kO.alloc{P:Program}{Y:Hp}{Z:Nat}{S:Nat->Prop}{G:Nat->GI}{w:World}(h:Inv P w S G Y Z)(d:Array Value)(e:TypeId)(q:Bool)(es:List zb)(s:Nat)(B:0<s)
  (C:(P.info? e).map (·.size)=some s) (v:∀c∈es,c.length=s) (x:es.length*s<=d.size)
  (y:∀(i j:Nat) (c:zb) (z:O),es[i]?=some c->c[j]?=some z->∃u,d[i*s+j]?=some u/\jg w S G Z q z u) :
  kO dr P Y Z S G w (qR Y Z (some ⟨e,s,q,es⟩)) (Z+1) S (qR G Z ⟨w.heap.size,d.size,s⟩) (w.alloc (.cells d e)):=by
 have m:∀b,b<w.heap.size->(w.alloc (.cells d e)).heap[b]?=w.heap[b]?:=fun b a=>Below.heap_alloc w _ b a
 have D:∀b,S b->S b/\(w.alloc (.cells d e)).heap[b]?=w.heap[b]?:=fun b a=>⟨a,m b (h.st b a)⟩
 have p:∀id,id<Z->qR G Z ⟨w.heap.size,d.size,s⟩ id=G id:=fun id hid=>wi _ _ _ _ (by omega)
 have f:∀id,id≠Z->qR Y Z (some ⟨e,s,q,es⟩) id=Y id:=fun id hid=>wi _ _ _ _ hid
 have n:(w.alloc (.cells d e)).heap.size=w.heap.size+1:=by show(w.heap.push _).size=_;simp
 have r:∀id b,Y id=some b->(G id).g<w.heap.size:=fun id b a=>(h.live id b a).lt
 refine⟨⟨fun b a=>by rw[n];have:=h.st b a;omega,fun id b a=>?_,fun id b a=>?_,fun id b a=>?_,fun id id' b A a l t=>?_,h.gT.mono D⟩,by omega,p,fun _ a=>a,fun _ a=>.inl a,fun id b a=>?_,⟨rfl,rfl,rfl,by rw[n];omega,fun _=>zk _,fun k E _=>m k E⟩⟩
 ·by_cases hid:id=Z
  ·omega
  ·rw[f id hid]at a;have:=h.top id b a;omega
 ·by_cases hid:id=Z
  ·subst hid;simp only[wL]at a⊢;injection a with a
   subst a;refine .vG B rfl ⟨C,v,x,d,heap_alloc_new w _,rfl,fun i j c z hi F=>?_⟩;obtain⟨u,H,I⟩:=y i j c z hi F;exact⟨u,H,I.mono D (by omega) p⟩
  ·rw[f id hid]at a;have J:=h.top id b a;rw[p id J];exact(h.live id b a).mono D (by omega) p (m _ (r id b a))
 ·by_cases hid:id=Z
  ·subst hid;simp only[wL];intro hs;have:=h.st _ hs;omega
  ·rw[f id hid]at a;rw[p id (h.top id b a)];exact h.apart id b a
 ·by_cases hid:id=Z<;>by_cases o:id'=Z
  ·omega
  ·subst hid;rw[f id' o]at l;rw[p id' (h.top id' A l)]at t;have:=r id' A l;simp at t;omega
  ·subst o;rw[f id hid]at a;rw[p id (h.top id b a)]at t;have:=r id b a;simp at t;omega
  ·rw[f id hid]at a;rw[f id' o]at l;rw[p id (h.top id b a),p id' (h.top id' A l)]at t;exact h.inj id id' b A a l t
 ·by_cases hid:id=Z
  ·subst hid;simp
  ·rw[f id hid]at a;rw[p id (h.top id b a)];exact .inl ⟨id,b,a,rfl⟩
theorem kO.set{P:Program}{Y:Hp}{Z:Nat}{S:Nat->Prop}{G:Nat->GI}{w:World}(h:Inv P w S G Y Z){id:Nat}{b:kN}(hid:Y id=some b)(n:0<(G id).s)(f:Array Value)(es:List zb)
  (H:f.size=(G id).z) (o:∀c∈es,c.length=(G id).s) (p:es.length*(G id).s<=(G id).z)
  (q:∀(i j:Nat) (c:zb) (t:O),es[i]?=some c->c[j]?=some t->∃u,f[i*(G id).s+j]?=some u/\jg w S G Z b.arr t u) :
  kO dr P Y Z S G w (qR Y id (some ⟨b.e,b.s,b.arr,es⟩)) Z S G (w.setRow (G id).g f):=by
 have l:∀k,k≠(G id).g->(w.setRow (G id).g f).heap[k]?=w.heap[k]?:=fun k d=>setRow_other w _ k _ d
 have v:∀b,S b->S b/\(w.setRow (G id).g f).heap[b]?=w.heap[b]?:=fun k d=>⟨d,l k fun e=>h.apart id b hid (e ▸ d)⟩
 have m:∀k,k≠id->qR Y id (some ⟨b.e,b.s,b.arr,es⟩) k=Y k:=fun k d=>wi _ _ _ _ d
 obtain⟨x,r,I,_⟩:=(h.live id b hid).row n;refine⟨⟨fun k d=>by rw[setRow_size];exact h.st k d,fun k c d=>?_,fun k c d=>?_,fun k c d=>?_,fun k E c y d A J=>?_,h.gT.mono v⟩,zk _,fun _ _=>rfl,fun _ B=>B,fun _ B=>.inl B,fun k c d=>?_,⟨rfl,rfl,rfl,by simp,fun _=>zk _,fun k _ K=>l k fun e=>K ⟨id,b,hid,e.symm⟩⟩⟩
 ·by_cases a:k=id
  ·subst a;exact h.top _ b hid
  ·rw[m k a]at d;exact h.top k c d
 ·by_cases a:k=id
  ·subst a;simp only[wL]at d;injection d with d
   subst d;refine .vG n (h.live _ b hid).bs ⟨(h.live _ b hid).size n,o,p,f,setRow_heap w _ x _ _ _ r,H,fun i j c t hi L=>?_⟩;obtain⟨u,C,D⟩:=q i j c t hi L;exact⟨u,C,D.mono v (zk _) (fun _ _=>rfl)⟩
  ·rw[m k a]at d;exact(h.live k c d).mono v (zk _) (fun _ _=>rfl) (l _ fun e=>a (h.inj k id c b d hid e))
 ·by_cases a:k=id
  ·subst a;exact h.apart _ b hid
  ·rw[m k a]at d;exact h.apart k c d
 ·have F:∀k c,qR Y id (some ⟨b.e,b.s,b.arr,es⟩) k=some c->∃y,Y k=some y:=by
   intro k c d;by_cases a:k=id
   ·subst a;exact⟨b,hid⟩
   ·rw[m k a]at d;exact⟨c,d⟩
  obtain⟨M,C⟩:=F k c d;obtain⟨N,D⟩:=F E y A;exact h.inj k E M N C D J
 ·by_cases a:k=id
  ·subst a;exact .inl ⟨_,b,hid,rfl⟩
  ·rw[m k a]at d;exact .inl ⟨k,c,d,rfl⟩
theorem kO.kill{P:Program}{Y:Hp}{Z:Nat}{S:Nat->Prop}{G:Nat->GI}{w:World}(h:Inv P w S G Y Z){id:Nat}{b:kN}(hid:Y id=some b) :
  kO dr P Y Z S G w (qR Y id none) Z (fun k=>S k\/k=(G id).g) G w:=by
 have i:∀k,S k->(S k\/k=(G id).g)/\w.heap[k]?=w.heap[k]?:=fun k a=>⟨.inl a,rfl⟩
 have d:∀k c,qR Y id none k=some c->k≠id/\Y k=some c:=by
  intro k c a;by_cases e:k=id
  ·subst e;simp at a
  ·rw[wi _ _ _ _ e]at a;exact⟨e,a⟩
 refine⟨⟨fun k a=>?_,fun k c a=>h.top k c (d k c a).2,fun k c a=>(h.live k c (d k c a).2).mono i (zk _) (fun _ _=>rfl) rfl,fun k c a=>?_,fun k j c l a f he=>h.inj k j c l (d k c a).2 (d j l f).2 he,h.gT.mono i⟩,
  zk _,fun _ _=>rfl,fun _ m=>.inl m,fun k a=>?_,fun k c a=>.inl ⟨k,c,(d k c a).2,rfl⟩,Fr.refl _ _⟩
 ·rcases a with a|rfl
  ·exact h.st k a
  ·exact(h.live id b hid).lt
 ·rintro (hs|he)
  ·exact h.apart k c (d k c a).2 hs
  ·exact(d k c a).1 (h.inj k id c b (d k c a).2 hid he)
 ·rcases a with a|rfl
  ·exact .inl a
  ·exact .inr (.inl ⟨id,b,hid,rfl⟩)
theorem CL{P:Program}{Y:Hp}{Z:Nat}{S:Nat->Prop}{G:Nat->GI}{w:World}(h:Inv P w S G Y Z){id off n cap:Nat}{b:kN}(hid:Y id=some b)(m:0<(G id).s)(o:b.arr=true)(N:off+n<=b.es.length)
  (E:n<=cap) (p:cap<=maxLen) (x:Nat->Prop) (F:∀k,S k->x k) (H:x (G id).g) :
  wH w x (.sl b.s ((b.es.drop off).take n)) (.slice (some ⟨(G id).g,off*(G id).s,none⟩) n cap):=by
 have A:=h.live id b hid;obtain⟨q,I,Q,J⟩:=A.row m;have K:((b.es.drop off).take n).length=n:=by simp;omega
 have r:∀(i:Nat) (c:zb),((b.es.drop off).take n)[i]?=some c->b.es[off+i]?=some c:=by
  intro i c hi;rw[qt]at hi;split at hi
  ·rwa [qK]at hi
  ·cases hi
 have l:∀(i j:Nat),∃u,∀(c:zb) (a:O),((b.es.drop off).take n)[i]?=some c->c[j]?=some a->q[(off+i)*(G id).s+j]?=some u/\jg w S G Z b.arr a u:=by
  intro i j;by_cases y:∃c a,((b.es.drop off).take n)[i]?=some c/\c[j]?=some a
  ·obtain⟨c,a,hi,f⟩:=y;obtain⟨u,z,t⟩:=J (off+i) j c a (r i c hi) f;refine⟨u,fun R L d e=>?_⟩;rw[hi]at d;injection d with d;subst d;rw[f]at e;injection e with e;subst e;exact⟨z,t⟩
  ·exact⟨undef,fun c a hi f=>(y ⟨c,a,hi,f⟩).elim⟩
 rw[A.bs];have B:wH w x (.sl (G id).s ((b.es.drop off).take n)) (.slice (some ⟨(G id).g,off*(G id).s,none⟩) ((b.es.drop off).take n).length cap):=by
  refine .sl (s:=(G id).s) (fun i j=>Classical.choose (l i j)) (by simp) (by omega) p (fun c y=>A.len m c (Wm _ _ (KG _ _ y))) (fun i j c a hi f=>?_) (fun i j c a hi f=>?_)
  ·obtain⟨z,t⟩:=jo (l i j) c a hi f;refine⟨_,rfl,H,?_,t.2.2⟩;have v:(⟨(G id).g,off*(G id).s,none⟩:Addr).add (i*(G id).s+j)=⟨(G id).g,(off+i)*(G id).s+j,none⟩:=by
    unfold Addr.add;split
    ·rename_i T;have C:i*(G id).s=0:=by omega
     have D:j=0:=by omega
     simp[qQ,C,D]
    ·simp[qQ];omega
   rw[v,UA w _ _ q _ _ I];exact z
  ·obtain⟨z,t⟩:=jo (l i j) c a hi f;exact(t.1 o).mono fun k M=>⟨F k M,rfl⟩
 rwa [K]at B
theorem Marks.step{P:Program}{i:Nat}{Y j:Hp}{Z o:Nat}{S l:Nat->Prop}{G m:Nat->GI}{w w':World}{ds:List Deferred}(h:Marks i w S Y G ds)(k:kO dr P Y Z S G w j o l m w'):Marks i w' l j m ds:=by
 obtain⟨d,p,e,q,r⟩:=h;refine⟨zG d k.fr.size,p,e,q,fun D hd=>?_⟩;obtain⟨s,n,c,f⟩:=r D hd;have g:D<w.heap.size:=(qh.1 n).1;refine⟨s,(k.fr.block D g fun⟨id,b,a,e⟩=>f id b a e).trans n,fun hs=>?_,fun id b a e=>?_⟩
 ·rcases k.from_ D hs with h|⟨id,b,a,e⟩|h
  ·exact c h
  ·exact f id b a e
  ·omega
 rcases k.own id b a with⟨id',t,c,u⟩|c
 ·exact f id' t c (u.trans e)
 ·omega
theorem Qm.step{P:Program}{l:World}{n L:Nat->Prop}{N Z0:Nat}{o:Nat->GI}{p:Nat}{st:St}{S g:Nat->Prop}{G i:Nat->GI}{a:Act}{w w':World}{q:Hp}{j:Nat}{x:O}{u:Value}{dst:Option Tmp}
  (h:Qm dr P l n L N Z0 o p st S G a w) (k:kO dr P st.Y st.Z S G w q j g i w') (r:qe w' g i j x u) (hd:∀d,dst=some d->d<N) :
  Qm dr P l n L N Z0 o p ⟨put st.U dst x,q,j⟩ g i (a.put dst u) w':=by
 have s:=k.same h.inv;have m:∀b,kF st.Y G b->L b\/l.heap.size<=b:=by rintro b ⟨id,blk,h1,rfl⟩;exact h.own id blk h1
 refine⟨k.inv,fun t=>?_,?_,?_,fun b f=>k.keep b (h.s0 b f),fun b f=>?_,fun id blk f=>?_,?_,zG h.up k.up,fun id hid=>(k.loc id (yZ hid h.up)).trans (h.loc id hid)⟩
 ·have c:qe w' g i j (st.U t) (a.tmps.getD t undef):=(h.xc t).mono s k.up k.loc;cases dst with
  |none=>exact c
  |some d=>
   show qe w' g i j (qR st.U d x t) ((a.tmps.setIfInBounds d u).getD t undef);by_cases e:t=d
   ·subst e;have:t<a.tmps.size:=by rw[h.size];exact hd t rfl
    simpa[qR,this]using r
   ·have v:¬d=t:=fun h=>e h.symm
    simp only[qR,e,qn];have:(a.tmps.setIfInBounds d u).getD t undef=a.tmps.getD t undef:=by simp[eH v]
    rw[this];exact c
 ·cases dst with
  |none=>exact h.size
  |some d=>show(a.tmps.setIfInBounds d u).size=N;simp[h.size]
 ·cases dst<;>exact h.defers.step k
 ·rcases k.from_ b f with h1|h1|h1
  ·exact h.s1 b h1
  ·rcases m b h1 with h2|h2
   ·exact .inr (.inl h2)
   ·exact .inr (.inr h2)
  ·exact .inr (.inr (zG h.fr.size h1))
 ·rcases k.own id blk f with h1|h1
  ·exact m _ h1
  ·exact .inr (zG h.fr.size h1)
 ·refine h.fr.trans k.fr fun b f h1=>?_
  rcases m b h1 with h2|h2
  ·exact h2
  ·omega
variable{dr:Prop}
section
variable{P:Program}{w:World}{S:Nat->Prop}{G:Nat->GI}{Y:Hp}{Z:Nat}
theorem wH.wX{x u:Value}(h:wH w S (.v x) u):u=x/\lit x=true:=by cases h;exact⟨rfl,‹_›⟩
theorem qe.wX{x u:Value}(h:qe w S G Z (.v x) u):u=x/\lit x=true:=by
 cases h with
 |c h=>exact h.wX
theorem qe.Zd{u:Value}(h:qe w S G Z .nil u):u=.slice none 0 0:=by
 cases h with
 |c h=>cases h;rfl
theorem qe.mL{u:Value}(h:qe w S G Z .em u):∃ad cap,u=.slice (some ad) 0 cap/\cap<=maxLen:=by
 cases h with
 |c h=>cases h;exact⟨_,_,rfl,‹_›⟩
theorem qe.bg{s:Nat}{es:List zb}{u:Value}(h:qe w S G Z (.sl s es) u):wH w S (.sl s es) u:=by
 cases h with
 |c h=>exact h
theorem qe.KK{cs:zb}{u:Value}(h:qe w S G Z (.ptr cs) u):wH w S (.ptr cs) u:=by
 cases h with
 |c h=>exact h
theorem qe.vH{id off n:Nat}{u:Value}(h:qe w S G Z (.own id off n) u):∃cap,id<Z/\n<=cap/\cap<=maxLen/\(off+cap)*(G id).s=(G id).z/\u=.slice (some ⟨(G id).g,off*(G id).s,none⟩) n cap:=by
 cases h with
 |c h=>cases h
 |own a b d e _=>exact⟨_,a,b,d,e,rfl⟩
theorem qe.xk{id off n:Nat}{u:Value}(h:qe w S G Z (.own id off n) u):0<(G id).s:=by
 cases h with
 |c h=>cases h
 |own _ _ _ _ a=>exact a
theorem qe.WV{id i j:Nat}{u:Value}(h:qe w S G Z (.ref id i j) u):id<Z/\u=.pointer (some ⟨(G id).g,i*(G id).s+j,none⟩):=by
 cases h with
 |c h=>cases h
 |ref a _=>exact⟨a,rfl⟩
theorem qe.c7{id i j:Nat}{u:Value}(h:qe w S G Z (.ref id i j) u):0<(G id).s:=by
 cases h with
 |c h=>cases h
 |ref _ a=>exact a
theorem qe.O5{id:Nat}{u:Value}(h:qe w S G Z (.mp id) u):id<Z/\(G id).s=0/\u=.map (some (G id).g):=by
 cases h with
 |c h=>cases h
 |mp a b=>exact⟨a,b,rfl⟩
theorem qe.Q5{cs:zb}{u:Value}(h:qe w S G Z (.agg cs) u):∃us:Array Value,u=.agg us/\cs.length=us.size/\∀(j:Nat) (d:O) (x:Value),cs[j]?=some d->us[j]?=some x->qe w S G Z d x:=by
 cases h with
 |c h=>cases h with
  |agg e f=>exact⟨_,rfl,e,fun j d x a b=>.c (f j d x a b)⟩
 |agg e f=>exact⟨_,rfl,e,f⟩
theorem qe.Gm{cs:zb}{u:Value}(h:qe w S G Z (.wP cs) u):∃us:Array Value,u=.tuple us/\cs.length=us.size/\∀(j:Nat) (d:O) (x:Value),cs[j]?=some d->us[j]?=some x->qe w S G Z d x:=by
 cases h with
 |c h=>cases h with
  |wP e f=>exact⟨_,rfl,e,fun j d x a b=>.c (f j d x a b)⟩
 |wP e f=>exact⟨_,rfl,e,f⟩
theorem qe.tR{f:Fn}{xs ys:zb}{u:Value}(h:qe w S G Z (.fn f xs ys) u):∃us ts:Array Value,u=.func f us ts/\xs.length=us.size/\ys.length=ts.size /\
  (∀(j:Nat) (d:O) (x:Value),xs[j]?=some d->us[j]?=some x->qe w S G Z d x)/\∀(j:Nat) (d:O) (x:Value),ys[j]?=some d->ts[j]?=some x->qe w S G Z d x:=by
 cases h with
 |c h=>cases h with
  |fn e g i k=>exact⟨_,_,rfl,e,g,fun j d x a b=>.c (i j d x a b),fun j d x a b=>.c (k j d x a b)⟩
 |fn e g i k=>exact⟨_,_,rfl,e,g,i,k⟩
theorem jM:qe w S G Z (.wP []) undef:=.c (.wP rfl (by simp))
theorem gY{x:Value}{a:O}(h:da x=some a):wH w S a x/\x.oneCell'=true/\a.wW=true:=by
 unfold da at h;split at h<;>first
  |(injection h with h;subst h;exact⟨.nil,rfl,rfl⟩)
  |(injection h with h;subst h;exact⟨.v rfl,rfl,rfl⟩)
  |cases h
theorem jc:∀{l:List Value} {r:zb},vG l=some r->r.length=l.length/\(∀(j:Nat) (a:O) (u:Value),r[j]?=some a->l[j]?=some u->wH w S a u/\u.oneCell'=true/\a.wW=true)
 |[],r,h=>by simp[vG]at h;subst h;simp
 |x::l,r,h=>by
  simp only[vG]at h;split at h
  ·rename_i p q Y d;injection h with h
   subst h;obtain⟨e,f⟩:=jc d;refine⟨by simp[e],fun j a u b c=>?_⟩;cases j with
   |zero=>simp at b c;subst b;subst c;exact gY Y
   |succ j=>exact f j a u (by simpa using b) (by simpa using c)
  ·cases h
theorem eJ{x:Value}{a:O}(h:gB x=some a):wH w S a x:=by
 unfold gB at h;split at h
 ·rename_i cs;cases b:vG cs.toList with
  |none=>simp[b]at h
  |some r=>simp[b]at h;subst h;obtain⟨c,d⟩:=jc (w:=w) (S:=S) b;exact .agg (by simpa using c) (fun j a u e f=>(d j a u e (by simpa using f)).1)
 ·exact(gY h).1
theorem ZX{U:Nat->O}{a:Act}(hs:∀t,qe w S G Z (U t) (a.tmps.getD t undef)){y:Operand}{b:O}(h:get U y=some b):qe w S G Z b (a.eval y):=by
 cases y with
 |tmp t=>simp[get]at h;subst h;exact hs t
 |const x=>exact .c (eJ h)
 |global g=>simp[get]at h
 |func f=>simp[get]at h;subst h;exact .c (.fn rfl rfl (by simp) (by simp))
theorem dd{y:O}{u:Value}(h:qe w S G Z y u)(a:y.cells.all O.wW=true):y.cells.length=u.cells.size/\∀(j:Nat) (d:O) (c:Value),y.cells[j]?=some d->u.cells[j]?=some c->qe w S G Z d c/\c.oneCell'=true:=by
 by_cases e:∃cs,y=.agg cs
 ·obtain⟨cs,rfl⟩:=e;obtain⟨us,rfl,k,l⟩:=h.Q5;refine⟨k,fun j d c b f=>?_⟩;have g:=l j d c b f;refine⟨g,g.KJ ?_⟩;simp only[O.cells]at a b;exact zY.1 a d (zL b)
 ·have m:y.cells=[y]:=by cases y<;>first|rfl|exact(e ⟨_,rfl⟩).elim
  rw[m]at a⊢;have hi:y.wW=true:=by simpa using a
  have i:=h.KJ hi;have f:u.cells=#[u]:=by cases u<;>first|rfl|simp[Value.oneCell']at i
  rw[f];refine⟨rfl,fun j d c b a=>?_⟩;cases j with
  |zero=>simp at b a;subst b;subst a;exact⟨h,i⟩
  |succ j=>simp at b
def Qn(dr:Prop)(P:Program)(w:World)(Y:Hp)(Z:Nat)(S:Nat->Prop)(G:Nat->GI)(x:O)(d:Hp)(a:Nat)(r:Result Value):Prop:=
 ∃v w' b c,r=.ok v w'/\kO dr P Y Z S G w d a b c w'/\qe w' b c a x v
theorem qp(hi:Inv P w S G Y Z){x:O}{v:Value}{r:Result Value}(a:r=.ok v w)(b:qe w S G Z x v):Qn dr P w Y Z S G x Y Z r:=⟨v,w,S,G,a,.refl hi,b⟩
theorem WK{t:TypeId}{n:Nat}(h:qv P t=some n):∃i,P.info? t=some i/\i.size=n:=by
 unfold qv at h;cases hi:P.info? t with
 |none=>simp[hi]at h
 |some i=>exact⟨i,rfl,by simpa[hi]using h⟩
theorem ya{t:TypeId}{n:Nat}(h:qv P t=some n)(w:World):(sizeOf t).run P w=.ok n w:=by obtain⟨i,hi,rfl⟩:=WK h;simp[sizeOf,typeInfo,hi]
theorem xu{t:TypeId}{b:Bool}(h:wQ P t=some b)(w:World):(isAgg t).run P w=.ok b w:=by
 unfold wQ at h;cases a:P.underlying t with
 |none=>simp[a]at h
 |some d=>simp[a]at h;subst h;unfold isAgg;rw[vS,zz a w];cases d<;>rfl
theorem ZY{t:TypeId}{z:zb}(h:yC P t=some z):∃i v,P.info? t=some i/\i.zero=some v/\vG v.cells.toList=some z:=by
 unfold yC at h;cases hi:P.info? t with
 |none=>simp[hi]at h
 |some i=>
  cases a:i.zero with
  |none=>simp[hi,a]at h
  |some v=>exact⟨i,v,rfl,a,by simpa[hi,a]using h⟩
theorem QS{t:TypeId}{i:TypeInfo}{v:Value}(hi:P.info? t=some i)(a:i.zero=some v)(w:World):(zeroValue t).run P w=.ok v w:=by simp[zeroValue,typeInfo,hi,a]
theorem CM(hi:Inv P w S G Y Z){t:TypeId}{n:Nat}{z:zb}(hs:qv P t=some n)(m:yC P t=some z)(f:0<n)(d:z.length=n) :
  Qn dr P w Y Z S G (.ref Z 0 0) (qR Y Z (some ⟨t,n,false,[z]⟩)) (Z+1) ((Instr.alloc t true (.tuple #[])).run P w):=by
 obtain⟨i,v,o,p,q⟩:=ZY m;obtain⟨r,s⟩:=jc (w:=w) (S:=S) q;have e:(P.info? t).map (·.size)=some n:=hs;have a:v.cells.size=n:=by rw[<-d,r];simp
 have k:=kO.alloc (dr:=dr) hi v.cells t false [z] n f e (by simp[d]) (by simp[a]) (fun i j c u hi g=>by
  cases i with
  |succ i=>simp at hi
  |zero=>
   simp at hi;subst hi;have b:j<v.cells.size:=by rw[a,<-d];exact(zi.1 g).1
   refine⟨v.cells[j],by simp[b],?_⟩;have l:=s j u v.cells[j] g (by simp[b]);exact⟨fun h=>(by cases h),.c l.1,l.2.1⟩)
 refine⟨.pointer (some ⟨w.heap.size,0,none⟩),_,_,_,?_,k,?_⟩
 ·simp[Instr.alloc,QS o p,newVar,newRow]
 ·have:=qe.ref (w:=w.alloc (.cells v.cells t)) (S:=S) (G:=qR G Z ⟨w.heap.size,v.cells.size,n⟩) (Z:=Z+1) (id:=Z) (i:=0) (j:=0) (by omega) (by simpa using f);simpa using this
theorem LA(hi:Inv P w S G Y Z){t:TypeId}{n:Nat}{y:O}{u:Value}(hs:qv P t=some n)(m:qe w S G Z y u)(d:0<n)(e:y.cells.length=n)(o:y.cells.all O.wW=true) :
  Qn dr P w Y Z S G (.ref Z 0 0) (qR Y Z (some ⟨t,n,false,[y.cells]⟩)) (Z+1) ((Instr.box t u).run P w):=by
 obtain⟨f,p⟩:=dd m o;have b:u.cells.size=n:=by rw[<-f,e]
 have k:=kO.alloc (dr:=dr) hi u.cells t false [y.cells] n d hs (by simp[e]) (by simp[b]) (fun i j c q hi g=>by
  cases i with
  |succ i=>simp at hi
  |zero=>
   simp at hi;subst hi;have a:j<u.cells.size:=by rw[<-f];exact(zi.1 g).1
   refine⟨u.cells[j],by simp[a],?_⟩;have l:=p j q u.cells[j] g (by simp[a]);exact⟨fun h=>(by cases h),l.1,l.2⟩)
 refine⟨.pointer (some ⟨w.heap.size,0,none⟩),_,_,_,?_,k,?_⟩
 ·simp[Instr.box,newVar,newRow]
 ·have:=qe.ref (w:=w.alloc (.cells u.cells t)) (S:=S) (G:=qR G Z ⟨w.heap.size,u.cells.size,n⟩) (Z:=Z+1) (id:=Z) (i:=0) (j:=0) (by omega) (by simpa using d);simpa using this
theorem V6{t:TypeId}{cs:zb}{x:O}(h:qC P t cs=some x)(ad:Addr)(us:Nat->Value)(d:∀(j:Nat) (c:O),cs[j]?=some c->w.cell? (ad.add j)=some (us j)/\qe w S G Z c (us j)) :
  ∃v,(loadVar t ad).run P w=.ok v w/\qe w S G Z x v:=by
 unfold qC at h;split at h
 ·rename_i n e hs;split at h
  ·rename_i g;injection h with h
   subst h;have i:(loadCells ad n).run P w=.ok ((List.range n).map us).toArray w:=by
    have:=run_loadCells_list (P:=P) w ad ((List.range n).map us) (fun j v a=>by
     have b:j<n:=by simpa using(zi.1 a).1
     have Y:=d j (cs[j]'(by omega)) (zl (by omega));rw[Y.1];rw[qo,jZ b]at a;simpa using a)
    simpa using this
   refine⟨.agg ((List.range n).map us).toArray,?_,.agg ?_ ?_⟩
   ·simp[loadVar,xu e,ya hs,i]
   ·simp;omega
   ·intro j c u a f;rw[qt]at a;split at a
    ·rename_i b;have:=(d j c a).2;simp[b]at f;rwa [<-f]
    ·cases a
  ·cases h
 ·rename_i n e hs;have:=d 0 x h;refine⟨us 0,?_,this.2⟩;have k:ad.add 0=ad:=rfl;rw[k]at this;simp[loadVar,xu e,this.1]
 ·cases h
theorem nY(hi:Inv P w S G Y Z){t:TypeId}{p x:O}{u:Value}(h:xB P Y t p=some x)(l:qe w S G Z p u):Qn dr P w Y Z S G x Y Z ((Instr.loadAt t u).run P w):=by
 unfold xB at h;split at h
 ·rename_i cs;cases l.KK with
  |ptr us m r=>obtain⟨v,n,o⟩:=V6 (G:=G) (Z:=Z) (w:=w) (S:=S) h _ us (fun j f y=>⟨(m j f y).2,.c (r j f y)⟩);exact qp hi (v:=v) (by simp[Instr.loadAt,Instr.sureAddr,n]) o
 ·rename_i id i j;have q:=l.c7;obtain⟨hid,rfl⟩:=l.WV;split at h
  ·rename_i b A;split at h
   ·rename_i c B;obtain⟨a,m,r,C⟩:=(hi.live id b A).row q;have d:∀k:Nat,w.cell? ((⟨(G id).g,i*(G id).s+j,none⟩:Addr).add k)=a[i*(G id).s+j+k]?:=by intro k;rw[kg,UA w _ _ a _ _ m]
    obtain⟨v,n,o⟩:=V6 (G:=G) (Z:=Z) (w:=w) (S:=S) h ⟨(G id).g,i*(G id).s+j,none⟩ (fun k=>(a[i*(G id).s+j+k]?).getD undef) (fun k f z=>by
     rw[qK]at z;obtain⟨u,D,E⟩:=C i (j+k) c f B z;rw[d];have e:i*(G id).s+j+k=i*(G id).s+(j+k):=by omega
     rw[e,D];exact⟨rfl,E.2.1⟩)
    exact qp hi (v:=v) (by simp[Instr.loadAt,Instr.sureAddr,n]) o
   ·cases h
  ·cases h
 ·cases h
end
variable{dr:Prop}
section
variable{P:Program}{w:World}{S:Nat->Prop}{G:Nat->GI}{Y:Hp}{Z:Nat}
def Zip{α a:Type}(R:α->a->Prop)(xs:List α)(us:List a):Prop:=xs.length=us.length/\∀(j:Nat) (x:α) (u:a),xs[j]?=some x->us[j]?=some u->R x u
theorem Zip.nil{α a:Type}{R:α->a->Prop}:Zip R [] ([]:List a):=⟨rfl,by simp⟩
theorem Zip.cons{α a:Type}{R:α->a->Prop}{x:α}{u:a}{xs:List α}{us:List a}(h:R x u)(t:Zip R xs us):Zip R (x::xs) (u::us):=by
 refine⟨by simp[t.1],fun j y v b c=>?_⟩;cases j with
 |zero=>simp at b c;subst b;subst c;exact h
 |succ j=>exact t.2 j y v (by simpa using b) (by simpa using c)
theorem Zip.jG{α b:Type}{R:α->b->Prop}{x:α}{xs:List α}{us:List b}(h:Zip R (x::xs) us):∃u a,us=u::a/\R x u/\Zip R xs a:=by
 cases us with
 |nil=>have:=h.1;simp at this
 |cons u a=>refine⟨u,a,rfl,h.2 0 x u rfl rfl,by have:=h.1;simpa using this,fun j y v c d=>h.2 (j+1) y v (by simpa using c) (by simpa using d)⟩
theorem Zip.Wq{α a:Type}{R:α->a->Prop}{us:List a}(h:Zip R ([]:List α) us):us=[]:=xr h.1.symm
theorem Zip.imp{α c:Type}{R d:α->c->Prop}{xs:List α}{us:List c}(h:Zip R xs us)(e:∀x u,R x u->d x u):Zip d xs us:=⟨h.1,fun j x u a b=>e x u (h.2 j x u a b)⟩
theorem Q7{h:Hp}{i k:Nat}{b:kN}(a:qR h i none k=some b):h k=some b:=by
 unfold qR at a;split at a
 ·cases a
 ·exact a
theorem nZ{x:O}{u:Value}(h:qe w S G Z x u)(hs:x.WH=true):wH w S x u:=by
 cases x with
 |v y=>obtain⟨rfl,a⟩:=h.wX;exact .v a
 |nil=>rw[h.Zd];exact .nil
 |em=>obtain⟨ad,cap,rfl,b⟩:=h.mL;exact .em b
 |sl s es=>exact h.bg
 |ptr cs=>exact h.KK
 |_=>simp[O.WH]at hs
theorem uf{x:O}{u:Value}(h:qe w S G Z x u)(hs:x.shut=true):wH w S x u:=by
 cases x with
 |agg cs=>obtain⟨us,rfl,d,e⟩:=h.Q5;exact .agg d fun j c y a b=>nZ (e j c y a b) (zY.1 hs c (zL a))
 |_=>exact nZ h hs
theorem Ji(hi:Inv P w S G Y Z){x y:O}{Y1:Hp}{u:Value}(h:wV Y x=some (y,Y1))(d:qe w S G Z x u) :
  ∃g,kO dr P Y Z S G w Y1 Z g G w/\wH w g y u/\(x.vn=false->g=S):=by
 have c:∀{m:O} {o:Hp},some (x,Y)=some (m,o)->wH w S x u->∃g,kO dr P Y Z S G w o Z g G w/\wH w g m u/\(x.vn=false->g=S):=by
  intro m o e z;injection e with e
  injection e with A B;subst A;subst B;exact⟨S,.refl hi,z,fun _=>rfl⟩
 unfold wV at h;split at h
 ·rename_i id off n;split at h
  ·rename_i b s;split at h
   ·rename_i i;injection h with h
    injection h with p q;subst p;subst q;obtain⟨cap,t,r,C,H,rfl⟩:=d.vH;exact⟨_,kO.kill hi s,CL hi s d.xk i.1 i.2 r C _ (fun k D=>.inl D) (.inr rfl),fun h=>by simp[O.vn]at h⟩
   ·cases h
  ·cases h
 ·obtain⟨rfl,E⟩:=d.wX;exact c h (.v E)
 ·have:=d.Zd;subst this;exact c h .nil
 ·exact c h d.bg
 ·obtain⟨ad,cap,rfl,F⟩:=d.mL;exact c h (.em F)
 ·exact c h d.KK
 ·rename_i f xs ys;split at h
  ·rename_i i;obtain⟨us,ts,rfl,p,q,t,r⟩:=d.tR;exact c h (.fn p q (fun j l y a b=>uf (t j l y a b) (zY.1 i.1 l (zL a))) (fun j l y a b=>uf (r j l y a b) (zY.1 i.2 l (zL a))))
  ·cases h
 ·cases h
theorem Yw{Y Y1:Hp}{x y:O}(h:wV Y x=some (y,Y1)):y.wW=true:=by
 unfold wV at h;split at h<;>(try (split at h))<;>(try (split at h))<;>first
  |(injection h with h;injection h with a b;subst a;rfl)
  |cases h
theorem Yx:∀{xs ys:zb} {Y Y1:Hp} {S:Nat->Prop} {us:List Value} (_:Inv P w S G Y Z),wx Y xs=some (ys,Y1)->Zip (qe w S G Z) xs us ->
  ∃b,kO dr P Y Z S G w Y1 Z b G w/\Zip (wH w b) ys us/\ys.all O.wW=true/\(xs.any O.vn=false->b=S)
 |[],ys,Y,Y1,S,us,hi,h,c=>by
  simp only[wx]at h;injection h with h
  injection h with f g;subst f;subst g;rw[c.Wq];exact⟨S,.refl hi,.nil,rfl,fun _=>rfl⟩
 |x::l,ys,Y,Y1,S,us,hi,h,c=>by
  simp only[wx]at h;split at h
  ·rename_i y f i;split at h
   ·rename_i r g k;injection h with h
    injection h with m n;subst m;subst n;obtain⟨u,o,rfl,p,d⟩:=c.jG;obtain⟨q,a,s,n1⟩:=Ji (dr:=dr) hi i p;have t:=a.same hi;obtain⟨v,j,z,A,B⟩:=Yx (S:=q) a.inv k (d.imp fun x u C=>C.mono t (zk _) (fun _ _=>rfl));refine⟨v,a.trans j,.cons (s.mono (j.same a.inv)) z,by simp[A,Yw i],fun e=>?_⟩;simp only[yr,wA]at e;rw[B e.2,n1 e.1]
   ·cases h
  ·cases h
theorem kV(hi:Inv P w S G Y Z){x y:O}{Y1:Hp}{u:Value}(h:qD Y x=some (y,Y1))(g:qe w S G Z x u) :
  ∃d,kO dr P Y Z S G w Y1 Z d G w/\wH w d y u/\y.cells.all O.wW=true/\(x.noOwn=true->d=S):=by
 unfold qD at h;split at h
 ·rename_i cs;split at h
  ·rename_i l Y2 i;injection h with h
   injection h with m n;subst m;subst n;obtain⟨us,rfl,o,p⟩:=g.Q5;obtain⟨d,k,z,q,e⟩:=Yx (us:=us.toList) hi i ⟨by simpa using o,fun j f x a b=>p j f x a (by simpa using b)⟩;exact⟨d,k,.agg (by have:=z.1;simpa using this) (fun j f x a b=>z.2 j f x a (by simpa using b)),q,fun h=>e (by simpa[O.noOwn]using h)⟩
  ·cases h
 ·obtain⟨d,k,c,e⟩:=Ji hi h g;refine⟨d,k,c,?_,fun r=>e ?_⟩
  ·have:=Yw h;cases y<;>simp_all[O.cells,O.wW]
  ·cases x<;>simp_all[O.noOwn,O.vn]
theorem jN:∀{xs ys:zb} {Y Y1:Hp} {S:Nat->Prop} {us:List Value} (_:Inv P w S G Y Z),zD Y xs=some (ys,Y1)->Zip (qe w S G Z) xs us ->
  ∃b,kO dr P Y Z S G w Y1 Z b G w/\Zip (wH w b) ys us/\(xs.all O.noOwn=true->b=S)
 |[],ys,Y,Y1,S,us,hi,h,c=>by
  simp only[zD]at h;injection h with h
  injection h with f g;subst f;subst g;rw[c.Wq];exact⟨S,.refl hi,.nil,fun _=>rfl⟩
 |x::l,ys,Y,Y1,S,us,hi,h,c=>by
  simp only[zD]at h;split at h
  ·rename_i y f j;split at h
   ·rename_i r g k;injection h with h
    injection h with m n;subst m;subst n;obtain⟨u,o,rfl,p,d⟩:=c.jG;obtain⟨q,a,s,_,n1⟩:=kV (dr:=dr) hi j p;have t:=a.same hi;obtain⟨v,i,z,A⟩:=jN (S:=q) a.inv k (d.imp fun x u B=>B.mono t (zk _) (fun _ _=>rfl));refine⟨v,a.trans i,.cons (s.mono (i.same a.inv)) z,fun e=>?_⟩;simp only[wO,zC]at e;rw[A e.2,n1 e.1]
   ·cases h
  ·cases h
theorem WL(hi:Inv P w S G Y Z){x y:O}{Y1:Hp}{u:Value}(h:freeze Y x=some (y,Y1))(f:qe w S G Z x u) :
  ∃d,kO dr P Y Z S G w Y1 Z d G w/\wH w d y u:=by
 unfold freeze at h;split at h
 ·rename_i cs;split at h
  ·rename_i l Y2 g;injection h with h
   injection h with i m;subst i;subst m;obtain⟨us,rfl,n,o⟩:=f.Gm;obtain⟨d,k,z,_⟩:=jN (us:=us.toList) hi g ⟨by simpa using n,fun j e x a b=>o j e x a (by simpa using b)⟩;exact⟨d,k,.wP (by have:=z.1;simpa using this) (fun j e x a b=>z.2 j e x a (by simpa using b))⟩
  ·cases h
 ·obtain⟨d,k,c,_⟩:=kV hi h f;exact⟨d,k,c⟩
theorem Wt:∀(l cs:zb) (off:Nat),(yS cs off l).length=cs.length
 |[],cs,off=>rfl
 |x::l,cs,off=>by simp[yS,Wt l]
theorem JV:∀(l cs:zb) (off k:Nat),off+l.length<=cs.length->(yS cs off l)[k]?=if off<=k/\k<off+l.length then l[k-off]? else cs[k]?
 |[],cs,off,k,_=>by simp[yS];omega
 |x::l,cs,off,k,h=>by
  simp only[zP]at h;have b:=JV l (cs.set off x) (off+1) k (by simp;omega);simp only[yS];rw[b];by_cases a:off+1<=k/\k<off+1+l.length
  ·rw[ze a,ze ⟨by omega,by simp;omega⟩];obtain⟨d,rfl⟩:∃d,k=off+1+d:=⟨k-(off+1),by omega⟩;rw[show off+1+d-(off+1)=d from by omega,show off+1+d-off=d+1 from by omega];simp
  ·rw[zd a];by_cases c:k=off
   ·subst c;rw[ze ⟨by omega,by simp⟩,Zb (by omega)];simp
   ·rw[zd (by simp;omega),yV (by omega)]
theorem vp{α:Type}(l vs:List α)(o k:Nat)(h:o+vs.length<=l.length):(l.take o++vs++l.drop (o+vs.length))[k]?=if o<=k/\k<o+vs.length then vs[k-o]? else l[k]?:=by
 have a:(l.take o).length=o:=by simp;omega
 rw[q5];by_cases b:k<o
 ·rw[zd (by omega),z8 (by omega),qt,ze b]
 ·rw[zQ (by omega),a];by_cases c:k<o+vs.length
  ·rw[ze ⟨by omega,c⟩,z8 (by omega)]
  ·rw[zd (by omega),zQ (by omega),qK];congr 1;omega
theorem QT{α:Type}(l vs:List α)(o:Nat)(h:o+vs.length<=l.length):(l.take o++vs++l.drop (o+vs.length)).length=l.length:=by simp;omega
theorem gZ{s i j i':Nat}(c:j<s)(b:i'≠i)(a n:Nat)(d:a+n<=s):¬(i*s+a<=i'*s+j/\i'*s+j<i*s+a+n):=by
 rcases Nat.lt_or_gt_of_ne b with h|h
 ·have:(i'+1)*s<=i*s:=zH s h;rw[qQ]at this;omega
 ·have:(i+1)*s<=i'*s:=zH s h;rw[qQ]at this;omega
theorem j5{i j n s:Nat}(hi:i<n)(a:j<s):i*s+j<n*s:=by have:(i+1)*s<=n*s:=zH s hi;rw[qQ]at this;omega
theorem pX(hi:Inv P w S G Y Z){id i j:Nat}{b:kN}{c ys:zb}{vs:List Value}(J:Y id=some b)(d:0<(G id).s)(B:b.es[i]?=some c)(N:ys.length=vs.length)(Q:j+ys.length<=c.length)
  (K:∀(k:Nat) (p:O) (u:Value),ys[k]?=some p->vs[k]?=some u->jg w S G Z b.arr p u) :
  ∃w',(storeCells ⟨(G id).g,i*(G id).s+j,none⟩ vs).run P w=.ok () w'/\kO dr P Y Z S G w (qR Y id (some ⟨b.e,b.s,b.arr,b.es.set i (yS c j ys)⟩)) Z S G w':=by
 have l:=hi.live id b J;obtain⟨n,R,T,L⟩:=l.row d;have C:c.length=(G id).s:=l.len d c (zL B);have q:i<b.es.length:=(zi.1 B).1;have m:i*(G id).s+j+vs.length<=n.size:=by have:(i+1)*(G id).s<=b.es.length*(G id).s:=zH _ q;have:=l.fit d;rw[qQ]at *;omega
 have D:∀v∈vs,v.oneCell'=true:=by
  intro v W;obtain⟨k,r⟩:=mJ W;have E:k<ys.length:=by rw[N];exact(zi.1 r).1
  exact(K k ys[k] v (zl E) r).2.2
 have t:=run_storeCells_at P (G id).g (i*(G id).s+j) b.e vs 0 n w R (by simpa using m) D;simp only[Qk]at t;have x:i*(G id).s+j+vs.length<=n.toList.length:=by simpa using m
 refine⟨_,t,kO.set hi J d _ _ ?_ ?_ ?_ ?_⟩
 ·rw[jy,QT _ _ _ x];simpa using T
 ·intro A F;rcases ZR F with h|h
  ·exact l.len d A h
  ·subst h;rw[Wt];exact C
 ·simpa using l.fit d
 ·intro i' j' A p a f;have M:i'<b.es.length:=by have:=(zi.1 a).1;simpa using this
  rw[List.getElem?_toArray,vp _ _ _ _ x];by_cases o:i'=i
  ·subst o;rw[Zb q]at a;injection a with a
   subst a;rw[JV _ _ _ _ Q]at f;by_cases y:j<=j'/\j'<j+ys.length
   ·rw[ze y]at f;rw[ze ⟨by omega,by omega⟩];have r:j'-j<vs.length:=by omega
    refine⟨vs[j'-j],?_,K (j'-j) p _ f (zl r)⟩;rw[show i'*(G id).s+j'-(i'*(G id).s+j)=j'-j from by omega];exact zl r
   ·rw[zd y]at f;rw[zd (by omega)];obtain⟨u,H,I⟩:=L i' j' c p B f;exact⟨u,by simpa using H,I⟩
  ·rw[yV (fun e=>o e.symm)]at a;have z:j'<(G id).s:=by rw[<-l.len d A (zL a)];exact(zi.1 f).1
   rw[zd (gZ z o j vs.length (by omega))];obtain⟨u,H,I⟩:=L i' j' A p a f;exact⟨u,by simpa using H,I⟩
theorem CN(hi:Inv P w S G Y Z){t:TypeId}{a x:O}{K:Hp}{u v:Value}(h:Qy P Y t a x=some K)(ha:qe w S G Z a u)(hx:qe w S G Z x v) :
  ∃w' N Q,(Instr.storeAt t u v).run P w=.ok () w'/\kO dr P Y Z S G w K Z N Q w':=by
 unfold Qy at h;split at h
 ·rename_i id i j;have R:=ha.c7;obtain⟨hid,rfl⟩:=ha.WV;split at h
  ·rename_i T E;have F:∀(y:O) (Y1:Hp) (z:Nat->Prop),kO dr P Y Z S G w Y1 Z z G w->qe w z G Z y v->(T.arr=true->wH w z y v)->(∀b,Y1 id=some b->b.arr=T.arr) ->
     (match Y1 id,qv P t with
      |some b,some n=>match b.es[i]? with
       |some c=>if y.cells.length=n/\j+n<=c.length/\y.cells.all O.wW=true then some (qR Y1 id (some ⟨b.e,b.s,b.arr,b.es.set i (yS c j y.cells)⟩))else none
       |none=>none
      |_,_=>none)=some K->∃w' N Q,(Instr.storeAt t (.pointer (some ⟨(G id).g,i*(G id).s+j,none⟩)) v).run P w=.ok () w'/\kO dr P Y Z S G w K Z N Q w':=by
    intro y Y1 z L hy W X h;split at h
    ·rename_i b n f hn;split at h
     ·rename_i c M;split at h
      ·rename_i A;obtain⟨e1,e2,e3⟩:=A;injection h with h
       subst h;obtain⟨hl,hr⟩:=dd hy e3;have hsz:v.cells.size=n:=by rw[<-hl,e1]
       obtain⟨w',pS,k2⟩:=pX (P:=P) L.inv (ys:=y.cells) (vs:=v.cells.toList) (j:=j) f R M (by simpa using hl) (by rw[e1];exact e2) (fun k pv u D hu=>by
        have m:v.cells[k]?=some u:=by simpa using hu
        have h6:=hr k pv u D m;refine⟨fun H=>?_,h6.1,h6.2⟩;rw[X b f]at H;have B:=W H;by_cases I:∃cs,y=.agg cs
        ·obtain⟨cs,rfl⟩:=I;cases B with
         |agg g1 g2=>exact g2 k pv u D m
        ·have J:y.cells=[y]:=by cases y<;>first|rfl|exact(I ⟨_,rfl⟩).elim
         have ho:=B.KJ (by rw[J]at e3;simpa using e3);have hv1:v.cells=#[v]:=by cases v<;>first|rfl|simp[Value.oneCell']at ho
         rw[J]at D;rw[hv1]at m;cases k with
         |zero=>simp at D m;subst D;subst m;exact B
         |succ k=>simp at D)
       refine⟨w',z,G,?_,L.trans k2⟩;simp[Instr.storeAt,Instr.sureAddr,storeVar,ya hn,hsz,pS]
      ·cases h
     ·cases h
    ·cases h
   by_cases o:T.arr=true
   ·simp only[o,qB]at h;split at h
    ·rename_i y Y1 d;obtain⟨z,L,M,_,_⟩:=kV hi d hx;refine F y Y1 z L (.c M) (fun _=>M) (fun b f=>?_) h;have:∀b,Y1 id=some b->Y id=some b:=fun b f=>by
      have p:∀{x y:O} {h q:Hp} (_:wV h x=some (y,q)) (k:Nat) (b:kN),q k=some b->h k=some b:=by
       intro x y h q d k b f;unfold wV at d;split at d<;>(try (split at d))<;>(try (split at d))<;>first
        |(injection d with d;injection d with e1 e2;subst e2
          first
           |exact f
           |exact Q7 f)
        |cases d
      have C:∀(xs ys:zb) (h q:Hp) (_:wx h xs=some (ys,q)) (k:Nat) (b:kN),q k=some b->h k=some b:=by
       intro xs
       induction xs with
       |nil=>intro ys h q d k b f;simp only[wx]at d;injection d with d;injection d with _ e;subst e;exact f
       |cons x l ih=>
        intro ys h q d k b f;simp only[wx]at d;split at d
        ·rename_i y h1 hc1;split at d
         ·rename_i r h2 hr;injection d with d
          injection d with _ e;subst e;exact p hc1 k b (ih _ _ _ hr k b f)
         ·cases d
        ·cases d
      unfold qD at d;split at d
      ·split at d
       ·rename_i l h2 hcs;injection d with d
        injection d with _ e;subst e;exact C _ _ _ _ hcs id b f
       ·cases d
      ·exact p d id b f
     have:=this b f;rw[E]at this;injection this with this
     rw[this]
    ·cases h
   ·simp only[o]at h;exact F x Y S (.refl hi) hx (fun h=>(o h).elim) (fun b f=>by rw[E]at f;injection f with f;rw[f]) h
  ·cases h
 ·cases h
end
variable{dr:Prop}
section
variable{P:Program}{w:World}{S:Nat->Prop}{G:Nat->GI}{Y:Hp}{Z:Nat}
theorem K8{t:TypeId}{f o n:Nat}{b:Bool}(h:qO P t f=some (o,n,b)):∃(a:Array Field) (x:Field),P.underlying t=some (.struct a)/\a[f]?=some x/\x.offset=o/\qv P x.type=some n/\wQ P x.type=some b:=by
 unfold qO at h;split at h
 ·rename_i a c;split at h
  ·rename_i x d;split at h
   ·rename_i l m e g;injection h with h
    injection h with i h;injection h with j k;subst i;subst j;subst k;exact⟨a,x,c,d,rfl,e,g⟩
   ·cases h
  ·cases h
 ·cases h
theorem hC(hi:Inv P w S G Y Z){t:TypeId}{f:Nat}{p x:O}{u:Value}(h:yN P t f p=some x)(k:qe w S G Z p u):Qn dr P w Y Z S G x Y Z ((Instr.fieldAt t u f).run P w):=by
 have a:∀{o n:Nat} {g:Bool} {ad:Addr},qO P t f=some (o,n,g)->n≠0->(Instr.fieldAt t (.pointer (some ad)) f).run P w=.ok (.pointer (some (ad.add o))) w:=by intro o n g ad b d;obtain⟨y,x,q,r,rfl,hs,_⟩:=K8 b;simp[Instr.fieldAt,zz q,r,Instr.sureAddr,fieldPlace,ya hs,d]
 unfold yN at h;split at h
 ·rename_i cs;split at h
  ·rename_i o n g b;split at h
   ·cases h
   ·rename_i d;injection h with h
    subst h;cases k.KK with
    |ptr us s v=>
     refine qp hi (a b d) (.c (.ptr (fun j=>us (o+j)) (fun j l e=>?_) (fun j l e=>?_)))
     ·rw[qK]at e;rw[Qx,bj];exact s _ l e
     ·rw[qK]at e;exact v _ l e
  ·cases h
 ·rename_i id i j;have m:=k.c7;obtain⟨hid,rfl⟩:=k.WV;split at h
  ·rename_i o n g b;split at h
   ·cases h
   ·rename_i d;injection h with h
    subst h;refine qp hi (a b d) ?_;rw[kg,gQ];exact .ref hid m
  ·cases h
 ·cases h
theorem CO(hi:Inv P w S G Y Z){t:TypeId}{f:Nat}{p x:O}{u:Value}(h:ZI P t f p=some x)(m:qe w S G Z p u):Qn dr P w Y Z S G x Y Z ((Instr.field t u f).run P w):=by
 unfold ZI at h;split at h
 ·rename_i cs;obtain⟨us,rfl,q,l⟩:=m.Q5;split at h
  ·rename_i o n d;split at h
   ·rename_i r;injection h with h
    subst h;obtain⟨s,x,e,g,rfl,hs,i⟩:=K8 d;refine qp (v:=.agg (us.extract x.offset (x.offset+n))) hi ?_ (.agg ?_ ?_)
    ·simp[Instr.field,zz e,g,asAgg,part,xu i,ya hs]
    ·simp;omega
    ·intro j z v a c;rw[qt]at a;split at a
     ·rw[qK]at a;rw[Array.getElem?_extract]at c;split at c
      ·exact l _ z v a c
      ·cases c
     ·cases a
   ·cases h
  ·rename_i o n d;obtain⟨s,y,e,g,rfl,hs,i⟩:=K8 d;have k:y.offset<us.size:=by rw[<-q];exact(zi.1 h).1
   have b:us[y.offset]?=some us[y.offset]:=by simp[k]
   refine qp (v:=us[y.offset]) hi ?_ (l _ x _ h b);simp[Instr.field,zz e,g,asAgg,part,xu i,b]
  ·cases h
 ·cases h
theorem kW{t e:TypeId}(h:wY P t=some e):P.underlying t=some (.slice e):=by
 unfold wY at h;split at h
 ·injection h with h;subst h;assumption
 ·cases h
theorem LB{t:TypeId}{m:Nat}{e:TypeId}(h:ue P t=some (m,e)):P.underlying t=some (.array m e):=by
 unfold ue at h;split at h
 ·injection h with h;injection h with a b;subst a;subst b;assumption
 ·cases h
theorem mT(hi:Inv P w S G Y Z){t:TypeId}{p x:O}{u:Value}{k:IntKind}{i:Int}(h:x1 P t i p=some x)(o:qe w S G Z p u):Qn dr P w Y Z S G x Y Z ((Instr.indexAt t u (.int k i)).run P w):=by
 unfold x1 at h;split at h
 ·rename_i m e A;have y:=LB A;split at h
  ·rename_i n z;split at h
   ·rename_i B;obtain⟨d,f⟩:=B;split at h
    ·rename_i cs;injection h with h
     subst h;cases o.KK with
     |ptr us C D=>
      rename_i ad;refine qp (v:=.pointer (some (ad.add (i.toNat*n)))) hi ?_ (.c (.ptr (fun j=>us (i.toNat*n+j)) (fun j q l=>?_) (fun j q l=>?_)))
      ·simp[Instr.indexAt,zz y,asIntOf,d,f,Instr.sureAddr,ya z]
      ·rw[qK]at l;rw[Qx,bj];exact C _ q l
      ·rw[qK]at l;exact D _ q l
    ·rename_i id a b;injection h with h
     subst h;have r:=o.c7;obtain⟨hid,rfl⟩:=o.WV;refine qp (v:=.pointer (some ((⟨(G id).g,a*(G id).s+b,none⟩:Addr).add (i.toNat*n)))) hi ?_ ?_
     ·simp[Instr.indexAt,zz y,asIntOf,d,f,Instr.sureAddr,ya z]
     ·rw[kg,gQ];exact .ref hid r
    ·cases h
   ·cases h
  ·cases h
 ·cases h
theorem hU(hi:Inv P w S G Y Z){t:TypeId}{p q x:O}{u v:Value}(h:qH P Y t p q=some x)(r:qe w S G Z p u)(M:qe w S G Z q v):Qn dr P w Y Z S G x Y Z ((Instr.indexAt t u v).run P w):=by
 unfold qH at h;split at h
 ·rename_i k i;obtain⟨rfl,_⟩:=M.wX;split at h
  ·rename_i e N;have J:=kW N;split at h
   ·rename_i n s es hs;split at h
    ·rename_i y;obtain⟨rfl,Q,d⟩:=y;cases a:es[i.toNat]? with
     |none=>simp[a]at h
     |some c=>
      simp[a]at h;subst h;cases r.bg with
      |sl us h0 h1 h2 z B K=>
       rename_i A cap;have R:=z c (zL a);have T:i.toNat<es.length:=(zi.1 a).1;have C:c[0]?=some (c[0]'(by omega)):=zl (by omega);obtain⟨ad,rfl,hS,_⟩:=B i.toNat 0 c _ a C;have f:i<es.length:=by omega
       refine qp (v:=.pointer (some (ad.add (i.toNat*s)))) hi ?_ (.c (.ptr (fun j=>us i.toNat j) (fun j D E=>?_) (fun j D E=>K i.toNat j c D a E)))
       ·simp[Instr.indexAt,zz J,asIntOf,d,f,ya hs]
       ·obtain⟨W,F,L,H,_⟩:=B i.toNat j c D a E;injection F with F;subst F;rw[Qx,bj];exact⟨L,H⟩
    ·cases h
   ·rename_i n id off m hs;split at h
    ·rename_i b X;split at h
     ·rename_i y;obtain⟨rfl,hn0,d,hik⟩:=y;injection h with h
      subst h;have l:=r.xk;obtain⟨cap,z,B,K,L,rfl⟩:=r.vH;have I:(G id).s=n:=by
       have:=(hi.live id b X).size l;have H:(P.info? b.e).map (·.size)=some n:=hs;rw[H]at this;injection this with this
       exact this.symm
      have o:i<m:=by omega
      refine qp (v:=.pointer (some ((⟨(G id).g,off*(G id).s,none⟩:Addr).add (i.toNat*n)))) hi ?_ ?_
      ·simp[Instr.indexAt,zz J,asIntOf,d,o,ya hs]
      ·rw[kg,<-I,<-qQ];have:=qe.ref (w:=w) (S:=S) (G:=G) (Z:=Z) (id:=id) (i:=off+i.toNat) (j:=0) z l;simpa using this
     ·cases h
    ·cases h
   ·cases h
  ·exact mT hi h r
 ·cases h
theorem CP(hi:Inv P w S G Y Z){t:TypeId}{p q x:O}{u v:Value}(h:Qz P t p q=some x)(a:qe w S G Z p u)(d:qe w S G Z q v):Qn dr P w Y Z S G x Y Z ((Instr.index t u v).run P w):=by
 unfold Qz at h;split at h
 ·rename_i s k i;obtain⟨rfl,_⟩:=d.wX;obtain⟨rfl,_⟩:=a.wX;split at h
  ·rename_i e;split at h
   ·rename_i f;split at h
    ·rename_i b g;injection h with h
     subst h;refine qp (v:=.int .u8 b.toNat) hi ?_ (.c (.v rfl));simp[Instr.index,zz e,asIntOf,f,g]
    ·cases h
   ·cases h
  ·cases h
 ·cases h
theorem pY(hi:Inv P w S G Y Z){vs:zb}{x:O}{i:Nat}{u:Value}(h:vs[i]?=some x)(c:qe w S G Z (.wP vs) u):Qn dr P w Y Z S G x Y Z ((Instr.extract u i).run P w):=by
 obtain⟨us,rfl,d,e⟩:=c.Gm;have b:i<us.size:=by rw[<-d];exact(zi.1 h).1
 have a:us[i]?=some us[i]:=by simp[b]
 exact qp (v:=us[i]) hi (by simp[Instr.extract,a]) (e i x _ h a)
theorem xD(x:Value)(h:lit x=true):qe w S G Z (.v x) x:=.c (.v h)
theorem LC{op:BinOp}{k:IntKind}{a b:Int}{x:O}(h:Lv op k a b=some x)(t:TypeId)(w:World):∃v,x=.v v/\lit v=true/\(binOp op t (.int k a) (.int k b)).run P w=.ok v w:=by
 unfold Lv at h;split at h<;>(try (split at h))<;>first
  |(injection h with h;subst h;exact⟨_,rfl,rfl,by simp[binOp,Op.intArith,Op.intDiv,Op.intCmp,Op.intBits,Op.shift, *]⟩)
  |cases h
theorem LD{op:BinOp}{a b:ByteArray}{x:O}(h:Lw op a b=some x)(t:TypeId)(w:World):∃v,x=.v v/\lit v=true/\(binOp op t (.string a) (.string b)).run P w=.ok v w:=by
 have d:IntKind.i64.max=9223372036854775807:=by decide
 unfold Lw at h;split at h
 ·split at h
  ·rename_i c;injection h with h
   subst h;refine⟨_,rfl,rfl,?_⟩;have e:(a.size:Int)+(b.size:Int)<=9223372036854775807:=by simp only[maxLen]at c;omega
   simp[binOp,Op.stringOp,e]
  ·cases h
 all_goals first
  |(injection h with h;subst h;exact⟨_,rfl,rfl,by simp[binOp,Op.stringOp]⟩)
  |cases h
theorem Yy{op:BinOp}{t:TypeId}{x y:Operand}{a b:Value}(h:lit a=true)(c:a≠.nilIface)(w:World):(eqGuard op t x y a b).run P w=.ok () w:=by unfold eqGuard;cases op<;>simp<;>(cases a<;>cases b<;>simp_all[lit])
theorem Fe{t:TypeId}{k:Nat}(h:Gw P t=some k):wQ P t=some false:=by
 unfold Gw at h;unfold wQ;split at h<;>first
  |(rename_i a;rw[a];rfl)
  |cases h
theorem bn(w:World)(d:Nat)(B C:Array Value):∀(D:List Field) (k:Nat) (N:List Nat) (E F:zb) (r:Bool),nV P k D=some N->wU N E F=some r ->
  (∀(j:Nat) (t:O),E[j]?=some t->∃u,B[k+j]?=some u/\qe w S G Z t u)->(∀(j:Nat) (t:O),F[j]?=some t->∃u,C[k+j]?=some u/\qe w S G Z t u) ->
  (Op.eqFields (d+1) B C D).run P w=.ok r w
 |[],k,N,E,F,r,g,e,_,_=>by
  simp only[nV]at g;injection g with g
  subst g;simp only[wU]at e;injection e with e
  subst e;simp[Op.eqFields]
 |f::D,k,N,E,F,r,g,e,W,X=>by
  simp only[nV]at g;split at g
  ·rename_i z;split at g
   ·rename_i tg i H h2;injection g with g
    subst g;have A:∀(p q:O) (x y:zb) (b s:Bool),E=p::x->F=q::y->(∀u v,qe w S G Z p u->qe w S G Z q v->(Op.equalIn (d+1) f.type u v).run P w=.ok b w)->wU i x y=some s->r=(b&&s) ->
      (Op.eqFields (d+1) B C (f::D)).run P w=.ok r w:=by
     intro p q x y b s h e2 h3 h4 h5;subst h;subst e2;subst h5;obtain⟨u,I,Q⟩:=W 0 p rfl;obtain⟨v,J,R⟩:=X 0 q rfl;simp only[Qk]at I J;have ha:=Fe H;have Y1:(part f.type B f.offset).run P w=.ok u w:=by simp[part,xu ha,z.1,I]
     have Y2:(part f.type C f.offset).run P w=.ok v w:=by simp[part,xu ha,z.1,J]
     have ih:=bn w d B C D (k+1) i x y s h2 h4 (fun j t T=>by have:=W (j+1) t (by simpa using T);rwa [show k+(j+1)=k+1+j from by omega]at this) (fun j t T=>by have:=X (j+1) t (by simpa using T);rwa [show k+(j+1)=k+1+j from by omega]at this);cases b<;>simp[Op.eqFields,z.2,Y1,Y2,h3 u v Q R,ih]
    unfold wU at e;unfold Gw at H;split at e
    ·simp_all
    ·rename_i K kk a l kk' b m h;injection h with h n
     subst h;subst n;split at e
     ·rename_i hk;subst hk;cases c:wU i l m with
      |none=>simp[c]at e
      |some s=>
       simp[c]at e;refine A _ _ _ _ (a==b) s rfl rfl (fun u v L M=>?_) c e.symm;obtain⟨rfl,_⟩:=L.wX;obtain⟨rfl,_⟩:=M.wX;split at H<;>first
        |(rename_i o;simp[Op.equalIn,zz o];done)
        |simp_all
     ·cases e
    ·rename_i K a l b m h;injection h with h n
     subst h;subst n;cases c:wU i l m with
     |none=>simp[c]at e
     |some s=>
      simp[c]at e;refine A _ _ _ _ (a==b) s rfl rfl (fun u v L M=>?_) c e.symm;obtain⟨rfl,_⟩:=L.wX;obtain⟨rfl,_⟩:=M.wX;split at H<;>first
       |(rename_i o;simp[Op.equalIn,zz o];done)
       |simp_all
    ·rename_i K a l b m h;injection h with h n
     subst h;subst n;cases c:wU i l m with
     |none=>simp[c]at e
     |some s=>
      simp[c]at e;refine A _ _ _ _ (a==b) s rfl rfl (fun u v L M=>?_) c e.symm;obtain⟨rfl,_⟩:=L.wX;obtain⟨rfl,_⟩:=M.wX;split at H<;>first
       |(rename_i o;simp[Op.equalIn,zz o];done)
       |simp_all
    ·cases e
   ·cases g
  ·cases g
def eq1:Nat->O->O->Option Bool
 | 0,.v (.int k a),.v (.int c b)=>if k=c then some (a==b)else none
 | 1,.v (.bool a),.v (.bool b)=>some (a==b)
 | 2,.v (.string a),.v (.string b)=>some (a==b)
 |_,_,_=>none
theorem JW(k:Nat)(a:List Nat)(b:zb):wU (k::a) [] b=none:=by unfold wU;split<;>first|rfl|simp_all
theorem JX(k:Nat)(a:List Nat)(b:zb):wU (k::a) b []=none:=by unfold wU;split<;>first|rfl|simp_all
theorem WM(k:Nat)(c:List Nat)(p q:O)(d e:zb):wU (k::c) (p::d) (q::e)=(eq1 k p q).bind fun b=>(wU c d e).map (b&&·):=by
 match k with
 | 0=>
  cases p with
  |v x=>cases x with
   |int w a=>cases q with
    |v y=>cases y with
     |int w' b=>simp only[wU,eq1];split<;>rfl
     |_=>rfl
    |_=>rfl
   |_=>rfl
  |_=>rfl
 | 1=>
  cases p with
  |v x=>cases x with
   |bool a=>cases q with
    |v y=>cases y<;>rfl
    |_=>rfl
   |_=>rfl
  |_=>rfl
 | 2=>
  cases p with
  |v x=>cases x with
   |string a=>cases q with
    |v y=>cases y<;>rfl
    |_=>rfl
   |_=>rfl
  |_=>rfl
 |k+3=>rfl
theorem K9:∀(a c:List Nat) (d e:zb) (r:Bool),wU (a++c) d e=some r->∃f g,wU a d e=some f/\wU c (d.drop a.length) (e.drop a.length)=some g/\r=(f&&g)
 |[],c,d,e,r,h=>⟨true,r,rfl,h,rfl⟩
 |k::a,c,[],e,r,h=>by rw[q7,JW]at h;cases h
 |k::a,c,p::d,[],r,h=>by rw[q7,JX]at h;cases h
 |k::a,c,p::d,q::e,r,h=>by
  rw[q7,WM]at h;cases i:eq1 k p q with
  |none=>rw[i]at h;cases h
  |some b=>rw[i,zZ]at h;obtain⟨j,l,rfl⟩:=Option.map_eq_some_iff.1 h;obtain⟨f,g,m,n,rfl⟩:=K9 a c d e j l;exact⟨b&&f,g,by rw[WM,i,zZ,m];rfl,n,by rw[Bool.and_assoc]⟩
theorem bo:∀(a:List Nat) (b c:zb),wU a (b.take a.length) (c.take a.length)=wU a b c
 |[],b,c=>by simp only[wU]
 |k::a,[],c=>by rw[List.take_nil,JW,JW]
 |k::a,p::b,[]=>by rw[List.take_nil,JX,JX]
 |k::a,p::b,q::c=>by rw[zP,yd,yd,WM,WM,bo a b c]
theorem LF{t:TypeId}{b:List Nat}(h:UN P t=some b):∃a,P.underlying t=some (.struct a)/\nV P 0 a.toList=some b/\P.stoodInHeld t=false/\qv P t=some b.length:=by
 unfold UN at h;split at h
 ·cases h
 ·rename_i g;split at h
  ·rename_i a c;split at h
   ·rename_i d e;split at h
    ·rename_i f;injection h with h
     subst h;exact⟨a,c,e,by cases i:P.stoodInHeld t<;>simp_all,f⟩
    ·cases h
   ·cases h
  ·cases h
theorem YV(w:World)(d:Nat)(s t:Array Value):∀(Q:List Field) (k:Nat) (ks:List Nat) (I J:zb) (r:Bool),nW P k Q=some ks->wU ks I J=some r ->
  (∀(j:Nat) (c:O),I[j]?=some c->∃u,s[k+j]?=some u/\qe w S G Z c u)->(∀(j:Nat) (c:O),J[j]?=some c->∃u,t[k+j]?=some u/\qe w S G Z c u) ->
  (Op.eqFields (d+2) s t Q).run P w=.ok r w
 |[],k,ks,I,J,r,g,h,_,_=>by
  simp only[nW]at g;injection g with g
  subst g;simp only[wU]at h;injection h with h
  subst h;simp[Op.eqFields]
 |f::Q,k,ks,I,J,r,g,h,hx,hy=>by
  simp only[nW]at g;split at g
  ·rename_i o;split at g
   ·rename_i tg R;split at g
    case h_2=>cases g
    rename_i l h2;injection g with g
    subst g;have K:∀(p q:O) (E F:zb) (b C:Bool),I=p::E->J=q::F->(∀u v,qe w S G Z p u->qe w S G Z q v->(Op.equalIn (d+2) f.type u v).run P w=.ok b w)->wU l E F=some C->r=(b&&C) ->
      (Op.eqFields (d+2) s t (f::Q)).run P w=.ok r w:=by
     intro p q E F b C i e2 h3 h4 h5;subst i;subst e2;subst h5;obtain⟨u,m,x⟩:=hx 0 p rfl;obtain⟨v,T,hv2⟩:=hy 0 q rfl;simp only[Qk]at m T;have ha:=Fe R;have Y1:(part f.type s f.offset).run P w=.ok u w:=by simp[part,xu ha,o.1,m]
     have Y2:(part f.type t f.offset).run P w=.ok v w:=by simp[part,xu ha,o.1,T]
     have ih:=YV w d s t Q (k+1) l E F C h2 h4 (fun j c D=>by have:=hx (j+1) c (by simpa using D);rwa [show k+(j+1)=k+1+j from by omega]at this) (fun j c D=>by have:=hy (j+1) c (by simpa using D);rwa [show k+(j+1)=k+1+j from by omega]at this);cases b<;>simp[Op.eqFields,o.2,Y1,Y2,h3 u v x hv2,ih]
    unfold wU at h;unfold Gw at R;split at h
    ·simp_all
    ·rename_i W kk a y kk' b z i;injection i with i A
     subst i;subst A;split at h
     ·rename_i hk;subst hk;cases e:wU l y z with
      |none=>simp[e]at h
      |some C=>
       simp[e]at h;refine K _ _ _ _ (a==b) C rfl rfl (fun u v X hv=>?_) e h.symm;obtain⟨rfl,_⟩:=X.wX;obtain⟨rfl,_⟩:=hv.wX;split at R<;>first
        |(rename_i B;simp[Op.equalIn,zz B];done)
        |simp_all
     ·cases h
    ·rename_i W a y b z i;injection i with i A
     subst i;subst A;cases e:wU l y z with
     |none=>simp[e]at h
     |some C=>
      simp[e]at h;refine K _ _ _ _ (a==b) C rfl rfl (fun u v X hv=>?_) e h.symm;obtain⟨rfl,_⟩:=X.wX;obtain⟨rfl,_⟩:=hv.wX;split at R<;>first
       |(rename_i B;simp[Op.equalIn,zz B];done)
       |simp_all
    ·rename_i W a y b z i;injection i with i A
     subst i;subst A;cases e:wU l y z with
     |none=>simp[e]at h
     |some C=>
      simp[e]at h;refine K _ _ _ _ (a==b) C rfl rfl (fun u v X hv=>?_) e h.symm;obtain⟨rfl,_⟩:=X.wX;obtain⟨rfl,_⟩:=hv.wX;split at R<;>first
       |(rename_i B;simp[Op.equalIn,zz B];done)
       |simp_all
    ·cases h
   ·split at g
    case h_2=>cases g
    rename_i n hs1;split at g
    case h_2=>cases g
    rename_i l h2;injection g with g
    subst g;obtain⟨r1,r2,i,e2,rfl⟩:=K9 _ _ _ _ _ h;rw[<-bo]at i;obtain⟨gs,L,hgt,Tg,hgn⟩:=LF hs1;have H:wQ P f.type=some true:=by unfold wQ;rw[L];rfl
    have hfo:P.fieldsOf f.type=gs:=by simp[Program.fieldsOf,L]
    have Y1:(part f.type s f.offset).run P w=.ok (.agg (s.extract k (k+n.length))) w:=by simp[part,xu H,o.1,ya hgn]
    have Y2:(part f.type t f.offset).run P w=.ok (.agg (t.extract k (k+n.length))) w:=by simp[part,xu H,o.1,ya hgn]
    have hin:∀(M:zb) (N:Array Value),(∀(j:Nat) (c:O),M[j]?=some c->∃u,N[k+j]?=some u/\qe w S G Z c u)->∀(j:Nat) (c:O),(M.take n.length)[j]?=some c->∃u,(N.extract k (k+n.length))[0+j]?=some u/\qe w S G Z c u:=by
     intro M N hz j c D;have PH:j<n.length:=by have:=(zi.1 D).1;rw[wB]at this;omega
     rw[List.getElem?_take_of_lt PH]at D;obtain⟨u,m,x⟩:=hz j c D;refine⟨u,?_,x⟩;rw[yi,Array.getElem?_extract];have hlt:=(qh.1 m).1;rw[ze (by omega)];exact m
    have hrun:(Op.equalIn (d+2) f.type (.agg (s.extract k (k+n.length))) (.agg (t.extract k (k+n.length)))).run P w=.ok r1 w:=by rw[run_equalIn_struct w (d+1) f.type _ _ (by rw[hfo];exact L) Tg,hfo];exact bn w d _ _ gs.toList 0 n _ _ r1 hgt i (hin I s hx) (hin J t hy)
    have pT:∀(M:zb) (N:Array Value),(∀(j:Nat) (c:O),M[j]?=some c->∃u,N[k+j]?=some u/\qe w S G Z c u)->∀(j:Nat) (c:O),(M.drop n.length)[j]?=some c->∃u,N[k+n.length+j]?=some u/\qe w S G Z c u:=by intro M N hz j c D;rw[qK]at D;obtain⟨u,m,x⟩:=hz (n.length+j) c D;exact⟨u,by rwa [show k+(n.length+j)=k+n.length+j by omega]at m,x⟩
    have ih:=YV w d s t Q (k+n.length) l _ _ r2 h2 e2 (pT I s hx) (pT J t hy);cases r1<;>simp[Op.eqFields,o.2,Y1,Y2,hrun,ih]
  ·cases g
theorem n9{t:TypeId}{g:List Nat}{xs ys:zb}{r:Bool}{u v:Value}(b:E9 P t=some g)(z:wU g xs ys=some r)(A:qe w S G Z (.agg xs) u)(B:qe w S G Z (.agg ys) v) :
  (Op.equal t u v).run P w=.ok r w/\∀(op:BinOp) (x y:Operand),(eqGuard op t x y u v).run P w=.ok () w:=by
 obtain⟨e,rfl,i,k⟩:=A.Q5;obtain⟨f,rfl,l,m⟩:=B.Q5;unfold E9 at b;split at b
 ·cases b
 ·rename_i C;have n:P.stoodInHeld t=false:=by cases h:P.stoodInHeld t<;>simp_all
  have o:P.eqGuardType P.depth t=false:=by cases h:P.eqGuardType P.depth t<;>simp_all
  split at b
  ·rename_i q s;have c:P.fieldsOf t=q:=by simp[Program.fieldsOf,s]
   constructor
   ·unfold Op.equal Op.maxDepth;rw[show(10000:Nat)=9999+1 from rfl,run_equalIn_struct w 9999 t e f (by rw[c];exact s) n,c];exact YV w 9997 e f q.toList 0 g xs ys r b z
     (fun j p d=>by
      have a:j<e.size:=by rw[<-i];exact(zi.1 d).1
      exact⟨e[j],by simp[a],k j p _ d (by simp[a])⟩)
     (fun j p d=>by
      have a:j<f.size:=by rw[<-l];exact(zi.1 d).1
      exact⟨f[j],by simp[a],m j p _ d (by simp[a])⟩)
   ·intro op x y;unfold eqGuard;cases op<;>simp[o]
  ·cases b
theorem hV{t:TypeId}(a b:Bool)(c:P.underlying t=some .bool)(w:World):(Op.equal t (.bool a) (.bool b)).run P w=.ok (a==b) w:=by
 have h:∀d:Nat,(Op.equalIn (d+1) t (.bool a) (.bool b)).run P w=.ok (a==b) w:=fun d=>by simp only[Op.equalIn,vS,zz c,kA,Wn]
 exact h 9999
theorem oa{t e:TypeId}(A:Option Addr)(n c:Nat)(a:P.underlying t=some (.slice e))(w:World):(Op.equal t (.slice A n c) (.slice none 0 0)).run P w=.ok A.isNone w:=by
 have h:∀d:Nat,(Op.equalIn (d+1) t (.slice A n c) (.slice none 0 0)).run P w=.ok A.isNone w:=fun d=>by cases A<;>simp only[Op.equalIn,vS,zz a,kA,Wn]<;>rfl
 exact h 9999
theorem ob{p:O}{u:Value}{r:Bool}(h:JS p=some r)(b:qe w S G Z p u):∃A n c,u=.slice A n c/\A.isNone=r:=by
 unfold JS at h;split at h
 ·injection h with h;subst h;exact⟨none,0,0,b.Zd,rfl⟩
 ·injection h with h;subst h;obtain⟨ad,cap,rfl,_⟩:=b.mL;exact⟨_,_,_,rfl,rfl⟩
 ·injection h with h;subst h;obtain⟨cap,_,_,_,_,rfl⟩:=b.vH;exact⟨_,_,_,rfl,rfl⟩
 ·rename_i s c es;injection h with h;subst h
  cases b.bg with
  |sl us d e f g i j=>
   rename_i A cap;cases A with
   |none=>have:=d rfl;subst this;simp at e
   |some a=>exact⟨_,_,_,rfl,rfl⟩
 ·cases h
theorem CQ(hi:Inv P w S G Y Z){op:BinOp}{t:TypeId}{p q x:O}{u v:Value}(B C:Operand)(h:ZV P op t p q=some x)(f:qe w S G Z p u)(g:qe w S G Z q v) :
  Qn dr P w Y Z S G x Y Z ((do eqGuard op t B C u v;binOp op t u v:Sem Value).run P w):=by
 unfold ZV at h;split at h
 ·rename_i k a H b;obtain⟨rfl,_⟩:=f.wX;obtain⟨rfl,_⟩:=g.wX;split at h
  ·rename_i D;subst D;obtain⟨r,rfl,j,l⟩:=LC (P:=P) h t w;exact qp (v:=r) hi (by simp[Yy (a:=.int k a) rfl (by simp) w,l]) (xD r j)
  ·cases h
 ·rename_i a b;obtain⟨rfl,_⟩:=f.wX;obtain⟨rfl,_⟩:=g.wX;obtain⟨r,rfl,j,l⟩:=LD (P:=P) h t w;exact qp (v:=r) hi (by simp[Yy (a:=.string a) rfl (by simp) w,l]) (xD r j)
 ·rename_i a b;obtain⟨rfl,_⟩:=f.wX;obtain⟨rfl,_⟩:=g.wX;split at h
  ·rename_i i;injection h with h
   subst h;refine qp (v:=.bool (a==b)) hi ?_ (xD _ rfl);simp only[vS,Yy (a:=.bool a) rfl (by simp) w,kA,binOp,hV a b i,Wn]
  ·rename_i i;injection h with h
   subst h;refine qp (v:=.bool (!(a==b))) hi ?_ (xD _ rfl);simp only[vS,Yy (a:=.bool a) rfl (by simp) w,kA,binOp,hV a b i,Wn]
  ·cases h
 ·rename_i xs ys;split at h
  ·rename_i y z;split at h
   ·cases d:wU y xs ys with
    |none=>simp[d]at h
    |some r=>simp[d]at h;subst h;obtain⟨m,o⟩:=n9 z d f g;obtain⟨E,rfl,_,_⟩:=f.Q5;obtain⟨F,rfl,_,_⟩:=g.Q5;exact qp (v:=.bool r) hi (by simp[o,binOp,m]) (xD _ rfl)
   ·cases d:wU y xs ys with
    |none=>simp[d]at h
    |some r=>simp[d]at h;subst h;obtain⟨m,o⟩:=n9 z d f g;obtain⟨E,rfl,_,_⟩:=f.Q5;obtain⟨F,rfl,_,_⟩:=g.Q5;exact qp (v:=.bool !r) hi (by simp[o,binOp,m]) (xD _ rfl)
   ·cases h
  ·cases h
 ·have:=g.Zd;subst this;split at h
  ·rename_i e r d s;injection h with h
   subst h;obtain⟨A,n,c,rfl,rfl⟩:=ob s f;refine qp (v:=.bool A.isNone) hi ?_ (xD _ rfl);simp only[vS,eqGuard,binOp,oa A n c (kW d),Wn,kA];simp
  ·rename_i e r d s;injection h with h
   subst h;obtain⟨A,n,c,rfl,rfl⟩:=ob s f;refine qp (v:=.bool !A.isNone) hi ?_ (xD _ rfl);simp only[vS,eqGuard,binOp,oa A n c (kW d),Wn,kA];simp
  ·cases h
 ·cases h
theorem Gx(hi:Inv P w S G Y Z){op:BinOp}{t:TypeId}{p q x:O}{u v:Value}(f a:Operand)(h:K6 (TC a) P op t p q=some x)(g:qe w S G Z p u)(i:qe w S G Z q v) :
  Qn dr P w Y Z S G x Y Z ((do eqGuard op t f a u v;binOp op t u v:Sem Value).run P w):=by
 unfold K6 at h;split at h
 ·rename_i k;obtain⟨rfl,_⟩:=g.wX;obtain⟨rfl,_⟩:=i.wX;obtain⟨c,rfl⟩:∃c,a=.const c:=by cases a<;>first|exact⟨_,rfl⟩|(simp[TC]at k)
  unfold Fa at h;split at h
  ·rename_i b;unfold CK at b;split at b
   ·rename_i l e;have j:(Op.equal t .nilIface .nilIface).run P w=.ok true w:=by
     have h:∀d:Nat,(Op.equalIn (d+1) t .nilIface .nilIface).run P w=.ok true w:=fun d=>by simp only[Op.equalIn,vS,zz e,kA,Wn]
     exact h 9999
    split at h
    ·injection h with h;subst h;refine qp (v:=.bool true) hi ?_ (xD _ rfl);simp[eqGuard,binOp,j,Result.andThen]
    ·injection h with h;subst h;refine qp (v:=.bool false) hi ?_ (xD _ rfl);simp[eqGuard,binOp,j,Result.andThen]
    ·cases h
   ·cases b
  ·cases h
 ·exact CQ hi f a h g i
theorem Gy(hi:Inv P w S G Y Z){op:UnOp}{p x:O}{u:Value}(h:Pu op p=some x)(a:qe w S G Z p u):Qn dr P w Y Z S G x Y Z ((Op.unary op u).run P w):=by
 unfold Pu at h;split at h
 ·obtain⟨rfl,_⟩:=a.wX;split at h
  ·injection h with h;subst h;exact qp (v:=_) hi (by simp[Op.unary]) (xD _ rfl)
  ·cases h
 ·obtain⟨rfl,_⟩:=a.wX;split at h
  ·injection h with h;subst h;exact qp (v:=_) hi (by simp[Op.unary,Op.intArith]) (xD _ rfl)
  ·cases h
 ·cases h
theorem Gz(hi:Inv P w S G Y Z){a dst:TypeId}{p x:O}{u:Value}(h:XQ P a dst p=some x)(e:qe w S G Z p u):Qn dr P w Y Z S G x Y Z ((convert a dst u).run P w):=by
 unfold XQ at h;split at h
 ·obtain⟨rfl,_⟩:=e.wX;split at h
  ·rename_i d k b c;injection h with h
   subst h;exact qp (v:=_) hi (by simp[convert,zz b,zz c,Conv.intToInt]) (xD _ rfl)
  ·cases h
 ·obtain⟨rfl,_⟩:=e.wX;split at h
  ·rename_i d b c;injection h with h
   subst h;exact qp (v:=_) hi (by simp[convert,zz b,zz c]) (xD _ rfl)
  ·cases h
 ·cases h
end
end Go.AM
