/- Lemmas. -/
import Derived.Test.YtfanbcfchamfjaaGreatDoorG0
set_option maxRecDepth 8000
set_option maxHeartbeats 4000000
open Go Proofs Proofs.YtfanbcfchamfjaaGreatDoor Proofs.Tryz RowKit AM SpanLaw Q Zz
namespace Go.AM
variable{dr:Prop}
inductive O where
 |v (x:Value)
 |nil
 |agg (cs:List O)
 |qZ (cs:List O)
 |sl (s:Nat) (es:List (List O))
 |em
 |ptr (cs:List O)
 |own (id off n:Nat)
 |ref (id i j:Nat)
 |mp (id:Nat)
 |fn (f:Fn) (first captured:List O)
def lit:Value->Bool
 | .bool _|.int _ _|.string _|.nilFunc|.pointer none|.nilIface|.map none|.slice (some _) 0 0=>true
 |_=>false
def O.wY:O->Bool
 | .agg _|.qZ _=>false
 |_=>true
inductive wG (w:World) (S:Nat->Prop):O->Value->Prop
 |v {x:Value}:lit x=true->wG w S (.v x) x
 |nil:wG w S .nil (.slice none 0 0)
 |em {ad:Addr} {cap:Nat}:cap<=maxLen->wG w S .em (.slice (some ad) 0 cap)
 |agg {cs:List O} {us:Array Value}:cs.length=us.size->(∀(j:Nat) (pv:O) (u:Value),cs[j]?=some pv->us[j]?=some u->wG w S pv u)->wG w S (.agg cs) (.agg us)
 |qZ {cs:List O} {us:Array Value}:cs.length=us.size->(∀(j:Nat) (pv:O) (u:Value),cs[j]?=some pv->us[j]?=some u->wG w S pv u)->wG w S (.qZ cs) (.tuple us)
 |sl {es:List (List O)} {A:Option Addr} {cap s:Nat} (us:Nat->Nat->Value):(A=none->cap=0)->es.length<=cap->cap<=maxLen->(∀c∈es,c.length=s) ->
   (∀(i j:Nat) (c:List O) (pv:O),es[i]?=some c->c[j]?=some pv->∃ad,A=some ad/\S ad.block/\w.cell? (ad.add (i*s+j))=some (us i j)/\(us i j).oneCell'=true) ->
   (∀(i j:Nat) (c:List O) (pv:O),es[i]?=some c->c[j]?=some pv->wG w S pv (us i j))->wG w S (.sl s es) (.slice A es.length cap)
 |ptr {cs:List O} {ad:Addr} (us:Nat->Value):(∀(j:Nat) (pv:O),cs[j]?=some pv->S ad.block/\w.cell? (ad.add j)=some (us j)) ->
   (∀(j:Nat) (pv:O),cs[j]?=some pv->wG w S pv (us j))->wG w S (.ptr cs) (.pointer (some ad))
 |fn {f:Fn} {xs ys:List O} {us ts:Array Value}:xs.length=us.size->ys.length=ts.size->(∀(j:Nat) (pv:O) (u:Value),xs[j]?=some pv->us[j]?=some u->wG w S pv u) ->
   (∀(j:Nat) (pv:O) (u:Value),ys[j]?=some pv->ts[j]?=some u->wG w S pv u)->wG w S (.fn f xs ys) (.func f us ts)
structure GI where
 g:Nat
 z:Nat
 s:Nat
inductive qg (w:World) (S:Nat->Prop) (G:Nat->GI) (Z:Nat):O->Value->Prop
 |c {pv:O} {x:Value}:wG w S pv x->qg w S G Z pv x
 |own {id off n cap:Nat}:id<Z->n<=cap->cap<=maxLen->(off+cap)*(G id).s=(G id).z->0<(G id).s->qg w S G Z (.own id off n) (.slice (some ⟨(G id).g,off*(G id).s,none⟩) n cap)
 |ref {id i j:Nat}:id<Z->0<(G id).s->qg w S G Z (.ref id i j) (.pointer (some ⟨(G id).g,i*(G id).s+j,none⟩))
 |mp {id:Nat}:id<Z->(G id).s=0->qg w S G Z (.mp id) (.map (some (G id).g))
 |agg {cs:List O} {us:Array Value}:cs.length=us.size->(∀(j:Nat) (pv:O) (u:Value),cs[j]?=some pv->us[j]?=some u->qg w S G Z pv u)->qg w S G Z (.agg cs) (.agg us)
 |qZ {cs:List O} {us:Array Value}:cs.length=us.size->(∀(j:Nat) (pv:O) (u:Value),cs[j]?=some pv->us[j]?=some u->qg w S G Z pv u)->qg w S G Z (.qZ cs) (.tuple us)
 |fn {f:Fn} {xs ys:List O} {us ts:Array Value}:xs.length=us.size->ys.length=ts.size->(∀(j:Nat) (pv:O) (u:Value),xs[j]?=some pv->us[j]?=some u->qg w S G Z pv u) ->
   (∀(j:Nat) (pv:O) (u:Value),ys[j]?=some pv->ts[j]?=some u->qg w S G Z pv u)->qg w S G Z (.fn f xs ys) (.func f us ts)
theorem Qz(a:Addr)(n:Nat):(a.add n).block=a.block:=by unfold Addr.add;split<;>rfl
theorem aP(a:Addr)(i j:Nat):(a.add i).add j=a.add (i+j):=by unfold Addr.add;by_cases b:i=0<;>by_cases c:j=0<;>simp[b,c,ziT]
theorem wG.mono{w p:World}{S S':Nat->Prop}{d:O}{x:Value}(h:wG w S d x)(g:∀b,S b->S' b/\p.heap[b]?=w.heap[b]?):wG p S' d x:=by
 induction h with
 |v h=>exact .v h
 |nil=>exact .nil
 |em h=>exact .em h
 |agg k _ a=>exact .agg k a
 |qZ k _ a=>exact .qZ k a
 |sl us q f l r s _ a=>refine .sl us q f l r (fun i j c d t m=>?_) a;obtain⟨u,e,hs,n,o⟩:=s i j c d t m;refine⟨u,e,(g _ hs).1,?_,o⟩;rw[<-n];apply Vz;rw[Qz];exact(g _ hs).2
 |ptr us f _ a=>refine .ptr us (fun j d m=>?_) a;obtain⟨hs,n⟩:=f j d m;refine⟨(g _ hs).1,?_⟩;rw[<-n];apply Vz;rw[Qz];exact(g _ hs).2
 |fn f l _ _ y z=>exact .fn f l y z
theorem qg.mono{w i:World}{S S':Nat->Prop}{G G':Nat->GI}{Z Z':Nat}{j:O}{x:Value}(h:qg w S G Z j x)(m:∀b,S b->S' b/\i.heap[b]?=w.heap[b]?)
  (q:Z<=Z') (e:∀id,id<Z->G' id=G id):qg i S' G' Z' j x:=by
 induction h with
 |c h=>exact .c (h.mono m)
 |own d a n k l=>rw[<-e _ d]at k l⊢;exact .own (by omega) a n k l
 |ref d a=>rw[<-e _ d]at a⊢;exact .ref (by omega) a
 |mp d a=>rw[<-e _ d]at a⊢;exact .mp (by omega) a
 |agg f _ g=>exact .agg f g
 |qZ f _ g=>exact .qZ f g
 |fn d a _ _ o p=>exact .fn d a o p
theorem wG.Kk{w:World}{S:Nat->Prop}{a:O}{x:Value}(h:wG w S a x)(b:a.wY=true):x.oneCell'=true:=by
 cases h with
 |v h=>cases x<;>simp_all[lit,Value.oneCell']
 |agg=>simp[O.wY]at b
 |qZ=>simp[O.wY]at b
 |_=>rfl
theorem qg.Kk{w:World}{S:Nat->Prop}{G:Nat->GI}{Z:Nat}{b:O}{x:Value}(h:qg w S G Z b x)(a:b.wY=true):x.oneCell'=true:=by
 cases h with
 |c h=>exact h.Kk a
 |agg=>simp[O.wY]at a
 |qZ=>simp[O.wY]at a
 |_=>rfl
structure Blk where
 e:TypeId
 s:Nat
 arr:Bool
 es:List (List O)
abbrev Hp:=Nat->Option Blk
def zI{α:Type}(f:Nat->α)(k:Nat)(x:α):Nat->α:=fun i=>if i=k then x else f i
@[simp]theorem qU{α:Type}(f:Nat->α)(k:Nat)(x:α):zI f k x k=x:=by simp[zI]
theorem zc{α:Type}(f:Nat->α)(k i:Nat)(x:α)(h:i≠k):zI f k x i=f i:=by simp[zI,h]
def kF(w:World)(S:Nat->Prop)(G:Nat->GI)(Z:Nat)(a:Bool)(b:O)(u:Value):Prop:=
 (a=true->wG w S b u)/\qg w S G Z b u/\u.oneCell'=true
structure BN (P:Program) (w:World) (S:Nat->Prop) (G:Nat->GI) (Z:Nat) (gi:GI) (b:Blk):Prop where
 size:(P.info? b.e).map (·.size)=some gi.s
 len:∀c∈b.es,c.length=gi.s
 fit:b.es.length*gi.s<=gi.z
 row:∃cur:Array Value,w.heap[gi.g]?=some (.cells cur b.e (0,0))/\cur.size=gi.z /\
  ∀(i j:Nat) (c:List O) (pv:O),b.es[i]?=some c->c[j]?=some pv->∃u,cur[i*gi.s+j]?=some u/\kF w S G Z b.arr pv u
def cF(w:World)(S:Nat->Prop)(c:List O)(e:MapEntry):Prop:=∃(k:Value) (a:O),c=[.v k,a]/\e.key=k/\lit k=true/\wG w S a e.val
def Stamped(en:Array MapEntry)(a:Nat):Prop:=(∀x∈en.toList,x.born<a)/\(en.toList.map (·.born)).Nodup
structure zdG (w:World) (S:Nat->Prop) (gi:GI) (b:Blk):Prop where
 row:∃(en:Array MapEntry) (clock:Nat),w.heap[gi.g]?=some (.map en clock)/\en.size=b.es.length/\∀(i:Nat) (c:List O) (e:MapEntry),b.es[i]?=some c->en[i]?=some e->cF w S c e
 PR:∃(en:Array MapEntry) (clock:Nat),w.heap[gi.g]?=some (.map en clock)/\Stamped en clock
structure kb (P:Program) (w:World) (S:Nat->Prop) (G:Nat->GI) (Z:Nat) (gi:GI) (b:Blk):Prop where
 bs:b.s=gi.s
 cel:0<gi.s->BN P w S G Z gi b
 I4:gi.s=0->zdG w S gi b
theorem kb.size{P:Program}{w:World}{S:Nat->Prop}{G:Nat->GI}{Z:Nat}{a:GI}{b:Blk}(h:kb P w S G Z a b)(c:0<a.s):(P.info? b.e).map (·.size)=some a.s:=(h.cel c).size
theorem kb.len{P:Program}{w:World}{S:Nat->Prop}{G:Nat->GI}{Z:Nat}{a:GI}{b:Blk}(h:kb P w S G Z a b)(d:0<a.s):∀c∈b.es,c.length=a.s:=(h.cel d).len
theorem kb.fit{P:Program}{w:World}{S:Nat->Prop}{G:Nat->GI}{Z:Nat}{a:GI}{b:Blk}(h:kb P w S G Z a b)(c:0<a.s):b.es.length*a.s<=a.z:=(h.cel c).fit
theorem kb.row{P:Program}{w:World}{S:Nat->Prop}{G:Nat->GI}{Z:Nat}{a:GI}{b:Blk}(h:kb P w S G Z a b)(f:0<a.s):∃cur:Array Value,w.heap[a.g]?=some (.cells cur b.e (0,0))/\cur.size=a.z /\
  ∀(i j:Nat) (c:List O) (d:O),b.es[i]?=some c->c[j]?=some d->∃u,cur[i*a.s+j]?=some u/\kF w S G Z b.arr d u:=(h.cel f).row
theorem kb.kG{P:Program}{w:World}{S:Nat->Prop}{G:Nat->GI}{Z:Nat}{a:GI}{b:Blk}(d:0<a.s)(c:b.s=a.s)(h:BN P w S G Z a b):kb P w S G Z a b:=
 ⟨c,fun _=>h,fun e=>by omega⟩
def Ld(P:Program)(g:Nat):Prop:=g<P.globals.size/\∃zero t,((begin P (fun _ _=>0) default).world.heap[g]?).bind Obj.row?=some (zero,t)/\zero.size=1/\P.buildable t=true/\P.cellTypes P.depth t=some [t]/\P.underlying t=some (.int .i64)
def WQ:List (Nat×IntKind×List Int):=[]++[(1,.u64,Lib.pow10Tab)]
def tB(w:World)(S:Nat->Prop)(t:Nat×IntKind×List Int):Prop:=S t.1/\∃ty a,w.heap[t.1]?=some (.cells (t.2.2.map fun z=>Value.int t.2.1 z).toArray ty a)
def F6(P:Program)(w:World)(S:Nat->Prop):Prop:=(∀g,Ld P g->S g/\∃m,w.cell? ⟨g,0,none⟩=some (.int .i64 m))/\∀t∈WQ,tB w S t
theorem F6.mono{P:Program}{w e:World}{S S':Nat->Prop}(h:F6 P w S)(c:∀b,S b->S' b/\e.heap[b]?=w.heap[b]?):F6 P e S':=by
 refine⟨fun g f=>?_,fun t i=>?_⟩
 ·obtain⟨a,m,d⟩:=h.1 g f;refine⟨(c g a).1,m,?_⟩;rw[<-d];exact Vz (c g a).2
 ·obtain⟨a,ty,j,d⟩:=h.2 t i;exact⟨(c _ a).1,ty,j,(c _ a).2.trans d⟩
theorem EJ{w:World}{a:Addr}{v:Value}(h:w.cell? a=some v):a.block<w.heap.size:=by
 unfold World.cell? at h;split at h
 ·rename_i b;exact(zU.1 b).1
 ·cases h
theorem F6.PS{P:Program}{w:World}(h:w.ShapedOpen P)(j:∀t∈WQ,tB w (fun b=>b<w.heap.size) t):F6 P w (fun b=>b<w.heap.size):=by
 refine⟨?_,j⟩;rintro g ⟨k,zero,t,l,s,m,n,o⟩;obtain⟨cs,p,hs,q⟩:=h.1 g zero t k l;obtain⟨ts,d,_,e⟩:=q m;rw[n]at d;cases d;have i:0<cs.size:=by omega
 obtain⟨u,f,c⟩:=e 0 cs[0] (by simp[i]);have:u=t:=by simpa using f.symm
 subst this;have a:w.cell? ⟨g,0,none⟩=some cs[0]:=by simp[World.cell?,p,i]
 refine⟨EJ a,?_⟩;rw[a];unfold Cell.ok at c;rw[o]at c;cases r:cs[0]<;>rw[r]at c<;>simp_all
structure Inv (P:Program) (w:World) (S:Nat->Prop) (G:Nat->GI) (Y:Hp) (Z:Nat):Prop where
 st:∀b,S b->b<w.heap.size
 top:∀id b,Y id=some b->id<Z
 live:∀id b,Y id=some b->kb P w S G Z (G id) b
 apart:∀id b,Y id=some b->¬S (G id).g
 inj:∀id id' b b',Y id=some b->Y id'=some b'->(G id).g=(G id').g->id=id'
 aH:F6 P w S
theorem kb.lt{P:Program}{w:World}{S:Nat->Prop}{G:Nat->GI}{Z:Nat}{a:GI}{b:Blk}(h:kb P w S G Z a b):a.g<w.heap.size:=by
 rcases Nat.eq_zero_or_pos a.s with c|c
 ·obtain⟨en,d,e,_⟩:=(h.I4 c).row;exact(zU.1 e).1
 ·obtain⟨cur,e,_⟩:=h.row c;exact(zU.1 e).1
theorem kF.mono{w c:World}{S S':Nat->Prop}{G G':Nat->GI}{Z Z':Nat}{a:Bool}{d:O}{u:Value}(h:kF w S G Z a d u)(e:∀b,S b->S' b/\c.heap[b]?=w.heap[b]?)
  (f:Z<=Z') (g:∀id,id<Z->G' id=G id):kF c S' G' Z' a d u:=
 ⟨fun i=>(h.1 i).mono e,h.2.1.mono e f g,h.2.2⟩
theorem kb.mono{P:Program}{w n:World}{S S':Nat->Prop}{G G':Nat->GI}{Z Z':Nat}{m:GI}{b:Blk}(h:kb P w S G Z m b)(s:∀b,S b->S' b/\n.heap[b]?=w.heap[b]?)
  (t:Z<=Z') (v:∀id,id<Z->G' id=G id) (o:n.heap[m.g]?=w.heap[m.g]?):kb P n S' G' Z' m b:=by
 refine⟨h.bs,fun d=>⟨h.size d,h.len d,h.fit d,?_⟩,fun d=>⟨?_,?_⟩⟩
 ·obtain⟨cur,f,l,p⟩:=h.row d;refine⟨cur,o.trans f,l,fun i j c q r x=>?_⟩;obtain⟨u,y,z⟩:=p i j c q r x;exact⟨u,y,z.mono s t v⟩
 ·obtain⟨en,a,f,l,p⟩:=(h.I4 d).row;refine⟨en,a,o.trans f,l,fun i c e r A=>?_⟩;obtain⟨k,q,B,C,D,E⟩:=p i c e r A;exact⟨k,q,B,C,D,E.mono s⟩
 ·obtain⟨en,a,f,l⟩:=(h.I4 d).PR;exact⟨en,a,o.trans f,l⟩
structure Fr (dr:Prop) (w:World) (L:Nat->Prop) (w':World):Prop where
 os:w'.os=w.os
 tape:w'.tape=w.tape
 output:w'.output=w.output
 size:w.heap.size<=w'.heap.size
 drawn:dr->w.drawn<=w'.drawn
 block:∀k,k<w.heap.size->¬L k->w'.heap[k]?=w.heap[k]?
theorem Fr.refl(w:World)(L:Nat->Prop):Fr dr w L w:=⟨rfl,rfl,rfl,zk _,fun _=>zk _,fun _ _ _=>rfl⟩
theorem Fr.trans{w f c:World}{L:Nat->Prop}(h:Fr dr w L f){g:Nat->Prop}(a:Fr dr f g c)(j:∀b,b<w.heap.size->g b->L b):Fr dr w L c:=
 ⟨a.os.trans h.os,a.tape.trans h.tape,a.output.trans h.output,zM h.size a.size,fun d=>zM (h.drawn d) (a.drawn d),fun k e i=>(a.block k (wV e h.size) (fun l=>i (j k e l))).trans (h.block k e i)⟩
theorem Fr.lax{d:Prop}{w a:World}{L:Nat->Prop}(h:Fr d w L a)(hd:dr->d):Fr dr w L a:=⟨h.os,h.tape,h.output,h.size,fun e=>h.drawn (hd e),h.block⟩
theorem Fr.drew(w:World)(L:Nat->Prop):Fr dr w L w.drew:=⟨rfl,rfl,rfl,zk _,fun _=>yJ _,fun _ _ _=>rfl⟩
structure St where
 σ:Nat->O
 Y:Hp
 Z:Nat
def eU(D:Nat):Deferred:={target:=.collected D,args:=#[]}
def Marks(n0:Nat)(w:World)(S:Nat->Prop)(Y:Hp)(G:Nat->GI)(ds:List Deferred):Prop:=n0<=w.heap.size/\∃a:List Nat,ds=a.map eU/\a.Nodup/\∀D∈a,n0<=D/\w.heap[D]?=some (.deferred (some []))/\¬S D/\∀id b,Y id=some b->(G id).g≠D
theorem Marks.nil{n0:Nat}{w:World}{S:Nat->Prop}{Y:Hp}{G:Nat->GI}(h:n0<=w.heap.size):Marks n0 w S Y G []:=⟨h,[],rfl,by simp,by simp⟩
structure Qm (dr:Prop) (P:Program) (w0:World) (S0 L:Nat->Prop) (N Z0:Nat) (G0:Nat->GI) (n0:Nat) (st:St) (S:Nat->Prop) (G:Nat->GI) (a:Act) (w:World):Prop where
 inv:Inv P w S G st.Y st.Z
 vR:∀t,qg w S G st.Z (st.σ t) (a.tmps.getD t undef)
 size:a.tmps.size=N
 defers:Marks n0 w S st.Y G a.defers
 s0:∀b,S0 b->S b
 s1:∀b,S b->S0 b\/L b\/w0.heap.size<=b
 own:∀id b,st.Y id=some b->L (G id).g\/w0.heap.size<=(G id).g
 fr:Fr dr w0 L w
 up:Z0<=st.Z
 loc:∀id,id<Z0->G id=G0 id
def fG(dr:Prop)(P:Program)(b:World)(c L:Nat->Prop)(N d:Nat)(e:Nat->GI)(n0:Nat)(st:St)(a:Act)(w:World):Prop:=∃S G,Qm dr P b c L N d e n0 st S G a w
theorem yn{α:Type}{x:Option α}{a b:α}(h:x=some a)(e:a=b:=by kernel_rfl):x=some b:=h.trans (jy some e)
theorem yb{α:Sort _}(a:α):∃x,a=x:=⟨_,rfl⟩
theorem Xo{a:Int}(h:¬a=0):(a != 0)=true:=by simpa using h
theorem QA{α:Type}[BEq α][LawfulBEq α]{a b:α}(h:¬a=b):(a==b)=false:=by simpa using h
abbrev zb:=List O
abbrev Spec:=zb->Hp->Nat->Option (O×Hp×Nat)
abbrev ZV:=zb->Hp->Option (zb×Hp)
structure Ctx where
 P:Program
 Γ:FuncId->Option Spec
 dyn:Nat->List (Tmp×Tmp):=fun _=>[]
 I5:Nat->List Tmp:=fun _=>[]
 bk:FuncId->Bool:=fun _=>false
 fz:Nat->List Tmp:=fun _=>[]
 it:FuncId->Option ZV:=fun _=>none
def pV(st:St)(a b:Tmp):Prop:=∀id i j,st.σ a=.ref id i j->∃id' i' j' blk,st.σ b=.ref id' i' j'/\id≠id'/\st.Y id'=some blk/\blk.arr=false
def ZW(D:List (Tmp×Tmp))(st:St):Prop:=∀p∈D,pV st p.1 p.2
def O.Wt:O->Bool
 | .v _|.nil|.em|.sl _ _|.ptr _=>true
 |_=>false
def O.shut:O->Bool
 | .agg cs=>cs.all O.Wt
 |x=>x.Wt
def O.Yk:O->Bool
 | .qZ _=>true
 |x=>x.shut
abbrev zB:Nat:=1000000
def zaG(L:List Tmp)(st:St):Prop:=∀s∈L,(∀id o n,st.σ s≠.own id o n)/\∀id i j,st.σ s=.ref id i j->id<st.Z/\∃blk,st.Y id=some blk/\blk.arr=false
def ZX(L:List Tmp)(st:St):Prop:=∀s∈L,((∀id o n,st.σ s≠.own id o n)/\∀id i j,st.σ s=.ref id i j->id<st.Z/\∃blk,st.Y id=some blk/\blk.arr=false)/\(zB<=s->(st.σ (s-zB)).Yk=true)
def cG:Value->Option O
 | .slice none 0 0=>some .nil
 | .bool b=>some (.v (.bool b))
 | .int k n=>some (.v (.int k n))
 | .string s=>some (.v (.string s))
 | .nilFunc=>some (.v .nilFunc)
 | .pointer none=>some (.v (.pointer none))
 | .nilIface=>some (.v .nilIface)
 | .map none=>some (.v (.map none))
 |_=>none
def kG:List Value->Option zb
 |[]=>some []
 |x::l=>match cG x,kG l with
  |some p,some r=>some (p::r)
  |_,_=>none
def fI:Value->Option O
 | .agg cs=>(kG cs.toList).map .agg
 |x=>cG x
def get(σ:Nat->O):Operand->Option O
 | .tmp t=>some (σ t)
 | .const x=>fI x
 | .func f=>some (.fn (.func f) [] [])
 | .global _=>none
def qN(P:Program)(t:TypeId):Option Nat:=(P.info? t).map (·.size)
def vi(P:Program)(t:TypeId):Option Nat:=(P.info? t).map (·.bytes)
def jk(P:Program)(t:TypeId):Option zb:=((P.info? t).bind (·.zero)).bind fun z=>kG z.cells.toList
def ya(P:Program)(t:TypeId):Option Bool:=(P.underlying t).map fun
 | .struct _|.array _ _=>true
 |_=>false
def yq(P:Program)(t:TypeId):Option TypeId:=match P.underlying t with
 |some (.slice e)=>some e
 |_=>none
def qF(P:Program)(t:TypeId)(f:Nat):Option (Nat×Nat×Bool):=match P.underlying t with
 |some (.struct b)=>match b[f]? with
  |some x=>match qN P x.type,ya P x.type with
   |some n,some a=>some (x.offset,n,a)
   |_,_=>none
  |none=>none
 |_=>none
def O.cells:O->zb
 | .agg cs=>cs
 |x=>[x]
def qG(P:Program)(t:TypeId)(cs:zb):Option O:=
 match ya P t,qN P t with
 |some true,some n=>if n<=cs.length then some (.agg (cs.take n))else none
 |some false,some _=>cs[0]?
 |_,_=>none
def O.jz:O->Bool
 | .own _ _ _=>true
 |_=>false
def O.noOwn:O->Bool
 | .agg cs=>!cs.any O.jz
 | .own _ _ _=>false
 |_=>true
def qn(Y:Hp):O->Option (O×Hp)
 | .own id off n=>match Y id with
  |some b=>if b.arr=true/\off+n<=b.es.length then some (.sl b.s ((b.es.drop off).take n),zI Y id none)else none
  |none=>none
 | .v x=>some (.v x,Y)
 | .nil=>some (.nil,Y)
 | .sl s es=>some (.sl s es,Y)
 | .em=>some (.em,Y)
 | .ptr cs=>some (.ptr cs,Y)
 | .fn f xs ys=>if xs.all O.shut=true/\ys.all O.shut=true then some (.fn f xs ys,Y)else none
 |_=>none
def qm(Y:Hp):zb->Option (zb×Hp)
 |[]=>some ([],Y)
 |x::l=>match qn Y x with
  |some (y,Y1)=>match qm Y1 l with
   |some (r,Y2)=>some (y::r,Y2)
   |none=>none
  |none=>none
def z7(Y:Hp):O->Option (O×Hp)
 | .agg cs=>match qm Y cs with
  |some (l,h)=>some (.agg l,h)
  |none=>none
 |x=>qn Y x
def zz(Y:Hp):zb->Option (zb×Hp)
 |[]=>some ([],Y)
 |x::l=>match z7 Y x with
  |some (y,Y1)=>match zz Y1 l with
   |some (r,Y2)=>some (y::r,Y2)
   |none=>none
  |none=>none
def freeze(Y:Hp):O->Option (O×Hp)
 | .qZ cs=>match zz Y cs with
  |some (l,h)=>some (.qZ l,h)
  |none=>none
 |x=>z7 Y x
def view(Y:Hp)(n:Nat):O->Option (List zb)
 | .nil=>some []
 | .em=>some []
 | .sl s es=>if s=n then some es else none
 | .own id off k=>match Y id with
  |some b=>if b.arr=true/\b.s=n/\off+k<=b.es.length then some ((b.es.drop off).take k)else none
  |none=>none
 |_=>none
def eV(op:BinOp)(k:IntKind)(a b:Int):Option O:=
 match op with
 | .add=>some (.v (.int k (k.wrap (a+b))))
 | .sub=>some (.v (.int k (k.wrap (a-b))))
 | .mul=>some (.v (.int k (k.wrap (a*b))))
 | .quo=>if b=0 then none else some (.v (.int k (k.wrap (a.tdiv b))))
 | .rem=>if b=0 then none else some (.v (.int k (a.tmod b)))
 | .eql=>some (.v (.bool (a==b)))
 | .neq=>some (.v (.bool (a != b)))
 | .lss=>some (.v (.bool (decide (a<b))))
 | .leq=>some (.v (.bool (decide (a<=b))))
 | .gtr=>some (.v (.bool (decide (a>b))))
 | .geq=>some (.v (.bool (decide (a>=b))))
 | .and=>some (.v (.int k (k.wrap (BitVec.ofInt k.bits a &&& BitVec.ofInt k.bits b).toNat)))
 | .or=>some (.v (.int k (k.wrap (BitVec.ofInt k.bits a||| BitVec.ofInt k.bits b).toNat)))
 | .xor=>some (.v (.int k (k.wrap (BitVec.ofInt k.bits a ^^^ BitVec.ofInt k.bits b).toNat)))
 | .andNot=>some (.v (.int k (k.wrap (BitVec.ofInt k.bits a &&& ~~~ BitVec.ofInt k.bits b).toNat)))
 | .shr=>if b<0 then none else some (.v (.int k (a.fdiv (2 ^ (min b.toNat k.bits)))))
 | .shl=>if b<0 then none else some (.v (.int k (k.wrap (a*2 ^ (min b.toNat k.bits)))))
def Le(op:BinOp)(a b:ByteArray):Option O:=
 match op with
 | .add=>if a.size+b.size<=maxLen then some (.v (.string (a++b)))else none
 | .eql=>some (.v (.bool (a.toList==b.toList)))
 | .neq=>some (.v (.bool (!(a.toList==b.toList))))
 | .lss=>some (.v (.bool (Op.bytesLess a.toList b.toList)))
 | .leq=>some (.v (.bool (Op.bytesLess a.toList b.toList||a.toList==b.toList)))
 | .gtr=>some (.v (.bool (!(Op.bytesLess a.toList b.toList||a.toList==b.toList))))
 | .geq=>some (.v (.bool (!(Op.bytesLess a.toList b.toList))))
 |_=>none
def wS:List Nat->zb->zb->Option Bool
 |[],_,_=>some true
 | 0::c,.v (.int k a)::xs,.v (.int d b)::ys=>if k=d then(wS c xs ys).map ((a==b)&&·)else none
 | 1::c,.v (.bool a)::xs,.v (.bool b)::ys=>(wS c xs ys).map ((a==b)&&·)
 | 2::c,.v (.string a)::xs,.v (.string b)::ys=>(wS c xs ys).map ((a==b)&&·)
 |_,_,_=>none
def Gf(P:Program)(t:TypeId):Option Nat:=match P.underlying t with
 |some (.int _)=>some 0
 |some .bool=>some 1
 |some .string=>some 2
 |_=>none
def nW(P:Program):Nat->List Field->Option (List Nat)
 |_,[]=>some []
 |i,f::a=>if f.offset=i/\f.name≠ "_" then match Gf P f.type,nW P (i+1) a with
   |some k,some b=>some (k::b)
   |_,_=>none
  else none
def subA(P:Program)(t:TypeId):Option (List Nat):=if P.stoodInHeld t=true then none else match P.underlying t with
 |some (.struct b)=>match nW P 0 b.toList with
  |some a=>if qN P t=some a.length then some a else none
  |none=>none
 |_=>none
def nX(P:Program):Nat->List Field->Option (List Nat)
 |_,[]=>some []
 |i,f::b=>if f.offset=i/\f.name≠ "_" then match Gf P f.type with
   |some k=>match nX P (i+1) b with
    |some a=>some (k::a)
    |none=>none
   |none=>match subA P f.type with
    |some c=>match nX P (i+c.length) b with
     |some a=>some (c++a)
     |none=>none
    |none=>none
  else none
def nY(P:Program)(t:TypeId):Option (List Nat):=
 if P.stoodInHeld t=true\/P.eqGuardType P.depth t=true then none else
 match P.underlying t with
 |some (.struct a)=>nX P 0 a.toList
 |_=>none
def cH:O->Option Bool
 | .nil=>some true
 | .em=>some false
 | .own _ _ _=>some false
 | .sl _ (_::_)=>some false
 |_=>none
def Qq(P:Program)(op:BinOp)(t:TypeId):O->O->Option O
 | .v (.int k a),.v (.int d b)=>if k=d then eV op k a b else none
 | .v (.string a),.v (.string b)=>Le op a b
 | .v (.bool a),.v (.bool b)=>match op,P.underlying t with
  | .eql,some .bool=>some (.v (.bool (a==b)))
  | .neq,some .bool=>some (.v (.bool (!(a==b))))
  |_,_=>none
 | .agg xs,.agg ys=>match nY P t with
  |some c=>match op with
   | .eql=>(wS c xs ys).map fun r=>.v (.bool r)
   | .neq=>(wS c xs ys).map fun r=>.v (.bool !r)
   |_=>none
  |none=>none
 |p,.nil=>match yq P t,cH p,op with
  |some _,some r,.eql=>some (.v (.bool r))
  |some _,some r,.neq=>some (.v (.bool !r))
  |_,_,_=>none
 |_,_=>none
def Cm(P:Program)(t:TypeId):Bool:=match P.underlying t with
 |some (.interface _)=>true
 |_=>false
def isK:Operand->Bool
 | .const _=>true
 |_=>false
def EK(P:Program)(op:BinOp)(t:TypeId):Option O:=if Cm P t=true then match op with
 | .eql=>some (.v (.bool true))
 | .neq=>some (.v (.bool false))
 |_=>none
 else none
def KI(c:Bool)(P:Program)(op:BinOp)(t:TypeId)(p q:O):Option O:=match c,q,p with
 |true,.v .nilIface,.v .nilIface=>EK P op t
 |_,q,p=>Qq P op t p q
@[simp]theorem zeJ(P:Program)(op:BinOp)(t:TypeId)(p q:O):KI false P op t p q=Qq P op t p q:=rfl
@[simp]theorem zhb(t:Tmp):isK (.tmp t)=false:=rfl
@[simp]theorem zdJ(v:Value):isK (.const v)=true:=rfl
@[simp]theorem zeK(f:FuncId):isK (.func f)=false:=rfl
@[simp]theorem zeL(c:Bool)(P:Program)(op:BinOp)(t:TypeId)(p:O)(k:IntKind)(n:Int):KI c P op t p (.v (.int k n))=Qq P op t p (.v (.int k n)):=by cases c<;>rfl
@[simp]theorem zeM(c:Bool)(P:Program)(op:BinOp)(t:TypeId)(p:O)(s:ByteArray):KI c P op t p (.v (.string s))=Qq P op t p (.v (.string s)):=by cases c<;>rfl
@[simp]theorem zdK(c:Bool)(P:Program)(op:BinOp)(t:TypeId)(p:O)(b:Bool):KI c P op t p (.v (.bool b))=Qq P op t p (.v (.bool b)):=by cases c<;>rfl
@[simp]theorem zeN(c:Bool)(P:Program)(op:BinOp)(t:TypeId)(p:O):KI c P op t p .nil=Qq P op t p .nil:=by cases c<;>rfl
@[simp]theorem zdL(P:Program)(op:BinOp)(t:TypeId):KI true P op t (.v .nilIface) (.v .nilIface)=EK P op t:=rfl
def Ri(op:UnOp):O->Option O
 | .v (.bool b)=>match op with
  | .not=>some (.v (.bool !b))
  |_=>none
 | .v (.int k n)=>match op with
  | .neg=>some (.v (.int k (k.wrap (0-n))))
  |_=>none
 |_=>none
def Xq(P:Program)(a dst:TypeId):O->Option O
 | .v (.int _ n)=>match P.underlying a,P.underlying dst with
  |some _,some (.int k)=>some (.v (.int k (k.wrap n)))
  |_,_=>none
 | .v (.string s)=>match P.underlying a,P.underlying dst with
  |some _,some .string=>some (.v (.string s))
  |_,_=>none
 |_=>none
def jZ(a:Nat):Option (Option O)->Option Nat
 |none=>some a
 |some (some (.v (.int _ i)))=>if 0<=i then some i.toNat else none
 |_=>none
def y8(P:Program)(Y:Hp)(t:TypeId)(x:O)(lo a:Option (Option O)):Option O:=
 match P.underlying t,x with
 |some .string,.v (.string s)=>match jZ 0 lo,jZ s.size a with
  |some l,some h=>if l<=h/\h<=s.size then some (.v (.string (s.extract l h)))else none
  |_,_=>none
 |some (.slice e),.sl s es=>match qN P e,jZ 0 lo,jZ es.length a with
  |some n,some l,some h=>if s=n/\l<=h/\h<=es.length then some (.sl s ((es.drop l).take (h-l)))else none
  |_,_,_=>none
 |some (.slice e),.nil=>match qN P e,jZ 0 lo,jZ 0 a with
  |some _,some l,some h=>if l=0/\h=0 then some .nil else none
  |_,_,_=>none
 |some (.slice e),.own id off n=>match qN P e,jZ 0 lo,jZ n a with
  |some m,some l,some h=>match Y id with
   |some b=>if b.s=m/\l<=h/\h<=n then some (if l=0 then .own id off h else if h=l then .sl m []else .own id (off+l) (h-l))else none
   |none=>none
  |_,_,_=>none
 |_,_=>none
def VG(k:IntKind)(x:Int):zb->Option O
 |[]=>some (.v (.int k x))
 | .v (.int a y)::l=>if k=a then VG k (if y<x then y else x) l else none
 |_=>none
def Lf:zb->Option O
 | .v (.int k x)::l=>VG k x l
 |_=>none
def VH(k:IntKind)(x:Int):zb->Option O
 |[]=>some (.v (.int k x))
 | .v (.int a y)::l=>if k=a then VH k (if y>x then y else x) l else none
 |_=>none
def Lg:zb->Option O
 | .v (.int k x)::l=>VH k x l
 |_=>none
def KJ(P:Program)(t:TypeId):O->Option O
 | .v (.string s)=>match P.underlying t with
  |some .string=>some (.v (.int .i64 s.size))
  |_=>none
 | .v (.slice (some _) 0 0)=>(yq P t).map fun _=>.v (.int .i64 0)
 | .sl _ es=>(yq P t).map fun _=>.v (.int .i64 es.length)
 | .nil=>(yq P t).map fun _=>.v (.int .i64 0)
 | .em=>(yq P t).map fun _=>.v (.int .i64 0)
 | .own _ _ n=>(yq P t).map fun _=>.v (.int .i64 n)
 |_=>none
def yP(cs:zb)(off:Nat):zb->zb
 |[]=>cs
 |x::l=>yP (cs.set off x) (off+1) l
def qJ(a:Nat->Option (Nat×Nat))(cs:zb):List (Nat×O)->Option zb
 |[]=>some cs
 |(i,x)::rest=>match a i with
  |some (off,n)=>if x.cells.length=n/\off+n<=cs.length/\x.cells.all O.wY=true then qJ a (yP cs off x.cells) rest else none
  |none=>none
def wK{α:Type}:List (Option α)->Option (List α)
 |[]=>some []
 |some x::l=>(wK l).map (x::·)
 |none::_=>none
def kY(a:Operand->Option O):List (Nat×Operand)->Option (List (Nat×O))
 |[]=>some []
 |(i,x)::l=>match a x,kY a l with
  |some p,some r=>some ((i,p)::r)
  |_,_=>none
def jV(P:Program)(t:TypeId):Option (List (Nat×Nat)):=match P.underlying t with
 |some (.struct a)=>a.toList.mapM (fun f=>(P.info? f.type).map fun i=>(f.offset,i.size))
 |_=>none
def qi(P:Program)(t:TypeId)(a:List (Nat×O)):Option O:=
 match jV P t,jk P t with
 |some b,some z=>(qJ (fun i=>b[i]?) z a).map .agg
 |none,some z=>match P.underlying t with
  |some (.array _ e)=>match qN P e with
   |some n=>(qJ (fun i=>some (i*n,n)) z a).map .agg
   |none=>none
  |_=>none
 |_,_=>none
def zw(Y:Hp):List (Nat×O)->Option (List (Nat×O)×Hp)
 |[]=>some ([],Y)
 |(i,x)::l=>match z7 Y x with
  |some (y,Y1)=>match zw Y1 l with
   |some (r,Y2)=>some ((i,y)::r,Y2)
   |none=>none
  |none=>none
def zR(n:Nat)(es:List zb):List (Nat×O)->Option (List zb)
 |[]=>some es
 |(i,x)::l=>if x.cells.length=n/\i<es.length/\x.cells.all O.wY=true then zR n (es.set i x.cells) l else none
def zy(P:Program)(Y:Hp)(Z:Nat)(t:TypeId)(len:Nat)(a:List (Nat×O)):Option (O×Hp×Nat):=
 match yq P t with
 |some e=>match qN P e,jk P e,zw Y a with
  |some n,some z,some (b,Y1)=>if 0<n/\z.length=n/\len*n<=16777216 then
    match zR n (List.replicate len z) b with
    |some es=>some (.own Z 0 len,zI Y1 Z (some ⟨e,n,true,es⟩),Z+1)
    |none=>none
   else none
  |_,_,_=>none
 |none=>none
def WR(P:Program)(Y:Hp)(Z:Nat)(t:TypeId):O->O->Option (O×Hp×Nat)
 | .v (.int _ l),.v (.int _ c)=>match yq P t with
  |some e=>match qN P e,vi P e,jk P e with
   |some n,some a,some z=>if 0<n/\z.length=n/\0<=l/\l<=c/\c.toNat<=maxLen/\c.toNat*a<=140737488355328 then
     some (.own Z 0 l.toNat,zI Y Z (some ⟨e,n,true,List.replicate l.toNat z⟩),Z+1)
    else none
   |_,_,_=>none
  |none=>none
 |_,_=>none
def Lh(P:Program)(u:TypeId):Bool:=match P.underlying u with
 |some .string=>true
 |_=>false
def tC(P:Program)(e:TypeId):Bool:=match P.info? e with
 |some i=>match i.zero with
  |some (.int .u8 z)=>z==0&&i.size==1&&i.bytes==1
  |_=>false
 |none=>false
def gw(P:Program)(Y:Hp)(n:Nat)(e t u:TypeId):O->Option (List zb)
 | .v (.string b)=>if Lh P u=true/\tC P e=true then some (b.data.toList.map fun c=>[.v (.int .u8 c.toNat)])else none
 |x=>if u=t then view Y n x else none
def jG(P:Program)(Y:Hp)(Z:Nat)(t u:TypeId)(s x:O):Option (O×Hp×Nat):=
 match yq P t with
 |some e=>match qN P e,vi P e,jk P e with
  |some n,some a,some z=>match gw P Y n e t u x with
   |some xs=>match s with
    | .nil=>
     if 0<n/\z.length=n/\xs.length<=maxLen/\xs.length*a<=140737488355328 then
      if xs.length=0 then some (.nil,Y,Z)
      else some (.own Z 0 xs.length,zI Y Z (some ⟨e,n,true,xs⟩),Z+1)
     else none
    | .own id 0 k=>match Y id with
     |some b=>if b.arr=true/\b.e=e/\k=b.es.length/\0<n/\z.length=n/\k+xs.length<=maxLen/\(k+xs.length)*a<=140737488355328 then
       some (.own Z 0 (k+xs.length),zI (zI Y id none) Z (some ⟨e,n,true,b.es++xs⟩),Z+1)
      else none
     |none=>none
    |_=>none
   |none=>none
  |_,_,_=>none
 |none=>none
def EL(P:Program)(Y:Hp)(Z:Nat)(t:TypeId)(d x:O):Option (O×Hp×Nat):=
 match yq P t,d with
 |some e,.own id off k=>match Y id,qN P e with
  |some b,some n=>match view Y n x with
   |some xs=>if b.arr=true/\b.e=e/\off+k<=b.es.length/\0<n then
     some (.v (.int .i64 (min xs.length k:Nat)),zI Y id (some ⟨b.e,b.s,true,b.es.take off++xs.take (min xs.length k)++b.es.drop (off+min xs.length k)⟩),Z)
    else none
   |none=>none
  |_,_=>none
 |_,_=>none
def KK(P:Program)(Y:Hp)(Z:Nat)(t:TypeId)(x:O):Option (O×Hp×Nat):=
 match yq P t,x with
 |some e,.own id off k=>match Y id,qN P e,jk P e with
  |some b,some n,some z=>if(0<n/\z.length=n)/\b.arr=true/\b.e=e/\off+k<=b.es.length/\0<k then
    some (.qZ [],zI Y id (some ⟨b.e,b.s,true,b.es.take off++List.replicate k z++b.es.drop (off+k)⟩),Z)
   else none
  |_,_,_=>none
 |_,_=>none
def xc(P:Program)(Y:Hp)(t:TypeId):O->Option O
 | .ptr cs=>qG P t cs
 | .ref id i j=>match Y id with
  |some b=>match b.es[i]? with
   |some c=>qG P t (c.drop j)
   |none=>none
  |none=>none
 |_=>none
def xp(P:Program)(Y:Hp)(t:TypeId)(a x:O):Option Hp:=
 match a with
 | .ref id i j=>match Y id with
  |some d=>match(if d.arr=true then z7 Y x else some (x,Y))with
   |some (y,Y1)=>match Y1 id,qN P t with
    |some b,some n=>match b.es[i]? with
     |some c=>if y.cells.length=n/\j+n<=c.length/\y.cells.all O.wY=true then
       some (zI Y1 id (some ⟨b.e,b.s,b.arr,b.es.set i (yP c j y.cells)⟩))else none
     |none=>none
    |_,_=>none
   |none=>none
  |none=>none
 |_=>none
def y9(P:Program)(t:TypeId)(f:Nat):O->Option O
 | .ptr cs=>match qF P t f with
  |some (o,n,_)=>if n=0 then none else some (.ptr (cs.drop o))
  |none=>none
 | .ref id i j=>match qF P t f with
  |some (o,n,_)=>if n=0 then none else some (.ref id i (j+o))
  |none=>none
 |_=>none
def vS(P:Program)(t:TypeId)(f:Nat):O->Option O
 | .agg cs=>match qF P t f with
  |some (o,n,true)=>if o+n<=cs.length then some (.agg ((cs.drop o).take n))else none
  |some (o,_,false)=>cs[o]?
  |none=>none
 |_=>none
def tD(P:Program)(t:TypeId):Option (Nat×TypeId):=match P.underlying t with
 |some (.array n e)=>some (n,e)
 |_=>none
def xJ(P:Program)(t:TypeId)(i:Int)(x:O):Option O:=
 match tD P t with
 |some (m,e)=>match qN P e with
  |some n=>if 0<=i/\i<m then match x with
    | .ptr cs=>some (.ptr (cs.drop (i.toNat*n)))
    | .ref id a b=>some (.ref id a (b+i.toNat*n))
    |_=>none
   else none
  |none=>none
 |none=>none
def qL(P:Program)(Y:Hp)(t:TypeId):O->O->Option O
 |x,.v (.int _ i)=>match yq P t with
  |some e=>match qN P e,x with
   |some n,.sl s es=>if s=n/\0<n/\0<=i then(es[i.toNat]?).map .ptr else none
   |some n,.own id off k=>match Y id with
    |some b=>if b.e=e/\0<n/\0<=i/\i.toNat<k then some (.ref id (off+i.toNat) 0)else none
    |none=>none
   |_,_=>none
  |none=>xJ P t i x
 |_,_=>none
def QB(P:Program)(t:TypeId):O->O->Option O
 | .v (.string s),.v (.int _ i)=>match P.underlying t with
  |some .string=>if 0<=i then match s[i.toNat]? with
    |some b=>some (.v (.int .u8 b.toNat))
    |none=>none
   else none
  |_=>none
 |_,_=>none
def KL(P:Program)(t:TypeId):Option (Option IntKind×TypeId):=match P.underlying t with
 |some (.map b a)=>match P.underlying b with
  |some (.int k)=>some (some k,a)
  |some .string=>some (none,a)
  |_=>none
 |_=>none
def WS:Option IntKind->Value->Bool
 |some k,.int a _=>a==k
 |none,.string _=>true
 |_,_=>false
def xd:Value->Value->Option Bool
 | .int k a,.int c b=>if k=c then some (a==b)else none
 | .string a,.string b=>some (a.toList==b.toList)
 |_,_=>none
def xe(k:Value):List zb->Nat->Option (Option (Nat×O))
 |[],_=>some none
 |[.v a,v]::l,i=>match xd k a with
  |some true=>some (some (i,v))
  |some false=>xe k l (i+1)
  |none=>none
 |_::_,_=>none
def aQ(P:Program)(t:TypeId):Option O:=((P.info? t).bind (·.zero)).bind fI
def dU(Y:Hp):O->Option (List zb)
 | .mp id=>match Y id with
  |some b=>if b.s=0 then some b.es else none
  |none=>none
 | .v (.map none)=>some []
 |_=>none
def xf(P:Program)(Y:Hp)(t:TypeId)(x a:O)(b:Bool):Option O:=
 match KL P t,dU Y x,a with
 |some (c,d),some es,.v k=>if WS c k=true then match xe k es 0 with
   |some (some (_,v))=>some (if b=true then .qZ [v,.v (.bool true)]else v)
   |some none=>(aQ P d).map fun z=>if b=true then .qZ [z,.v (.bool false)]else z
   |none=>none
  else none
 |_,_,_=>none
def km(P:Program)(Y:Hp)(t:TypeId)(x a y:O):Option Hp:=
 match KL P t,x,a with
 |some (c,_),.mp id,.v k=>if WS c k=true then match z7 Y y with
   |some (z,Y1)=>match Y1 id with
    |some b=>if b.s=0 then match xe k b.es 0 with
      |some (some (i,_))=>some (zI Y1 id (some ⟨b.e,b.s,b.arr,b.es.set i [.v k,z]⟩))
      |some none=>some (zI Y1 id (some ⟨b.e,b.s,b.arr,b.es++[[.v k,z]]⟩))
      |none=>none
     else none
    |none=>none
   |none=>none
  else none
 |_,_,_=>none
def yr(P:Program)(Y:Hp)(Z:Nat)(ts:Array TypeId)(b:Builtin)(xs:zb):Option (O×Hp×Nat):=
 match b with
 | .len=>match xs,ts[0]? with
  |[x],some t=>(KJ P t x).map fun y=>(y,Y,Z)
  |_,_=>none
 | .min=>(Lf xs).map fun y=>(y,Y,Z)
 | .max=>(Lg xs).map fun y=>(y,Y,Z)
 | .append=>match xs,ts[0]?,ts[1]? with
  |[s,x],some t,some u=>jG P Y Z t u s x
  |_,_,_=>none
 | .copy=>match xs,ts[0]? with
  |[d,x],some t=>EL P Y Z t d x
  |_,_=>none
 | .clear=>match xs,ts[0]? with
  |[x],some t=>KK P Y Z t x
  |_,_=>none
 |_=>none
def jH(C:Ctx)(Y:Hp)(Z:Nat)(f:Option O)(xs:zb):Option (O×Hp×Nat):=
 match f with
 |some (.fn (.func g) first a)=>match C.Γ g with
  |some b=>b (first++xs++a) Y Z
  |none=>none
 |_=>none
def xq(C:Ctx)(a:Operand->Option O)(Y:Hp)(Z:Nat)(c:Call):Option (O×Hp×Nat):=
 match wK (c.args.toList.map a)with
 |some xs=>match c.callee with
  | .builtin b=>yr C.P Y Z c.argTypes b xs
  | .value f=>jH C Y Z (a f) xs
  | .invoke _ _=>none
 |none=>none
def zS(C:Ctx)(d:Operand->Option O)(Y:Hp)(Z:Nat)(o:Op):Option (O×Hp×Nat):=
 match o with
 | .move x=>(d x).map fun y=>(y,Y,Z)
 | .assign x=>(d x).map fun y=>(y,Y,Z)
 | .pick c a b=>match d c with
  |some (.v (.bool true))=>(d a).map fun y=>(y,Y,Z)
  |some (.v (.bool false))=>(d b).map fun y=>(y,Y,Z)
  |_=>none
 | .alloc t=>match qN C.P t,jk C.P t with
  |some n,some z=>if 0<n/\z.length=n then some (.ref Z 0 0,zI Y Z (some ⟨t,n,false,[z]⟩),Z+1)else none
  |_,_=>none
 | .box t x=>match qN C.P t,d x with
  |some n,some y=>if 0<n/\y.cells.length=n/\y.cells.all O.wY=true then some (.ref Z 0 0,zI Y Z (some ⟨t,n,false,[y.cells]⟩),Z+1)else none
  |_,_=>none
 | .build t e=>match kY d e.toList with
  |some s=>(qi C.P t s).map fun y=>(y,Y,Z)
  |none=>none
 | .buildSlice t len e=>match kY d e.toList with
  |some s=>zy C.P Y Z t len s
  |none=>none
 | .load t a=>match d a with
  |some p=>(xc C.P Y t p).map fun y=>(y,Y,Z)
  |none=>none
 | .store t a x=>match d a,d x with
  |some p,some y=>(xp C.P Y t p y).map fun h=>(.qZ [],h,Z)
  |_,_=>none
 | .nilCheck x=>match d x with
  |some (.ref id i j)=>some (.ref id i j,Y,Z)
  |some (.ptr cs)=>some (.ptr cs,Y,Z)
  |_=>none
 | .binOp op t x y _=>match d x,d y with
  |some p,some q=>(KI (isK y) C.P op t p q).map fun r=>(r,Y,Z)
  |_,_=>none
 | .unOp op _ x=>match d x with
  |some p=>(Ri op p).map fun r=>(r,Y,Z)
  |none=>none
 | .convert u dst x=>match d x with
  |some p=>(Xq C.P u dst p).map fun r=>(r,Y,Z)
  |none=>none
 | .makeFunc f first g=>match wK (first.toList.map d),wK (g.toList.map d)with
  |some xs,some ys=>some (.fn f xs ys,Y,Z)
  |_,_=>none
 | .makeSlice t l c=>match d l,d c with
  |some p,some q=>WR C.P Y Z t p q
  |_,_=>none
 | .slice t x lo w none=>match d x with
  |some p=>(y8 C.P Y t p (lo.map d) (w.map d)).map fun r=>(r,Y,Z)
  |none=>none
 | .fieldAddr t x f=>match d x with
  |some p=>(y9 C.P t f p).map fun r=>(r,Y,Z)
  |none=>none
 | .field t x f=>match d x with
  |some p=>(vS C.P t f p).map fun r=>(r,Y,Z)
  |none=>none
 | .indexAddr t x i=>match d x,d i with
  |some p,some q=>(qL C.P Y t p q).map fun r=>(r,Y,Z)
  |_,_=>none
 | .index t x i=>match d x,d i with
  |some p,some q=>(QB C.P t p q).map fun r=>(r,Y,Z)
  |_,_=>none
 | .extract x i=>match d x with
  |some (.qZ vs)=>(vs[i]?).map fun r=>(r,Y,Z)
  |_=>none
 | .call c=>xq C d Y Z c
 | .makeMap t none=>match KL C.P t with
  |some _=>some (.mp Z,zI Y Z (some ⟨t,0,false,[]⟩),Z+1)
  |none=>none
 | .lookup t x i A=>match d x,d i with
  |some p,some q=>(xf C.P Y t p q A).map fun r=>(r,Y,Z)
  |_,_=>none
 | .mapUpdate t m k x=>match d m,d k,d x with
  |some p,some q,some y=>(km C.P Y t p q y).map fun h=>(.qZ [],h,Z)
  |_,_,_=>none
 | .insert t m k x=>match d m,d k,d x with
  |some p,some q,some y=>(km C.P Y t p q y).map fun h=>(.qZ [],h,Z)
  |_,_,_=>none
 |_=>none
def put(σ:Nat->O)(dst:Option Tmp)(x:O):Nat->O:=
 match dst with
 |some d=>zI σ d x
 |none=>σ
def xr(a:Array Oper)(σ:Nat->O)(j:Nat):Option Bool:=
 match(a[j]?).bind (·.dst)with
 |some d=>match σ d with
  | .v (.bool b)=>some b
  |_=>none
 |none=>none
def yQ(C:Ctx)(a:Array Oper)(o:Oper)(st:St):Option St:=
 if Region.wanted o (xr a st.σ)=true then
  match zS C (get st.σ) st.Y st.Z o.op with
  |some (x,Y,Z)=>some ⟨put st.σ o.dst x,Y,Z⟩
  |none=>none
 else some ⟨put st.σ o.dst (.qZ []),st.Y,st.Z⟩
def vP(C:Ctx)(a:Array Oper):List Oper->St->Option St
 |[],st=>some st
 |o::l,st=>match yQ C a o st with
  |some b=>vP C a l b
  |none=>none
def iter(f:St->Option (Exit×St)):Nat->St->Option (Exit×St)
 | 0,_=>none
 |n+1,st=>match f st with
  |some (.normal,a)=>iter f n a
  |r=>r
open Classical in
noncomputable def Xr (f:St->Option (Exit×St)) (st:St):Option (Exit×St):=
 if h:∃n,(iter f n st).isSome=true then iter f (Classical.choose h) st else none
def tc:List Tmp->St->Option St
 |[],st=>some st
 |t::l,st=>match z7 st.Y (st.σ t)with
  |some (y,Y1)=>tc l ⟨zI st.σ t y,Y1,st.Z⟩
  |none=>none
def Jz(b c:St->Option (Exit×St))(σ:Nat->O)(p:Tmp):zb->Hp->Nat->Option (Exit×Hp×Nat)
 |[],Y,Z=>some (.normal,Y,Z)
 |x::xs,Y,Z=>match b ⟨zI σ p x,Y,Z⟩with
  |some (.normal,d)=>match c d with
   |some (.normal,a)=>Jz b c σ p xs a.Y a.Z
   |some (.ret,a)=>some (.ret,a.Y,a.Z)
   |some (.exit i,a)=>some (.exit i,a.Y,a.Z)
   |_=>none
  |_=>none
open Classical in
noncomputable def qX (C:Ctx):Code->St->Option (Exit×St)
 | .skip,st=>some (.normal,st)
 | .region id j _,k=>match tc (C.fz id) k with
  |some st=>if ZW (C.dyn id) st/\ZX (C.I5 id) st then match vP C j j.toList st with
   |some d=>some (.normal,d)
   |none=>none
   else none
  |none=>none
 | .seq a b,st=>match qX C a st with
  |some (.normal,d)=>qX C b d
  |r=>r
 | .cond c x y,st=>match get st.σ c with
  |some (.v (.bool true))=>qX C x st
  |some (.v (.bool false))=>qX C y st
  |_=>none
 | .block id h,st=>match qX C h st with
  |some (.exit i,d)=>if i=id then some (.normal,d)else some (.exit i,d)
  |r=>r
 | .loop h,st=>Xr (qX C h) st
 | .exit id,st=>some (.exit id,st)
 | .ret,st=>some (.ret,st)
 | .label _,st=>some (.normal,st)
 | .rangeFunc f m a b,st=>match m.toList,get st.σ f with
  |[p],some (.fn (.func g) [] cap)=>match C.it g with
   |some it=>match it cap st.Y with
    |some (xs,Y1)=>match Jz (qX C a) (qX C b) st.σ p xs Y1 st.Z with
     |some (e,Y2,l)=>some (e,⟨st.σ,Y2,l⟩)
     |none=>none
    |none=>none
   |none=>none
  |_,_=>none
 |_,_=>none
def Wu(P:Program)(st:St):ResultVar->Option O
 | .tmp t=>some (st.σ t)
 | .cell a t=>xc P st.Y t (st.σ a)
def xt(P:Program)(fn:Func)(st:St):Option O:=
 match wK (fn.results.toList.map (Wu P st))with
 |some [x]=>some x
 |some xs=>some (.qZ xs)
 |none=>none
def kM(args:zb):Nat->O:=fun t=>(args[t]?).getD (.qZ [])
noncomputable def yR (C:Ctx) (fn:Func) (args:zb) (Y:Hp) (Z:Nat):Option (O×Hp×Nat):=
 match fn.body with
 |some code=>match qX C code ⟨kM args,Y,Z⟩with
  |some (.normal,st)=>(xt C.P fn st).map fun x=>(x,st.Y,st.Z)
  |some (.ret,st)=>(xt C.P fn st).map fun x=>(x,st.Y,st.Z)
  |_=>none
 |none=>none
noncomputable def zH (C:Ctx) (fn:Func) (args:zb):Option O:=
 match yR C fn args (fun _=>none) 0 with
 |some (x,Y,_)=>(freeze Y x).map (·.1)
 |none=>none
theorem nZ(f:St->Option (Exit×St)):∀(n k:Nat) (st:St) (r:Exit×St),iter f n st=some r->iter f (n+k) st=some r:=by
 intro n
 induction n with
 |zero=>intro k st r h;simp[iter]at h
 |succ n b=>
  intro k st r h;rw[show n+1+k=(n+k)+1 from by omega];simp only[iter]at h⊢;split at h
  ·rename_i a c;simp only[b k a r h]
  ·simpa using h
theorem YN{f:St->Option (Exit×St)}{n:Nat}{st:St}{r:Exit×St}(h:iter f n st=some r):Xr f st=some r:=by have c:∃n,(iter f n st).isSome=true:=⟨n,by simp[h]⟩;unfold Xr;rw[dif_pos c];have e:=yz c;obtain⟨g,d⟩:=Option.isSome_iff_exists.1 e;rw[d];have a:=nZ f _ (Classical.choose c) st r h;have b:=nZ f _ n st g d;rw[cz]at b;rw[a]at b;exact b.symm
theorem QM{f:St->Option (Exit×St)}{st:St}{r:Exit×St}(h:Xr f st=some r):∃n,iter f n st=some r:=by
 unfold Xr at h;split at h
 ·exact⟨_,h⟩
 ·cases h
theorem pW(f:St->Option (Exit×St))(st:St):Xr f st=match f st with
  |some (.normal,a)=>Xr f a
  |r=>r:=by
 cases d:f st with
 |none=>
  simp only[];cases c:Xr f st with
  |none=>rfl
  |some r=>
   obtain⟨n,b⟩:=QM c;cases n with
   |zero=>simp[iter]at b
   |succ n=>simp[iter,d]at b
 |some p=>
  obtain⟨e,a⟩:=p;by_cases h:e=.normal
  ·subst h;simp only[];cases c:Xr f a with
   |some r=>obtain⟨n,b⟩:=QM c;exact YN (n:=n+1) (by simp[iter,d,b])
   |none=>
    cases g:Xr f st with
    |none=>rfl
    |some r=>
     obtain⟨n,b⟩:=QM g;cases n with
     |zero=>simp[iter]at b
     |succ n=>simp only[iter,d]at b;rw[YN b]at c;cases c
  ·have i:iter f 1 st=some (e,a):=by simp only[iter,d];cases e<;>simp_all
   rw[YN i];cases e<;>simp_all
variable{dr:Prop}
def jv(Y:Hp)(G:Nat->GI)(b:Nat):Prop:=∃id blk,Y id=some blk/\(G id).g=b
structure kd (dr:Prop) (P:Program) (Y:Hp) (Z:Nat) (S:Nat->Prop) (G:Nat->GI) (w:World) (Y':Hp) (Z':Nat) (S':Nat->Prop) (G':Nat->GI) (w':World):Prop where
 inv:Inv P w' S' G' Y' Z'
 up:Z<=Z'
 loc:∀id,id<Z->G' id=G id
 kO:∀b,S b->S' b
 from_:∀b,S' b->S b\/jv Y G b\/w.heap.size<=b
 own:∀id blk,Y' id=some blk->jv Y G (G' id).g\/w.heap.size<=(G' id).g
 fr:Fr dr w (jv Y G) w'
theorem kd.same{P:Program}{Y Y':Hp}{Z Z':Nat}{S S':Nat->Prop}{G G':Nat->GI}{w c:World}(h:kd dr P Y Z S G w Y' Z' S' G' c)(d:Inv P w S G Y Z) :
  ∀b,S b->S' b/\c.heap[b]?=w.heap[b]?:=fun b a=>
 ⟨h.kO b a,h.fr.block b (d.st b a) fun⟨id,blk,hid,e⟩=>d.apart id blk hid (e ▸ a)⟩
theorem kd.refl{P:Program}{Y:Hp}{Z:Nat}{S:Nat->Prop}{G:Nat->GI}{w:World}(h:Inv P w S G Y Z):kd dr P Y Z S G w Y Z S G w:=
 ⟨h,zk _,fun _ _=>rfl,fun _ h=>h,fun _ h=>.inl h,fun id blk a=>.inl ⟨id,blk,a,rfl⟩,Fr.refl _ _⟩
theorem kd.trans{P:Program}{Y Y' a:Hp}{Z Z' c:Nat}{S S' f:Nat->Prop}{G G' g:Nat->GI}{w l i:World}
  (h:kd dr P Y Z S G w Y' Z' S' G' l) (k:kd dr P Y' Z' S' G' l a c f g i):kd dr P Y Z S G w a c f g i:=by
 have j:∀b,jv Y' G' b->jv Y G b\/w.heap.size<=b:=by rintro b ⟨id,blk,h1,rfl⟩;exact h.own id blk h1
 refine⟨k.inv,zM h.up k.up,fun id hid=>(k.loc id (wV hid h.up)).trans (h.loc id hid),fun b d=>k.kO b (h.kO b d),fun b d=>?_,fun id blk d=>?_,?_⟩
 ·rcases k.from_ b d with h1|h1|h1
  ·exact h.from_ b h1
  ·rcases j b h1 with e|e
   ·exact .inr (.inl e)
   ·exact .inr (.inr e)
  ·exact .inr (.inr (zM h.fr.size h1))
 ·rcases k.own id blk d with h1|h1
  ·exact j _ h1
  ·exact .inr (zM h.fr.size h1)
 ·refine h.fr.trans k.fr fun b d h1=>?_
  rcases j b h1 with e|e
  ·exact e
  ·omega
theorem Inv.same{P:Program}{w c:World}{S:Nat->Prop}{G:Nat->GI}{Y:Hp}{Z:Nat}(h:Inv P w S G Y Z)(d:c.heap=w.heap):Inv P c S G Y Z:=by
 have e:∀b,S b->S b/\c.heap[b]?=w.heap[b]?:=fun b a=>⟨a,by rw[d]⟩
 exact⟨fun b a=>by rw[d];exact h.st b a,h.top,fun id b a=>(h.live id b a).mono e (zk _) (fun _ _=>rfl) (by rw[d]),h.apart,h.inj,h.aH.mono e⟩
theorem kd.drew{P:Program}{Y:Hp}{Z:Nat}{S:Nat->Prop}{G:Nat->GI}{w:World}(h:Inv P w S G Y Z):kd dr P Y Z S G w Y Z S G w.drew:=
 ⟨h.same rfl,zk _,fun _ _=>rfl,fun _ h=>h,fun _ h=>.inl h,fun id blk a=>.inl ⟨id,blk,a,rfl⟩,Fr.drew _ _⟩
theorem kd.alloc{P:Program}{Y:Hp}{Z:Nat}{S:Nat->Prop}{G:Nat->GI}{w:World}(h:Inv P w S G Y Z)(cur:Array Value)(e:TypeId)(p:Bool)(es:List zb)(s:Nat)(A:0<s)
  (B:(P.info? e).map (·.size)=some s) (t:∀c∈es,c.length=s) (v:es.length*s<=cur.size)
  (x:∀(i j:Nat) (c:zb) (y:O),es[i]?=some c->c[j]?=some y->∃u,cur[i*s+j]?=some u/\kF w S G Z p y u) :
  kd dr P Y Z S G w (zI Y Z (some ⟨e,s,p,es⟩)) (Z+1) S (zI G Z ⟨w.heap.size,cur.size,s⟩) (w.alloc (.cells cur e)):=by
 have l:∀b,b<w.heap.size->(w.alloc (.cells cur e)).heap[b]?=w.heap[b]?:=fun b a=>Below.heap_alloc w _ b a
 have C:∀b,S b->S b/\(w.alloc (.cells cur e)).heap[b]?=w.heap[b]?:=fun b a=>⟨a,l b (h.st b a)⟩
 have o:∀id,id<Z->zI G Z ⟨w.heap.size,cur.size,s⟩ id=G id:=fun id hid=>zc _ _ _ _ (by omega)
 have d:∀id,id≠Z->zI Y Z (some ⟨e,s,p,es⟩) id=Y id:=fun id hid=>zc _ _ _ _ hid
 have m:(w.alloc (.cells cur e)).heap.size=w.heap.size+1:=by show(w.heap.push _).size=_;simp
 have q:∀id b,Y id=some b->(G id).g<w.heap.size:=fun id b a=>(h.live id b a).lt
 refine⟨⟨fun b a=>by rw[m];have:=h.st b a;omega,fun id b a=>?_,fun id b a=>?_,fun id b a=>?_,fun id id' b z a f r=>?_,h.aH.mono C⟩,by omega,o,fun _ a=>a,fun _ a=>.inl a,fun id b a=>?_,⟨rfl,rfl,rfl,by rw[m];omega,fun _=>zk _,fun k D _=>l k D⟩⟩
 ·by_cases hid:id=Z
  ·omega
  ·rw[d id hid]at a;have:=h.top id b a;omega
 ·by_cases hid:id=Z
  ·subst hid;simp only[qU]at a⊢;injection a with a
   subst a;refine .kG A rfl ⟨B,t,v,cur,heap_alloc_new w _,rfl,fun i j c y E F=>?_⟩;obtain⟨u,H,I⟩:=x i j c y E F;exact⟨u,H,I.mono C (by omega) o⟩
  ·rw[d id hid]at a;have J:=h.top id b a;rw[o id J];exact(h.live id b a).mono C (by omega) o (l _ (q id b a))
 ·by_cases hid:id=Z
  ·subst hid;simp only[qU];intro hs;have:=h.st _ hs;omega
  ·rw[d id hid]at a;rw[o id (h.top id b a)];exact h.apart id b a
 ·by_cases hid:id=Z<;>by_cases n:id'=Z
  ·omega
  ·subst hid;rw[d id' n]at f;rw[o id' (h.top id' z f)]at r;have:=q id' z f;simp at r;omega
  ·subst n;rw[d id hid]at a;rw[o id (h.top id b a)]at r;have:=q id b a;simp at r;omega
  ·rw[d id hid]at a;rw[d id' n]at f;rw[o id (h.top id b a),o id' (h.top id' z f)]at r;exact h.inj id id' b z a f r
 ·by_cases hid:id=Z
  ·subst hid;simp
  ·rw[d id hid]at a;rw[o id (h.top id b a)];exact .inl ⟨id,b,a,rfl⟩
theorem kd.set{P:Program}{Y:Hp}{Z:Nat}{S:Nat->Prop}{G:Nat->GI}{w:World}(h:Inv P w S G Y Z){id:Nat}{b:Blk}(hid:Y id=some b)(n:0<(G id).s)(f:Array Value)(es:List zb)
  (F:f.size=(G id).z) (o:∀c∈es,c.length=(G id).s) (p:es.length*(G id).s<=(G id).z)
  (q:∀(i j:Nat) (c:zb) (t:O),es[i]?=some c->c[j]?=some t->∃u,f[i*(G id).s+j]?=some u/\kF w S G Z b.arr t u) :
  kd dr P Y Z S G w (zI Y id (some ⟨b.e,b.s,b.arr,es⟩)) Z S G (w.setRow (G id).g f):=by
 have l:∀k,k≠(G id).g->(w.setRow (G id).g f).heap[k]?=w.heap[k]?:=fun k d=>setRow_other w _ k _ d
 have v:∀b,S b->S b/\(w.setRow (G id).g f).heap[b]?=w.heap[b]?:=fun k d=>⟨d,l k fun e=>h.apart id b hid (e ▸ d)⟩
 have m:∀k,k≠id->zI Y id (some ⟨b.e,b.s,b.arr,es⟩) k=Y k:=fun k d=>zc _ _ _ _ d
 obtain⟨cur,r,H,_⟩:=(h.live id b hid).row n;refine⟨⟨fun k d=>by rw[setRow_size];exact h.st k d,fun k c d=>?_,fun k c d=>?_,fun k c d=>?_,fun k D c x d y I=>?_,h.aH.mono v⟩,zk _,fun _ _=>rfl,fun _ A=>A,fun _ A=>.inl A,fun k c d=>?_,⟨rfl,rfl,rfl,by simp,fun _=>zk _,fun k _ J=>l k fun e=>J ⟨id,b,hid,e.symm⟩⟩⟩
 ·by_cases a:k=id
  ·subst a;exact h.top _ b hid
  ·rw[m k a]at d;exact h.top k c d
 ·by_cases a:k=id
  ·subst a;simp only[qU]at d;injection d with d
   subst d;refine .kG n (h.live _ b hid).bs ⟨(h.live _ b hid).size n,o,p,f,setRow_heap w _ cur _ _ _ r,F,fun i j c t K L=>?_⟩;obtain⟨u,B,C⟩:=q i j c t K L;exact⟨u,B,C.mono v (zk _) (fun _ _=>rfl)⟩
  ·rw[m k a]at d;exact(h.live k c d).mono v (zk _) (fun _ _=>rfl) (l _ fun e=>a (h.inj k id c b d hid e))
 ·by_cases a:k=id
  ·subst a;exact h.apart _ b hid
  ·rw[m k a]at d;exact h.apart k c d
 ·have E:∀k c,zI Y id (some ⟨b.e,b.s,b.arr,es⟩) k=some c->∃x,Y k=some x:=by
   intro k c d;by_cases a:k=id
   ·subst a;exact⟨b,hid⟩
   ·rw[m k a]at d;exact⟨c,d⟩
  obtain⟨M,B⟩:=E k c d;obtain⟨N,C⟩:=E D x y;exact h.inj k D M N B C I
 ·by_cases a:k=id
  ·subst a;exact .inl ⟨_,b,hid,rfl⟩
  ·rw[m k a]at d;exact .inl ⟨k,c,d,rfl⟩
theorem kd.kill{P:Program}{Y:Hp}{Z:Nat}{S:Nat->Prop}{G:Nat->GI}{w:World}(h:Inv P w S G Y Z){id:Nat}{b:Blk}(hid:Y id=some b) :
  kd dr P Y Z S G w (zI Y id none) Z (fun k=>S k\/k=(G id).g) G w:=by
 have i:∀k,S k->(S k\/k=(G id).g)/\w.heap[k]?=w.heap[k]?:=fun k a=>⟨.inl a,rfl⟩
 have d:∀k c,zI Y id none k=some c->k≠id/\Y k=some c:=by
  intro k c a;by_cases e:k=id
  ·subst e;simp at a
  ·rw[zc _ _ _ _ e]at a;exact⟨e,a⟩
 refine⟨⟨fun k a=>?_,fun k c a=>h.top k c (d k c a).2,fun k c a=>(h.live k c (d k c a).2).mono i (zk _) (fun _ _=>rfl) rfl,fun k c a=>?_,fun k j c l a f he=>h.inj k j c l (d k c a).2 (d j l f).2 he,h.aH.mono i⟩,
  zk _,fun _ _=>rfl,fun _ m=>.inl m,fun k a=>?_,fun k c a=>.inl ⟨k,c,(d k c a).2,rfl⟩,Fr.refl _ _⟩
 ·rcases a with a|rfl
  ·exact h.st k a
  ·exact(h.live id b hid).lt
 ·rintro (hs|he)
  ·exact h.apart k c (d k c a).2 hs
  ·exact(d k c a).1 (h.inj k id c b (d k c a).2 hid he)
 ·rcases a with a|rfl
  ·exact .inl a
  ·exact .inr (.inl ⟨id,b,hid,rfl⟩)
theorem Cn{P:Program}{Y:Hp}{Z:Nat}{S:Nat->Prop}{G:Nat->GI}{w:World}(h:Inv P w S G Y Z){id off n cap:Nat}{b:Blk}(hid:Y id=some b)(o:0<(G id).s)(p:b.arr=true)(M:off+n<=b.es.length)
  (D:n<=cap) (q:cap<=maxLen) (S':Nat->Prop) (E:∀k,S k->S' k) (F:S' (G id).g) :
  wG w S' (.sl b.s ((b.es.drop off).take n)) (.slice (some ⟨(G id).g,off*(G id).s,none⟩) n cap):=by
 have z:=h.live id b hid;obtain⟨cur,H,N,I⟩:=z.row o;have J:((b.es.drop off).take n).length=n:=by simp;omega
 have r:∀(i:Nat) (c:zb),((b.es.drop off).take n)[i]?=some c->b.es[off+i]?=some c:=by
  intro i c a;rw[yu]at a;split at a
  ·rwa [yd]at a
  ·cases a
 have m:∀(i j:Nat),∃u,∀(c:zb) (d:O),((b.es.drop off).take n)[i]?=some c->c[j]?=some d->cur[(off+i)*(G id).s+j]?=some u/\kF w S G Z b.arr d u:=by
  intro i j;by_cases x:∃c d,((b.es.drop off).take n)[i]?=some c/\c[j]?=some d
  ·obtain⟨c,d,a,l⟩:=x;obtain⟨u,y,t⟩:=I (off+i) j c d (r i c a) l;refine⟨u,fun Q K e f=>?_⟩;rw[a]at e;injection e with e;subst e;rw[l]at f;injection f with f;subst f;exact⟨y,t⟩
  ·exact⟨undef,fun c d a l=>(x ⟨c,d,a,l⟩).elim⟩
 rw[z.bs];have A:wG w S' (.sl (G id).s ((b.es.drop off).take n)) (.slice (some ⟨(G id).g,off*(G id).s,none⟩) ((b.es.drop off).take n).length cap):=by
  refine .sl (s:=(G id).s) (fun i j=>Classical.choose (m i j)) (by simp) (by omega) q (fun c x=>z.len o c (fD _ _ (Kj _ _ x))) (fun i j c d a l=>?_) (fun i j c d a l=>?_)
  ·obtain⟨y,t⟩:=yz (m i j) c d a l;refine⟨_,rfl,F,?_,t.2.2⟩;have v:(⟨(G id).g,off*(G id).s,none⟩:Addr).add (i*(G id).s+j)=⟨(G id).g,(off+i)*(G id).s+j,none⟩:=by
    unfold Addr.add;split
    ·rename_i R;have B:i*(G id).s=0:=by omega
     have C:j=0:=by omega
     simp[yV,B,C]
    ·simp[yV];omega
   rw[v,cell_of_row w _ _ cur _ _ H];exact y
  ·obtain⟨y,t⟩:=yz (m i j) c d a l;exact(t.1 p).mono fun k L=>⟨E k L,rfl⟩
 rwa [J]at A
theorem Marks.step{P:Program}{n0:Nat}{Y Y':Hp}{Z Z':Nat}{S S':Nat->Prop}{G G':Nat->GI}{w i:World}{ds:List Deferred}(h:Marks n0 w S Y G ds)(k:kd dr P Y Z S G w Y' Z' S' G' i):Marks n0 i S' Y' G' ds:=by
 obtain⟨d,l,e,m,n⟩:=h;refine⟨zM d k.fr.size,l,e,m,fun D hd=>?_⟩;obtain⟨o,j,c,f⟩:=n D hd;have g:D<w.heap.size:=(zU.1 j).1;refine⟨o,(k.fr.block D g fun⟨id,b,a,e⟩=>f id b a e).trans j,fun hs=>?_,fun id b a e=>?_⟩
 ·rcases k.from_ D hs with h|⟨id,b,a,e⟩|h
  ·exact c h
  ·exact f id b a e
  ·omega
 rcases k.own id b a with⟨id',p,c,q⟩|c
 ·exact f id' p c (q.trans e)
 ·omega
theorem Qm.step{P:Program}{i:World}{l L:Nat->Prop}{N m:Nat}{n:Nat->GI}{n0:Nat}{st:St}{S S':Nat->Prop}{G G':Nat->GI}{a:Act}{w g:World}{Y':Hp}{Z':Nat}{x:O}{u:Value}{dst:Option Tmp}
  (h:Qm dr P i l L N m n n0 st S G a w) (k:kd dr P st.Y st.Z S G w Y' Z' S' G' g) (o:qg g S' G' Z' x u) (hd:∀d,dst=some d->d<N) :
  Qm dr P i l L N m n n0 ⟨put st.σ dst x,Y',Z'⟩ S' G' (a.put dst u) g:=by
 have p:=k.same h.inv;have j:∀b,jv st.Y G b->L b\/i.heap.size<=b:=by rintro b ⟨id,blk,h1,rfl⟩;exact h.own id blk h1
 refine⟨k.inv,fun t=>?_,?_,?_,fun b f=>k.kO b (h.s0 b f),fun b f=>?_,fun id blk f=>?_,?_,zM h.up k.up,fun id hid=>(k.loc id (wV hid h.up)).trans (h.loc id hid)⟩
 ·have c:qg g S' G' Z' (st.σ t) (a.tmps.getD t undef):=(h.vR t).mono p k.up k.loc;cases dst with
  |none=>exact c
  |some d=>
   show qg g S' G' Z' (zI st.σ d x t) ((a.tmps.setIfInBounds d u).getD t undef);by_cases e:t=d
   ·subst e;have:t<a.tmps.size:=by rw[h.size];exact hd t rfl
    simpa[zI,this]using o
   ·have q:¬d=t:=fun h=>e h.symm
    simp only[zI,e,qz];have:(a.tmps.setIfInBounds d u).getD t undef=a.tmps.getD t undef:=by simp[yi q]
    rw[this];exact c
 ·cases dst with
  |none=>exact h.size
  |some d=>show(a.tmps.setIfInBounds d u).size=N;simp[h.size]
 ·cases dst<;>exact h.defers.step k
 ·rcases k.from_ b f with h1|h1|h1
  ·exact h.s1 b h1
  ·rcases j b h1 with h2|h2
   ·exact .inr (.inl h2)
   ·exact .inr (.inr h2)
  ·exact .inr (.inr (zM h.fr.size h1))
 ·rcases k.own id blk f with h1|h1
  ·exact j _ h1
  ·exact .inr (zM h.fr.size h1)
 ·refine h.fr.trans k.fr fun b f h1=>?_
  rcases j b h1 with h2|h2
  ·exact h2
  ·omega
variable{dr:Prop}
section
variable{P:Program}{w:World}{S:Nat->Prop}{G:Nat->GI}{Y:Hp}{Z:Nat}
theorem wG.wZ{x u:Value}(h:wG w S (.v x) u):u=x/\lit x=true:=by cases h;exact⟨rfl,‹_›⟩
theorem qg.wZ{x u:Value}(h:qg w S G Z (.v x) u):u=x/\lit x=true:=by
 cases h with
 |c h=>exact h.wZ
theorem qg.xV{u:Value}(h:qg w S G Z .nil u):u=.slice none 0 0:=by
 cases h with
 |c h=>cases h;rfl
theorem qg.mZ{u:Value}(h:qg w S G Z .em u):∃a cap,u=.slice (some a) 0 cap/\cap<=maxLen:=by
 cases h with
 |c h=>cases h;exact⟨_,_,rfl,‹_›⟩
theorem qg.aI{s:Nat}{es:List zb}{u:Value}(h:qg w S G Z (.sl s es) u):wG w S (.sl s es) u:=by
 cases h with
 |c h=>exact h
theorem qg.Kl{cs:zb}{u:Value}(h:qg w S G Z (.ptr cs) u):wG w S (.ptr cs) u:=by
 cases h with
 |c h=>exact h
theorem qg.vO{id off n:Nat}{u:Value}(h:qg w S G Z (.own id off n) u):∃cap,id<Z/\n<=cap/\cap<=maxLen/\(off+cap)*(G id).s=(G id).z/\u=.slice (some ⟨(G id).g,off*(G id).s,none⟩) n cap:=by
 cases h with
 |c h=>cases h
 |own a b d e _=>exact⟨_,a,b,d,e,rfl⟩
theorem qg.xl{id off n:Nat}{u:Value}(h:qg w S G Z (.own id off n) u):0<(G id).s:=by
 cases h with
 |c h=>cases h
 |own _ _ _ _ a=>exact a
theorem qg.kW{id i j:Nat}{u:Value}(h:qg w S G Z (.ref id i j) u):id<Z/\u=.pointer (some ⟨(G id).g,i*(G id).s+j,none⟩):=by
 cases h with
 |c h=>cases h
 |ref a _=>exact⟨a,rfl⟩
theorem qg.Qn{id i j:Nat}{u:Value}(h:qg w S G Z (.ref id i j) u):0<(G id).s:=by
 cases h with
 |c h=>cases h
 |ref _ a=>exact a
theorem qg.PT{id:Nat}{u:Value}(h:qg w S G Z (.mp id) u):id<Z/\(G id).s=0/\u=.map (some (G id).g):=by
 cases h with
 |c h=>cases h
 |mp a b=>exact⟨a,b,rfl⟩
theorem qg.QU{cs:zb}{u:Value}(h:qg w S G Z (.agg cs) u):∃us:Array Value,u=.agg us/\cs.length=us.size/\∀(j:Nat) (d:O) (x:Value),cs[j]?=some d->us[j]?=some x->qg w S G Z d x:=by
 cases h with
 |c h=>cases h with
  |agg e f=>exact⟨_,rfl,e,fun j d x a b=>.c (f j d x a b)⟩
 |agg e f=>exact⟨_,rfl,e,f⟩
theorem qg.F7{cs:zb}{u:Value}(h:qg w S G Z (.qZ cs) u):∃us:Array Value,u=.tuple us/\cs.length=us.size/\∀(j:Nat) (d:O) (x:Value),cs[j]?=some d->us[j]?=some x->qg w S G Z d x:=by
 cases h with
 |c h=>cases h with
  |qZ e f=>exact⟨_,rfl,e,fun j d x a b=>.c (f j d x a b)⟩
 |qZ e f=>exact⟨_,rfl,e,f⟩
theorem qg.td{f:Fn}{xs ys:zb}{u:Value}(h:qg w S G Z (.fn f xs ys) u):∃us ts:Array Value,u=.func f us ts/\xs.length=us.size/\ys.length=ts.size /\
  (∀(j:Nat) (d:O) (x:Value),xs[j]?=some d->us[j]?=some x->qg w S G Z d x)/\∀(j:Nat) (d:O) (x:Value),ys[j]?=some d->ts[j]?=some x->qg w S G Z d x:=by
 cases h with
 |c h=>cases h with
  |fn e g i k=>exact⟨_,_,rfl,e,g,fun j d x a b=>.c (i j d x a b),fun j d x a b=>.c (k j d x a b)⟩
 |fn e g i k=>exact⟨_,_,rfl,e,g,i,k⟩
theorem kA:qg w S G Z (.qZ []) undef:=.c (.qZ rfl (by simp))
theorem gx{x:Value}{a:O}(h:cG x=some a):wG w S a x/\x.oneCell'=true/\a.wY=true:=by
 unfold cG at h;split at h<;>first
  |(injection h with h;subst h;exact⟨.nil,rfl,rfl⟩)
  |(injection h with h;subst h;exact⟨.v rfl,rfl,rfl⟩)
  |cases h
theorem kR:∀{l:List Value} {r:zb},kG l=some r->r.length=l.length/\(∀(j:Nat) (a:O) (u:Value),r[j]?=some a->l[j]?=some u->wG w S a u/\u.oneCell'=true/\a.wY=true)
 |[],r,h=>by simp[kG]at h;subst h;simp
 |x::l,r,h=>by
  simp only[kG]at h;split at h
  ·rename_i p q Y d;injection h with h
   subst h;obtain⟨e,f⟩:=kR d;refine⟨by simp[e],fun j a u b c=>?_⟩;cases j with
   |zero=>simp at b c;subst b;subst c;exact gx Y
   |succ j=>exact f j a u (by simpa using b) (by simpa using c)
  ·cases h
theorem dV{x:Value}{a:O}(h:fI x=some a):wG w S a x:=by
 unfold fI at h;split at h
 ·rename_i cs;cases b:kG cs.toList with
  |none=>simp[b]at h
  |some r=>simp[b]at h;subst h;obtain⟨c,d⟩:=kR (w:=w) (S:=S) b;exact .agg (by simpa using c) (fun j a u e f=>(d j a u e (by simpa using f)).1)
 ·exact(gx h).1
theorem Yp{σ:Nat->O}{a:Act}(hs:∀t,qg w S G Z (σ t) (a.tmps.getD t undef)){y:Operand}{b:O}(h:get σ y=some b):qg w S G Z b (a.eval y):=by
 cases y with
 |tmp t=>simp[get]at h;subst h;exact hs t
 |const x=>exact .c (dV h)
 |global g=>simp[get]at h
 |func f=>simp[get]at h;subst h;exact .c (.fn rfl rfl (by simp) (by simp))
theorem cI{y:O}{u:Value}(h:qg w S G Z y u)(a:y.cells.all O.wY=true):y.cells.length=u.cells.size/\∀(j:Nat) (d:O) (c:Value),y.cells[j]?=some d->u.cells[j]?=some c->qg w S G Z d c/\c.oneCell'=true:=by
 by_cases e:∃cs,y=.agg cs
 ·obtain⟨cs,rfl⟩:=e;obtain⟨us,rfl,k,l⟩:=h.QU;refine⟨k,fun j d c b f=>?_⟩;have g:=l j d c b f;refine⟨g,g.Kk ?_⟩;simp only[O.cells]at a b;exact zP.1 a d (zE b)
 ·have m:y.cells=[y]:=by cases y<;>first|rfl|exact(e ⟨_,rfl⟩).elim
  rw[m]at a⊢;have n:y.wY=true:=by simpa using a
  have i:=h.Kk n;have f:u.cells=#[u]:=by cases u<;>first|rfl|simp[Value.oneCell']at i
  rw[f];refine⟨rfl,fun j d c b a=>?_⟩;cases j with
  |zero=>simp at b a;subst b;subst a;exact⟨h,i⟩
  |succ j=>simp at b
def Qo(dr:Prop)(P:Program)(w:World)(Y:Hp)(Z:Nat)(S:Nat->Prop)(G:Nat->GI)(x:O)(Y':Hp)(Z':Nat)(r:Result Value):Prop:=
 ∃v a S' G',r=.ok v a/\kd dr P Y Z S G w Y' Z' S' G' a/\qg a S' G' Z' x v
theorem qv(a:Inv P w S G Y Z){x:O}{v:Value}{r:Result Value}(b:r=.ok v w)(c:qg w S G Z x v):Qo dr P w Y Z S G x Y Z r:=⟨v,w,S,G,b,.refl a,c⟩
theorem pX{t:TypeId}{n:Nat}(h:qN P t=some n):∃i,P.info? t=some i/\i.size=n:=by
 unfold qN at h;cases a:P.info? t with
 |none=>simp[a]at h
 |some i=>exact⟨i,rfl,by simpa[a]using h⟩
theorem yw{t:TypeId}{n:Nat}(h:qN P t=some n)(w:World):(sizeOf t).run P w=.ok n w:=by obtain⟨i,a,rfl⟩:=pX h;simp[sizeOf,typeInfo,a]
theorem vT{t:TypeId}{b:Bool}(h:ya P t=some b)(w:World):(isAgg t).run P w=.ok b w:=by
 unfold ya at h;cases a:P.underlying t with
 |none=>simp[a]at h
 |some d=>simp[a]at h;subst h;unfold isAgg;rw[vr,zK a w];cases d<;>rfl
theorem JA{t:TypeId}{z:zb}(h:jk P t=some z):∃i v,P.info? t=some i/\i.zero=some v/\kG v.cells.toList=some z:=by
 unfold jk at h;cases a:P.info? t with
 |none=>simp[a]at h
 |some i=>
  cases b:i.zero with
  |none=>simp[a,b]at h
  |some v=>exact⟨i,v,rfl,b,by simpa[a,b]using h⟩
theorem QN{t:TypeId}{i:TypeInfo}{v:Value}(a:P.info? t=some i)(b:i.zero=some v)(w:World):(zeroValue t).run P w=.ok v w:=by simp[zeroValue,typeInfo,a,b]
theorem Co(a:Inv P w S G Y Z){t:TypeId}{n:Nat}{z:zb}(hs:qN P t=some n)(o:jk P t=some z)(g:0<n)(e:z.length=n) :
  Qo dr P w Y Z S G (.ref Z 0 0) (zI Y Z (some ⟨t,n,false,[z]⟩)) (Z+1) ((Instr.alloc t true (.tuple #[])).run P w):=by
 obtain⟨i,v,p,q,r⟩:=JA o;obtain⟨s,u⟩:=kR (w:=w) (S:=S) r;have f:(P.info? t).map (·.size)=some n:=hs;have b:v.cells.size=n:=by rw[<-e,s];simp
 have k:=kd.alloc (dr:=dr) a v.cells t false [z] n g f (by simp[e]) (by simp[b]) (fun i j c x a l=>by
  cases i with
  |succ i=>simp at a
  |zero=>
   simp at a;subst a;have d:j<v.cells.size:=by rw[b,<-e];exact(zd.1 l).1
   refine⟨v.cells[j],by simp[d],?_⟩;have m:=u j x v.cells[j] l (by simp[d]);exact⟨fun h=>(by cases h),.c m.1,m.2.1⟩)
 refine⟨.pointer (some ⟨w.heap.size,0,none⟩),_,_,_,?_,k,?_⟩
 ·simp[Instr.alloc,QN p q,newVar,newRow]
 ·have:=qg.ref (w:=w.alloc (.cells v.cells t)) (S:=S) (G:=zI G Z ⟨w.heap.size,v.cells.size,n⟩) (Z:=Z+1) (id:=Z) (i:=0) (j:=0) (by omega) (by simpa using g);simpa using this
theorem Li(a:Inv P w S G Y Z){t:TypeId}{n:Nat}{y:O}{u:Value}(hs:qN P t=some n)(o:qg w S G Z y u)(e:0<n)(f:y.cells.length=n)(p:y.cells.all O.wY=true) :
  Qo dr P w Y Z S G (.ref Z 0 0) (zI Y Z (some ⟨t,n,false,[y.cells]⟩)) (Z+1) ((Instr.box t u).run P w):=by
 obtain⟨g,q⟩:=cI o p;have d:u.cells.size=n:=by rw[<-g,f]
 have k:=kd.alloc (dr:=dr) a u.cells t false [y.cells] n e hs (by simp[f]) (by simp[d]) (fun i j c r a l=>by
  cases i with
  |succ i=>simp at a
  |zero=>
   simp at a;subst a;have b:j<u.cells.size:=by rw[<-g];exact(zd.1 l).1
   refine⟨u.cells[j],by simp[b],?_⟩;have m:=q j r u.cells[j] l (by simp[b]);exact⟨fun h=>(by cases h),m.1,m.2⟩)
 refine⟨.pointer (some ⟨w.heap.size,0,none⟩),_,_,_,?_,k,?_⟩
 ·simp[Instr.box,newVar,newRow]
 ·have:=qg.ref (w:=w.alloc (.cells u.cells t)) (S:=S) (G:=zI G Z ⟨w.heap.size,u.cells.size,n⟩) (Z:=Z+1) (id:=Z) (i:=0) (j:=0) (by omega) (by simpa using e);simpa using this
theorem VI{t:TypeId}{cs:zb}{x:O}(h:qG P t cs=some x)(c:Addr)(us:Nat->Value)(e:∀(j:Nat) (d:O),cs[j]?=some d->w.cell? (c.add j)=some (us j)/\qg w S G Z d (us j)) :
  ∃v,(loadVar t c).run P w=.ok v w/\qg w S G Z x v:=by
 unfold qG at h;split at h
 ·rename_i n f hs;split at h
  ·rename_i i;injection h with h
   subst h;have k:(loadCells c n).run P w=.ok ((List.range n).map us).toArray w:=by
    have:=run_loadCells_list (P:=P) w c ((List.range n).map us) (fun j v a=>by
     have b:j<n:=by simpa using(zd.1 a).1
     have Y:=e j (cs[j]'(by omega)) (zm (by omega));rw[Y.1];rw[qq,xG b]at a;simpa using a)
    simpa using this
   refine⟨.agg ((List.range n).map us).toArray,?_,.agg ?_ ?_⟩
   ·simp[loadVar,vT f,yw hs,k]
   ·simp;omega
   ·intro j d u a g;rw[yu]at a;split at a
    ·rename_i b;have:=(e j d a).2;simp[b]at g;rwa [<-g]
    ·cases a
  ·cases h
 ·rename_i n f hs;have:=e 0 x h;refine⟨us 0,?_,this.2⟩;have l:c.add 0=c:=rfl;rw[l]at this;simp[loadVar,vT f,this.1]
 ·cases h
theorem n9(f:Inv P w S G Y Z){t:TypeId}{p x:O}{u:Value}(h:xc P Y t p=some x)(Y':qg w S G Z p u):Qo dr P w Y Z S G x Y Z ((Instr.loadAt t u).run P w):=by
 unfold xc at h;split at h
 ·rename_i cs;cases Y'.Kl with
  |ptr us l q=>obtain⟨v,m,n⟩:=VI (G:=G) (Z:=Z) (w:=w) (S:=S) h _ us (fun j d r=>⟨(l j d r).2,.c (q j d r)⟩);exact qv f (v:=v) (by simp[Instr.loadAt,Instr.sureAddr,m]) n
 ·rename_i id i j;have o:=Y'.Qn;obtain⟨hid,rfl⟩:=Y'.kW;split at h
  ·rename_i b z;split at h
   ·rename_i c A;obtain⟨cur,l,q,B⟩:=(f.live id b z).row o;have a:∀k:Nat,w.cell? ((⟨(G id).g,i*(G id).s+j,none⟩:Addr).add k)=cur[i*(G id).s+j+k]?:=by intro k;rw[Xk,cell_of_row w _ _ cur _ _ l]
    obtain⟨v,m,n⟩:=VI (G:=G) (Z:=Z) (w:=w) (S:=S) h ⟨(G id).g,i*(G id).s+j,none⟩ (fun k=>(cur[i*(G id).s+j+k]?).getD undef) (fun k d y=>by
     rw[yd]at y;obtain⟨u,C,D⟩:=B i (j+k) c d A y;rw[a];have e:i*(G id).s+j+k=i*(G id).s+(j+k):=by omega
     rw[e,C];exact⟨rfl,D.2.1⟩)
    exact qv f (v:=v) (by simp[Instr.loadAt,Instr.sureAddr,m]) n
   ·cases h
  ·cases h
 ·cases h
end
variable{dr:Prop}
section
variable{P:Program}{w:World}{S:Nat->Prop}{G:Nat->GI}{Y:Hp}{Z:Nat}
def Zip{α a:Type}(R:α->a->Prop)(xs:List α)(us:List a):Prop:=xs.length=us.length/\∀(j:Nat) (x:α) (u:a),xs[j]?=some x->us[j]?=some u->R x u
theorem Zip.nil{α a:Type}{R:α->a->Prop}:Zip R [] ([]:List a):=⟨rfl,by simp⟩
theorem Zip.cons{α a:Type}{R:α->a->Prop}{x:α}{u:a}{xs:List α}{us:List a}(h:R x u)(t:Zip R xs us):Zip R (x::xs) (u::us):=by
 refine⟨by simp[t.1],fun j y v b c=>?_⟩;cases j with
 |zero=>simp at b c;subst b;subst c;exact h
 |succ j=>exact t.2 j y v (by simpa using b) (by simpa using c)
theorem Zip.jr{α b:Type}{R:α->b->Prop}{x:α}{xs:List α}{us:List b}(h:Zip R (x::xs) us):∃u a,us=u::a/\R x u/\Zip R xs a:=by
 cases us with
 |nil=>have:=h.1;simp at this
 |cons u a=>refine⟨u,a,rfl,h.2 0 x u rfl rfl,by have:=h.1;simpa using this,fun j y v c d=>h.2 (j+1) y v (by simpa using c) (by simpa using d)⟩
theorem Zip.Jw{α a:Type}{R:α->a->Prop}{us:List a}(h:Zip R ([]:List α) us):us=[]:=wI h.1.symm
theorem Zip.imp{α c:Type}{R d:α->c->Prop}{xs:List α}{us:List c}(h:Zip R xs us)(e:∀x u,R x u->d x u):Zip d xs us:=⟨h.1,fun j x u a b=>e x u (h.2 j x u a b)⟩
theorem jK{h:Hp}{i k:Nat}{b:Blk}(a:zI h i none k=some b):h k=some b:=by
 unfold zI at a;split at a
 ·cases a
 ·exact a
theorem oa{x:O}{u:Value}(h:qg w S G Z x u)(hs:x.Wt=true):wG w S x u:=by
 cases x with
 |v y=>obtain⟨rfl,a⟩:=h.wZ;exact .v a
 |nil=>rw[h.xV];exact .nil
 |em=>obtain⟨c,cap,rfl,b⟩:=h.mZ;exact .em b
 |sl s es=>exact h.aI
 |ptr cs=>exact h.Kl
 |_=>simp[O.Wt]at hs
theorem tE{x:O}{u:Value}(h:qg w S G Z x u)(hs:x.shut=true):wG w S x u:=by
 cases x with
 |agg cs=>obtain⟨us,rfl,d,e⟩:=h.QU;exact .agg d fun j c y a b=>oa (e j c y a b) (zP.1 hs c (zE a))
 |_=>exact oa h hs
theorem xK(l:Inv P w S G Y Z){x y:O}{Y1:Hp}{u:Value}(h:qn Y x=some (y,Y1))(d:qg w S G Z x u) :
  ∃S',kd dr P Y Z S G w Y1 Z S' G w/\wG w S' y u/\(x.jz=false->S'=S):=by
 have c:∀{m:O} {Y':Hp},some (x,Y)=some (m,Y')->wG w S x u->∃S',kd dr P Y Z S G w Y' Z S' G w/\wG w S' m u/\(x.jz=false->S'=S):=by
  intro m Y' e t;injection e with e
  injection e with z A;subst z;subst A;exact⟨S,.refl l,t,fun _=>rfl⟩
 unfold qn at h;split at h
 ·rename_i id off n;split at h
  ·rename_i b r;split at h
   ·rename_i g;injection h with h
    injection h with o p;subst o;subst p;obtain⟨cap,s,q,B,F,rfl⟩:=d.vO;exact⟨_,kd.kill l r,Cn l r d.xl g.1 g.2 q B _ (fun k C=>.inl C) (.inr rfl),fun h=>by simp[O.jz]at h⟩
   ·cases h
  ·cases h
 ·obtain⟨rfl,D⟩:=d.wZ;exact c h (.v D)
 ·have:=d.xV;subst this;exact c h .nil
 ·exact c h d.aI
 ·obtain⟨H,cap,rfl,E⟩:=d.mZ;exact c h (.em E)
 ·exact c h d.Kl
 ·rename_i f xs ys;split at h
  ·rename_i g;obtain⟨us,ts,rfl,o,p,s,q⟩:=d.td;exact c h (.fn o p (fun j i y a b=>tE (s j i y a b) (zP.1 g.1 i (zE a))) (fun j i y a b=>tE (q j i y a b) (zP.1 g.2 i (zE a))))
  ·cases h
 ·cases h
theorem Yq{Y Y1:Hp}{x y:O}(h:qn Y x=some (y,Y1)):y.wY=true:=by
 unfold qn at h;split at h<;>(try (split at h))<;>(try (split at h))<;>first
  |(injection h with h;injection h with a b;subst a;rfl)
  |cases h
theorem ZY:∀{xs ys:zb} {Y Y1:Hp} {S:Nat->Prop} {us:List Value} (_:Inv P w S G Y Z),qm Y xs=some (ys,Y1)->Zip (qg w S G Z) xs us ->
  ∃S',kd dr P Y Z S G w Y1 Z S' G w/\Zip (wG w S') ys us/\ys.all O.wY=true/\(xs.any O.jz=false->S'=S)
 |[],ys,Y,Y1,S,us,a,h,c=>by
  simp only[qm]at h;injection h with h
  injection h with f g;subst f;subst g;rw[c.Jw];exact⟨S,.refl a,.nil,rfl,fun _=>rfl⟩
 |x::l,ys,Y,Y1,S,us,a,h,c=>by
  simp only[qm]at h;split at h
  ·rename_i y f i;split at h
   ·rename_i r g k;injection h with h
    injection h with m n;subst m;subst n;obtain⟨u,o,rfl,p,d⟩:=c.jr;obtain⟨q,b,s,n1⟩:=xK (dr:=dr) a i p;have t:=b.same a;obtain⟨v,j,z,A,B⟩:=ZY (S:=q) b.inv k (d.imp fun x u C=>C.mono t (zk _) (fun _ _=>rfl));refine⟨v,b.trans j,.cons (s.mono (j.same b.inv)) z,by simp[A,Yq i],fun e=>?_⟩;simp only[VA,Ju]at e;rw[B e.2,n1 e.1]
   ·cases h
  ·cases h
theorem kP(f:Inv P w S G Y Z){x y:O}{Y1:Hp}{u:Value}(h:z7 Y x=some (y,Y1))(g:qg w S G Z x u) :
  ∃S',kd dr P Y Z S G w Y1 Z S' G w/\wG w S' y u/\y.cells.all O.wY=true/\(x.noOwn=true->S'=S):=by
 unfold z7 at h;split at h
 ·rename_i cs;split at h
  ·rename_i l Y2 i;injection h with h
   injection h with m n;subst m;subst n;obtain⟨us,rfl,o,p⟩:=g.QU;obtain⟨S',k,z,q,d⟩:=ZY (us:=us.toList) f i ⟨by simpa using o,fun j e x a b=>p j e x a (by simpa using b)⟩;exact⟨S',k,.agg (by have:=z.1;simpa using this) (fun j e x a b=>z.2 j e x a (by simpa using b)),q,fun h=>d (by simpa[O.noOwn]using h)⟩
  ·cases h
 ·obtain⟨S',k,c,d⟩:=xK f h g;refine⟨S',k,c,?_,fun r=>d ?_⟩
  ·have:=Yq h;cases y<;>simp_all[O.cells,O.wY]
  ·cases x<;>simp_all[O.noOwn,O.jz]
theorem yW:∀{xs ys:zb} {Y Y1:Hp} {S:Nat->Prop} {us:List Value} (_:Inv P w S G Y Z),zz Y xs=some (ys,Y1)->Zip (qg w S G Z) xs us ->
  ∃S',kd dr P Y Z S G w Y1 Z S' G w/\Zip (wG w S') ys us/\(xs.all O.noOwn=true->S'=S)
 |[],ys,Y,Y1,S,us,a,h,c=>by
  simp only[zz]at h;injection h with h
  injection h with f g;subst f;subst g;rw[c.Jw];exact⟨S,.refl a,.nil,fun _=>rfl⟩
 |x::l,ys,Y,Y1,S,us,a,h,c=>by
  simp only[zz]at h;split at h
  ·rename_i y f j;split at h
   ·rename_i r g k;injection h with h
    injection h with m n;subst m;subst n;obtain⟨u,o,rfl,p,d⟩:=c.jr;obtain⟨q,b,s,_,n1⟩:=kP (dr:=dr) a j p;have t:=b.same a;obtain⟨v,i,z,A⟩:=yW (S:=q) b.inv k (d.imp fun x u B=>B.mono t (zk _) (fun _ _=>rfl));refine⟨v,b.trans i,.cons (s.mono (i.same b.inv)) z,fun e=>?_⟩;simp only[yC,zn]at e;rw[A e.2,n1 e.1]
   ·cases h
  ·cases h
theorem vH(e:Inv P w S G Y Z){x y:O}{Y1:Hp}{u:Value}(h:freeze Y x=some (y,Y1))(f:qg w S G Z x u) :
  ∃S',kd dr P Y Z S G w Y1 Z S' G w/\wG w S' y u:=by
 unfold freeze at h;split at h
 ·rename_i cs;split at h
  ·rename_i l Y2 g;injection h with h
   injection h with i m;subst i;subst m;obtain⟨us,rfl,n,o⟩:=f.F7;obtain⟨S',k,z,_⟩:=yW (us:=us.toList) e g ⟨by simpa using n,fun j d x a b=>o j d x a (by simpa using b)⟩;exact⟨S',k,.qZ (by have:=z.1;simpa using this) (fun j d x a b=>z.2 j d x a (by simpa using b))⟩
  ·cases h
 ·obtain⟨S',k,c,_⟩:=kP e h f;exact⟨S',k,c⟩
theorem Q8:∀(l cs:zb) (off:Nat),(yP cs off l).length=cs.length
 |[],cs,off=>rfl
 |x::l,cs,off=>by simp[yP,Q8 l]
theorem JB:∀(l cs:zb) (off k:Nat),off+l.length<=cs.length->(yP cs off l)[k]?=if off<=k/\k<off+l.length then l[k-off]? else cs[k]?
 |[],cs,off,k,_=>by simp[yP];omega
 |x::l,cs,off,k,h=>by
  simp only[ze]at h;have b:=JB l (cs.set off x) (off+1) k (by simp;omega);simp only[yP];rw[b];by_cases a:off+1<=k/\k<off+1+l.length
  ·rw[zl a,zl ⟨by omega,by simp;omega⟩];obtain⟨d,rfl⟩:∃d,k=off+1+d:=⟨k-(off+1),by omega⟩;rw[show off+1+d-(off+1)=d from by omega,show off+1+d-off=d+1 from by omega];simp
  ·rw[zj a];by_cases c:k=off
   ·subst c;rw[zl ⟨by omega,by simp⟩,WE (by omega)];simp
   ·rw[zj (by simp;omega),Qj (by omega)]
theorem QC{α:Type}(l vs:List α)(o k:Nat)(h:o+vs.length<=l.length):(l.take o++vs++l.drop (o+vs.length))[k]?=if o<=k/\k<o+vs.length then vs[k-o]? else l[k]?:=by
 have a:(l.take o).length=o:=by simp;omega
 rw[z8];by_cases b:k<o
 ·rw[zj (by omega),je (by omega),yu,zl b]
 ·rw[qo (by omega),a];by_cases c:k<o+vs.length
  ·rw[zl ⟨by omega,c⟩,je (by omega)]
  ·rw[zj (by omega),qo (by omega),yd];congr 1;omega
theorem QO{α:Type}(l vs:List α)(o:Nat)(h:o+vs.length<=l.length):(l.take o++vs++l.drop (o+vs.length)).length=l.length:=by simp;omega
theorem gy{s i j i':Nat}(c:j<s)(b:i'≠i)(a n:Nat)(d:a+n<=s):¬(i*s+a<=i'*s+j/\i'*s+j<i*s+a+n):=by
 rcases Nat.lt_or_gt_of_ne b with h|h
 ·have:(i'+1)*s<=i*s:=qA s h;rw[yV]at this;omega
 ·have:(i+1)*s<=i'*s:=qA s h;rw[yV]at this;omega
theorem ZZ{i j n s:Nat}(a:i<n)(b:j<s):i*s+j<n*s:=by have:(i+1)*s<=n*s:=qA s a;rw[yV]at this;omega
theorem pY(I:Inv P w S G Y Z){id i j:Nat}{b:Blk}{c ys:zb}{vs:List Value}(J:Y id=some b)(d:0<(G id).s)(A:b.es[i]?=some c)(Q:ys.length=vs.length)(R:j+ys.length<=c.length)
  (K:∀(k:Nat) (o:O) (u:Value),ys[k]?=some o->vs[k]?=some u->kF w S G Z b.arr o u) :
  ∃L,(storeCells ⟨(G id).g,i*(G id).s+j,none⟩ vs).run P w=.ok () L/\kd dr P Y Z S G w (zI Y id (some ⟨b.e,b.s,b.arr,b.es.set i (yP c j ys)⟩)) Z S G L:=by
 have l:=I.live id b J;obtain⟨cur,T,U,M⟩:=l.row d;have B:c.length=(G id).s:=l.len d c (zE A);have p:i<b.es.length:=(zd.1 A).1;have m:i*(G id).s+j+vs.length<=cur.size:=by have:(i+1)*(G id).s<=b.es.length*(G id).s:=qA _ p;have:=l.fit d;rw[yV]at *;omega
 have C:∀v∈vs,v.oneCell'=true:=by
  intro v W;obtain⟨k,q⟩:=Qk W;have D:k<ys.length:=by rw[Q];exact(zd.1 q).1
  exact(K k ys[k] v (zm D) q).2.2
 have r:=run_storeCells_at P (G id).g (i*(G id).s+j) b.e vs 0 cur w T (by simpa using m) C;simp only[xU]at r;have t:i*(G id).s+j+vs.length<=cur.toList.length:=by simpa using m
 refine⟨_,r,kd.set I J d _ _ ?_ ?_ ?_ ?_⟩
 ·rw[List.size_toArray,QO _ _ _ t];simpa using U
 ·intro z E;rcases KB E with h|h
  ·exact l.len d z h
  ·subst h;rw[Q8];exact B
 ·simpa using l.fit d
 ·intro i' j' z o a f;have N:i'<b.es.length:=by have:=(zd.1 a).1;simpa using this
  rw[List.getElem?_toArray,QC _ _ _ _ t];by_cases n:i'=i
  ·subst n;rw[WE p]at a;injection a with a
   subst a;rw[JB _ _ _ _ R]at f;by_cases x:j<=j'/\j'<j+ys.length
   ·rw[zl x]at f;rw[zl ⟨by omega,by omega⟩];have q:j'-j<vs.length:=by omega
    refine⟨vs[j'-j],?_,K (j'-j) o _ f (zm q)⟩;rw[show i'*(G id).s+j'-(i'*(G id).s+j)=j'-j from by omega];exact zm q
   ·rw[zj x]at f;rw[zj (by omega)];obtain⟨u,F,H⟩:=M i' j' c o A f;exact⟨u,by simpa using F,H⟩
  ·rw[Qj (fun e=>n e.symm)]at a;have y:j'<(G id).s:=by rw[<-l.len d z (zE a)];exact(zd.1 f).1
   rw[zj (gy y n j vs.length (by omega))];obtain⟨u,F,H⟩:=M i' j' z o a f;exact⟨u,by simpa using F,H⟩
theorem gz(hi:Inv P w S G Y Z){t:TypeId}{a x:O}{Y':Hp}{u v:Value}(h:xp P Y t a x=some Y')(ha:qg w S G Z a u)(hx:qg w S G Z x v) :
  ∃z S' G',(Instr.storeAt t u v).run P w=.ok () z/\kd dr P Y Z S G w Y' Z S' G' z:=by
 unfold xp at h;split at h
 ·rename_i id i j;have N:=ha.Qn;obtain⟨hid,rfl⟩:=ha.kW;split at h
  ·rename_i Q F;have H:∀(y:O) (Y1:Hp) (A:Nat->Prop),kd dr P Y Z S G w Y1 Z A G w->qg w A G Z y v->(Q.arr=true->wG w A y v)->(∀b,Y1 id=some b->b.arr=Q.arr) ->
     (match Y1 id,qN P t with
      |some b,some n=>match b.es[i]? with
       |some c=>if y.cells.length=n/\j+n<=c.length/\y.cells.all O.wY=true then some (zI Y1 id (some ⟨b.e,b.s,b.arr,b.es.set i (yP c j y.cells)⟩))else none
       |none=>none
      |_,_=>none)=some Y'->∃z S' G',(Instr.storeAt t (.pointer (some ⟨(G id).g,i*(G id).s+j,none⟩)) v).run P w=.ok () z/\kd dr P Y Z S G w Y' Z S' G' z:=by
    intro y Y1 A L hy R T h;split at h
    ·rename_i b n f hn;split at h
     ·rename_i c M;split at h
      ·rename_i B;obtain⟨U,W,X⟩:=B;injection h with h
       subst h;obtain⟨hl,hr⟩:=cI hy X;have hsz:v.cells.size=n:=by rw[<-hl,U]
       obtain⟨z,I6,k2⟩:=pY (P:=P) L.inv (ys:=y.cells) (vs:=v.cells.toList) (j:=j) f N M (by simpa using hl) (by rw[U];exact W) (fun k pv u E hu=>by
        have m:v.cells[k]?=some u:=by simpa using hu
        have h6:=hr k pv u E m;refine⟨fun I=>?_,h6.1,h6.2⟩;rw[T b f]at I;have C:=R I;by_cases J:∃cs,y=.agg cs
        ·obtain⟨cs,rfl⟩:=J;cases C with
         |agg g1 g2=>exact g2 k pv u E m
        ·have K:y.cells=[y]:=by cases y<;>first|rfl|exact(J ⟨_,rfl⟩).elim
         have ho:=C.Kk (by rw[K]at X;simpa using X);have hv1:v.cells=#[v]:=by cases v<;>first|rfl|simp[Value.oneCell']at ho
         rw[K]at E;rw[hv1]at m;cases k with
         |zero=>simp at E m;subst E;subst m;exact C
         |succ k=>simp at E)
       refine⟨z,A,G,?_,L.trans k2⟩;simp[Instr.storeAt,Instr.sureAddr,storeVar,yw hn,hsz,I6]
      ·cases h
     ·cases h
    ·cases h
   by_cases o:Q.arr=true
   ·simp only[o,qh]at h;split at h
    ·rename_i y Y1 d;obtain⟨A,L,M,_,_⟩:=kP hi d hx;refine H y Y1 A L (.c M) (fun _=>M) (fun b f=>?_) h;have:∀b,Y1 id=some b->Y id=some b:=fun b f=>by
      have p:∀{x y:O} {h q:Hp} (_:qn h x=some (y,q)) (k:Nat) (b:Blk),q k=some b->h k=some b:=by
       intro x y h q d k b f;unfold qn at d;split at d<;>(try (split at d))<;>(try (split at d))<;>first
        |(injection d with d;injection d with U W;subst W
          first
           |exact f
           |exact jK f)
        |cases d
      have D:∀(xs ys:zb) (h q:Hp) (_:qm h xs=some (ys,q)) (k:Nat) (b:Blk),q k=some b->h k=some b:=by
       intro xs
       induction xs with
       |nil=>intro ys h q d k b f;simp only[qm]at d;injection d with d;injection d with _ e;subst e;exact f
       |cons x l ih=>
        intro ys h q d k b f;simp only[qm]at d;split at d
        ·rename_i y h1 hc1;split at d
         ·rename_i r h2 hr;injection d with d
          injection d with _ e;subst e;exact p hc1 k b (ih _ _ _ hr k b f)
         ·cases d
        ·cases d
      unfold z7 at d;split at d
      ·split at d
       ·rename_i l h2 BO;injection d with d
        injection d with _ e;subst e;exact D _ _ _ _ BO id b f
       ·cases d
      ·exact p d id b f
     have:=this b f;rw[F]at this;injection this with this
     rw[this]
    ·cases h
   ·simp only[o]at h;exact H x Y S (.refl hi) hx (fun h=>(o h).elim) (fun b f=>by rw[F]at f;injection f with f;rw[f]) h
  ·cases h
 ·cases h
end
variable{dr:Prop}
section
variable{P:Program}{w:World}{S:Nat->Prop}{G:Nat->GI}{Y:Hp}{Z:Nat}
theorem KM{t:TypeId}{f o n:Nat}{b:Bool}(h:qF P t f=some (o,n,b)):∃(a:Array Field) (x:Field),P.underlying t=some (.struct a)/\a[f]?=some x/\x.offset=o/\qN P x.type=some n/\ya P x.type=some b:=by
 unfold qF at h;split at h
 ·rename_i a c;split at h
  ·rename_i x d;split at h
   ·rename_i l m e g;injection h with h
    injection h with i h;injection h with j k;subst i;subst j;subst k;exact⟨a,x,c,d,rfl,e,g⟩
   ·cases h
  ·cases h
 ·cases h
theorem gA(q:Inv P w S G Y Z){t:TypeId}{f:Nat}{p x:O}{u:Value}(h:y9 P t f p=some x)(Y':qg w S G Z p u):Qo dr P w Y Z S G x Y Z ((Instr.fieldAt t u f).run P w):=by
 have a:∀{o n:Nat} {g:Bool} {k:Addr},qF P t f=some (o,n,g)->n≠0->(Instr.fieldAt t (.pointer (some k)) f).run P w=.ok (.pointer (some (k.add o))) w:=by intro o n g k b d;obtain⟨z,x,r,s,rfl,hs,_⟩:=KM b;simp[Instr.fieldAt,zK r,s,Instr.sureAddr,fieldPlace,yw hs,d]
 unfold y9 at h;split at h
 ·rename_i cs;split at h
  ·rename_i o n g b;split at h
   ·cases h
   ·rename_i d;injection h with h
    subst h;cases Y'.Kl with
    |ptr us v y=>
     refine qv q (a b d) (.c (.ptr (fun j=>us (o+j)) (fun j l e=>?_) (fun j l e=>?_)))
     ·rw[yd]at e;rw[Qz,aP];exact v _ l e
     ·rw[yd]at e;exact y _ l e
  ·cases h
 ·rename_i id i j;have m:=Y'.Qn;obtain⟨hid,rfl⟩:=Y'.kW;split at h
  ·rename_i o n g b;split at h
   ·cases h
   ·rename_i d;injection h with h
    subst h;refine qv q (a b d) ?_;rw[Xk,ziT];exact .ref hid m
  ·cases h
 ·cases h
theorem Cp(l:Inv P w S G Y Z){t:TypeId}{f:Nat}{p x:O}{u:Value}(h:vS P t f p=some x)(Y':qg w S G Z p u):Qo dr P w Y Z S G x Y Z ((Instr.field t u f).run P w):=by
 unfold vS at h;split at h
 ·rename_i cs;obtain⟨us,rfl,q,m⟩:=Y'.QU;split at h
  ·rename_i o n d;split at h
   ·rename_i r;injection h with h
    subst h;obtain⟨s,x,e,g,rfl,hs,i⟩:=KM d;refine qv (v:=.agg (us.extract x.offset (x.offset+n))) l ?_ (.agg ?_ ?_)
    ·simp[Instr.field,zK e,g,asAgg,part,vT i,yw hs]
    ·simp;omega
    ·intro j z v a c;rw[yu]at a;split at a
     ·rw[yd]at a;rw[Array.getElem?_extract]at c;split at c
      ·exact m _ z v a c
      ·cases c
     ·cases a
   ·cases h
  ·rename_i o n d;obtain⟨s,y,e,g,rfl,hs,i⟩:=KM d;have k:y.offset<us.size:=by rw[<-q];exact(zd.1 h).1
   have b:us[y.offset]?=some us[y.offset]:=by simp[k]
   refine qv (v:=us[y.offset]) l ?_ (m _ x _ h b);simp[Instr.field,zK e,g,asAgg,part,vT i,b]
  ·cases h
 ·cases h
theorem vU{t e:TypeId}(h:yq P t=some e):P.underlying t=some (.slice e):=by
 unfold yq at h;split at h
 ·injection h with h;subst h;assumption
 ·cases h
theorem Lj{t:TypeId}{m:Nat}{e:TypeId}(h:tD P t=some (m,e)):P.underlying t=some (.array m e):=by
 unfold tD at h;split at h
 ·injection h with h;injection h with a b;subst a;subst b;assumption
 ·cases h
theorem ng(r:Inv P w S G Y Z){t:TypeId}{p x:O}{u:Value}{k:IntKind}{i:Int}(h:xJ P t i p=some x)(Y':qg w S G Z p u):Qo dr P w Y Z S G x Y Z ((Instr.indexAt t u (.int k i)).run P w):=by
 unfold xJ at h;split at h
 ·rename_i m e A;have y:=Lj A;split at h
  ·rename_i n z;split at h
   ·rename_i B;obtain⟨d,f⟩:=B;split at h
    ·rename_i cs;injection h with h
     subst h;cases Y'.Kl with
     |ptr us C D=>
      rename_i E;refine qv (v:=.pointer (some (E.add (i.toNat*n)))) r ?_ (.c (.ptr (fun j=>us (i.toNat*n+j)) (fun j o l=>?_) (fun j o l=>?_)))
      ·simp[Instr.indexAt,zK y,asIntOf,d,f,Instr.sureAddr,yw z]
      ·rw[yd]at l;rw[Qz,aP];exact C _ o l
      ·rw[yd]at l;exact D _ o l
    ·rename_i id a b;injection h with h
     subst h;have q:=Y'.Qn;obtain⟨hid,rfl⟩:=Y'.kW;refine qv (v:=.pointer (some ((⟨(G id).g,a*(G id).s+b,none⟩:Addr).add (i.toNat*n)))) r ?_ ?_
     ·simp[Instr.indexAt,zK y,asIntOf,d,f,Instr.sureAddr,yw z]
     ·rw[Xk,ziT];exact .ref hid q
    ·cases h
   ·cases h
  ·cases h
 ·cases h
theorem gB(r:Inv P w S G Y Z){t:TypeId}{p q x:O}{u v:Value}(h:qL P Y t p q=some x)(Y':qg w S G Z p u)(M:qg w S G Z q v):Qo dr P w Y Z S G x Y Z ((Instr.indexAt t u v).run P w):=by
 unfold qL at h;split at h
 ·rename_i k i;obtain⟨rfl,_⟩:=M.wZ;split at h
  ·rename_i e N;have J:=vU N;split at h
   ·rename_i n s es hs;split at h
    ·rename_i y;obtain⟨rfl,Q,d⟩:=y;cases a:es[i.toNat]? with
     |none=>simp[a]at h
     |some c=>
      simp[a]at h;subst h;cases Y'.aI with
      |sl us h0 h1 h2 z B K=>
       rename_i A cap;have R:=z c (zE a);have T:i.toNat<es.length:=(zd.1 a).1;have C:c[0]?=some (c[0]'(by omega)):=zm (by omega);obtain⟨U,rfl,hS,_⟩:=B i.toNat 0 c _ a C;have f:i<es.length:=by omega
       refine qv (v:=.pointer (some (U.add (i.toNat*s)))) r ?_ (.c (.ptr (fun j=>us i.toNat j) (fun j D E=>?_) (fun j D E=>K i.toNat j c D a E)))
       ·simp[Instr.indexAt,zK J,asIntOf,d,f,yw hs]
       ·obtain⟨W,F,L,H,_⟩:=B i.toNat j c D a E;injection F with F;subst F;rw[Qz,aP];exact⟨L,H⟩
    ·cases h
   ·rename_i n id off m hs;split at h
    ·rename_i b X;split at h
     ·rename_i y;obtain⟨rfl,hn0,d,hik⟩:=y;injection h with h
      subst h;have l:=Y'.xl;obtain⟨cap,z,B,K,L,rfl⟩:=Y'.vO;have I:(G id).s=n:=by
       have:=(r.live id b X).size l;have H:(P.info? b.e).map (·.size)=some n:=hs;rw[H]at this;injection this with this
       exact this.symm
      have o:i<m:=by omega
      refine qv (v:=.pointer (some ((⟨(G id).g,off*(G id).s,none⟩:Addr).add (i.toNat*n)))) r ?_ ?_
      ·simp[Instr.indexAt,zK J,asIntOf,d,o,yw hs]
      ·rw[Xk,<-I,<-yV];have:=qg.ref (w:=w) (S:=S) (G:=G) (Z:=Z) (id:=id) (i:=off+i.toNat) (j:=0) z l;simpa using this
     ·cases h
    ·cases h
   ·cases h
  ·exact ng r h Y'
 ·cases h
theorem Cq(a:Inv P w S G Y Z){t:TypeId}{p q x:O}{u v:Value}(h:QB P t p q=some x)(Y':qg w S G Z p u)(d:qg w S G Z q v):Qo dr P w Y Z S G x Y Z ((Instr.index t u v).run P w):=by
 unfold QB at h;split at h
 ·rename_i s k i;obtain⟨rfl,_⟩:=d.wZ;obtain⟨rfl,_⟩:=Y'.wZ;split at h
  ·rename_i e;split at h
   ·rename_i f;split at h
    ·rename_i b g;injection h with h
     subst h;refine qv (v:=.int .u8 b.toNat) a ?_ (.c (.v rfl));simp[Instr.index,zK e,asIntOf,f,g]
    ·cases h
   ·cases h
  ·cases h
 ·cases h
theorem pZ(c:Inv P w S G Y Z){vs:zb}{x:O}{i:Nat}{u:Value}(h:vs[i]?=some x)(Y':qg w S G Z (.qZ vs) u):Qo dr P w Y Z S G x Y Z ((Instr.extract u i).run P w):=by
 obtain⟨us,rfl,d,e⟩:=Y'.F7;have b:i<us.size:=by rw[<-d];exact(zd.1 h).1
 have a:us[i]?=some us[i]:=by simp[b]
 exact qv (v:=us[i]) c (by simp[Instr.extract,a]) (e i x _ h a)
theorem xg(x:Value)(h:lit x=true):qg w S G Z (.v x) x:=.c (.v h)
theorem Ll{op:BinOp}{k:IntKind}{a b:Int}{x:O}(h:eV op k a b=some x)(t:TypeId)(w:World):∃v,x=.v v/\lit v=true/\(binOp op t (.int k a) (.int k b)).run P w=.ok v w:=by
 unfold eV at h;split at h<;>(try (split at h))<;>first
  |(injection h with h;subst h;exact⟨_,rfl,rfl,by simp[binOp,Op.intArith,Op.intDiv,Op.intCmp,Op.intBits,Op.shift, *]⟩)
  |cases h
theorem Lm{op:BinOp}{a b:ByteArray}{x:O}(h:Le op a b=some x)(t:TypeId)(w:World):∃v,x=.v v/\lit v=true/\(binOp op t (.string a) (.string b)).run P w=.ok v w:=by
 have d:IntKind.i64.max=9223372036854775807:=by decide
 unfold Le at h;split at h
 ·split at h
  ·rename_i c;injection h with h
   subst h;refine⟨_,rfl,rfl,?_⟩;have e:(a.size:Int)+(b.size:Int)<=9223372036854775807:=by simp only[maxLen]at c;omega
   simp[binOp,Op.stringOp,e]
  ·cases h
 all_goals first
  |(injection h with h;subst h;exact⟨_,rfl,rfl,by simp[binOp,Op.stringOp]⟩)
  |cases h
theorem Yr{op:BinOp}{t:TypeId}{x y:Operand}{a b:Value}(h:lit a=true)(c:a≠.nilIface)(w:World):(eqGuard op t x y a b).run P w=.ok () w:=by unfold eqGuard;cases op<;>simp<;>(cases a<;>cases b<;>simp_all[lit])
theorem EM{t:TypeId}{k:Nat}(h:Gf P t=some k):ya P t=some false:=by
 unfold Gf at h;unfold ya;split at h<;>first
  |(rename_i a;rw[a];rfl)
  |cases h
theorem aR(w:World)(d:Nat)(B C:Array Value):∀(D:List Field) (k:Nat) (N:List Nat) (E F:zb) (r:Bool),nW P k D=some N->wS N E F=some r ->
  (∀(j:Nat) (t:O),E[j]?=some t->∃u,B[k+j]?=some u/\qg w S G Z t u)->(∀(j:Nat) (t:O),F[j]?=some t->∃u,C[k+j]?=some u/\qg w S G Z t u) ->
  (Op.eqFields (d+1) B C D).run P w=.ok r w
 |[],k,N,E,F,r,g,e,_,_=>by
  simp only[nW]at g;injection g with g
  subst g;simp only[wS]at e;injection e with e
  subst e;simp[Op.eqFields]
 |f::D,k,N,E,F,r,g,e,U,W=>by
  simp only[nW]at g;split at g
  ·rename_i z;split at g
   ·rename_i tg i H h2;injection g with g
    subst g;have A:∀(p q:O) (x y:zb) (b s:Bool),E=p::x->F=q::y->(∀u v,qg w S G Z p u->qg w S G Z q v->(Op.equalIn (d+1) f.type u v).run P w=.ok b w)->wS i x y=some s->r=(b&&s) ->
      (Op.eqFields (d+1) B C (f::D)).run P w=.ok r w:=by
     intro p q x y b s h e2 h3 h4 h5;subst h;subst e2;subst h5;obtain⟨u,I,Q⟩:=U 0 p rfl;obtain⟨v,J,R⟩:=W 0 q rfl;simp only[xU]at I J;have X:=EM H;have Y1:(part f.type B f.offset).run P w=.ok u w:=by simp[part,vT X,z.1,I]
     have Y2:(part f.type C f.offset).run P w=.ok v w:=by simp[part,vT X,z.1,J]
     have ih:=aR w d B C D (k+1) i x y s h2 h4 (fun j t T=>by have:=U (j+1) t (by simpa using T);rwa [show k+(j+1)=k+1+j from by omega]at this) (fun j t T=>by have:=W (j+1) t (by simpa using T);rwa [show k+(j+1)=k+1+j from by omega]at this);cases b<;>simp[Op.eqFields,z.2,Y1,Y2,h3 u v Q R,ih]
    unfold wS at e;unfold Gf at H;split at e
    ·simp_all
    ·rename_i K kk a l kk' b m h;injection h with h n
     subst h;subst n;split at e
     ·rename_i hk;subst hk;cases c:wS i l m with
      |none=>simp[c]at e
      |some s=>
       simp[c]at e;refine A _ _ _ _ (a==b) s rfl rfl (fun u v L M=>?_) c e.symm;obtain⟨rfl,_⟩:=L.wZ;obtain⟨rfl,_⟩:=M.wZ;split at H<;>first
        |(rename_i o;simp[Op.equalIn,zK o];done)
        |simp_all
     ·cases e
    ·rename_i K a l b m h;injection h with h n
     subst h;subst n;cases c:wS i l m with
     |none=>simp[c]at e
     |some s=>
      simp[c]at e;refine A _ _ _ _ (a==b) s rfl rfl (fun u v L M=>?_) c e.symm;obtain⟨rfl,_⟩:=L.wZ;obtain⟨rfl,_⟩:=M.wZ;split at H<;>first
       |(rename_i o;simp[Op.equalIn,zK o];done)
       |simp_all
    ·rename_i K a l b m h;injection h with h n
     subst h;subst n;cases c:wS i l m with
     |none=>simp[c]at e
     |some s=>
      simp[c]at e;refine A _ _ _ _ (a==b) s rfl rfl (fun u v L M=>?_) c e.symm;obtain⟨rfl,_⟩:=L.wZ;obtain⟨rfl,_⟩:=M.wZ;split at H<;>first
       |(rename_i o;simp[Op.equalIn,zK o];done)
       |simp_all
    ·cases e
   ·cases g
  ·cases g
def eq1:Nat->O->O->Option Bool
 | 0,.v (.int k a),.v (.int c b)=>if k=c then some (a==b)else none
 | 1,.v (.bool a),.v (.bool b)=>some (a==b)
 | 2,.v (.string a),.v (.string b)=>some (a==b)
 |_,_,_=>none
theorem JC(k:Nat)(a:List Nat)(b:zb):wS (k::a) [] b=none:=by unfold wS;split<;>first|rfl|simp_all
theorem JD(k:Nat)(a:List Nat)(b:zb):wS (k::a) b []=none:=by unfold wS;split<;>first|rfl|simp_all
theorem Wv(k:Nat)(c:List Nat)(p q:O)(d e:zb):wS (k::c) (p::d) (q::e)=(eq1 k p q).bind fun b=>(wS c d e).map (b&&·):=by
 match k with
 | 0=>
  cases p with
  |v x=>cases x with
   |int w a=>cases q with
    |v y=>cases y with
     |int f b=>simp only[wS,eq1];split<;>rfl
     |_=>rfl
    |_=>rfl
   |_=>rfl
  |_=>rfl
 | 1=>
  cases p with
  |v x=>cases x with
   |bool a=>cases q with
    |v y=>cases y<;>rfl
    |_=>rfl
   |_=>rfl
  |_=>rfl
 | 2=>
  cases p with
  |v x=>cases x with
   |string a=>cases q with
    |v y=>cases y<;>rfl
    |_=>rfl
   |_=>rfl
  |_=>rfl
 |k+3=>rfl
theorem KN:∀(a c:List Nat) (d e:zb) (r:Bool),wS (a++c) d e=some r->∃f g,wS a d e=some f/\wS c (d.drop a.length) (e.drop a.length)=some g/\r=(f&&g)
 |[],c,d,e,r,h=>⟨true,r,rfl,h,rfl⟩
 |k::a,c,[],e,r,h=>by rw[qC,JC]at h;cases h
 |k::a,c,p::d,[],r,h=>by rw[qC,JD]at h;cases h
 |k::a,c,p::d,q::e,r,h=>by
  rw[qC,Wv]at h;cases i:eq1 k p q with
  |none=>rw[i]at h;cases h
  |some b=>rw[i,zW]at h;obtain⟨j,l,rfl⟩:=WG.1 h;obtain⟨f,g,m,n,rfl⟩:=KN a c d e j l;exact⟨b&&f,g,by rw[Wv,i,zW,m];rfl,n,by rw[BJ]⟩
theorem aT:∀(a:List Nat) (b c:zb),wS a (b.take a.length) (c.take a.length)=wS a b c
 |[],b,c=>by simp only[wS]
 |k::a,[],c=>by rw[List.take_nil,JC,JC]
 |k::a,p::b,[]=>by rw[List.take_nil,JD,JD]
 |k::a,p::b,q::c=>by rw[ze,yh,yh,Wv,Wv,aT a b c]
theorem Ln{t:TypeId}{b:List Nat}(h:subA P t=some b):∃a,P.underlying t=some (.struct a)/\nW P 0 a.toList=some b/\P.stoodInHeld t=false/\qN P t=some b.length:=by
 unfold subA at h;split at h
 ·cases h
 ·rename_i g;split at h
  ·rename_i a c;split at h
   ·rename_i d e;split at h
    ·rename_i f;injection h with h
     subst h;exact⟨a,c,e,by cases i:P.stoodInHeld t<;>simp_all,f⟩
    ·cases h
   ·cases h
  ·cases h
theorem YO(w:World)(d:Nat)(s t:Array Value):∀(Q:List Field) (k:Nat) (ks:List Nat) (I J:zb) (r:Bool),nX P k Q=some ks->wS ks I J=some r ->
  (∀(j:Nat) (c:O),I[j]?=some c->∃u,s[k+j]?=some u/\qg w S G Z c u)->(∀(j:Nat) (c:O),J[j]?=some c->∃u,t[k+j]?=some u/\qg w S G Z c u) ->
  (Op.eqFields (d+2) s t Q).run P w=.ok r w
 |[],k,ks,I,J,r,g,h,_,_=>by
  simp only[nX]at g;injection g with g
  subst g;simp only[wS]at h;injection h with h
  subst h;simp[Op.eqFields]
 |f::Q,k,ks,I,J,r,g,h,hx,hy=>by
  simp only[nX]at g;split at g
  ·rename_i o;split at g
   ·rename_i tg R;split at g
    case h_2=>cases g
    rename_i l h2;injection g with g
    subst g;have K:∀(p q:O) (E F:zb) (b C:Bool),I=p::E->J=q::F->(∀u v,qg w S G Z p u->qg w S G Z q v->(Op.equalIn (d+2) f.type u v).run P w=.ok b w)->wS l E F=some C->r=(b&&C) ->
      (Op.eqFields (d+2) s t (f::Q)).run P w=.ok r w:=by
     intro p q E F b C i e2 h3 h4 h5;subst i;subst e2;subst h5;obtain⟨u,m,x⟩:=hx 0 p rfl;obtain⟨v,T,hv2⟩:=hy 0 q rfl;simp only[xU]at m T;have ha:=EM R;have Y1:(part f.type s f.offset).run P w=.ok u w:=by simp[part,vT ha,o.1,m]
     have Y2:(part f.type t f.offset).run P w=.ok v w:=by simp[part,vT ha,o.1,T]
     have ih:=YO w d s t Q (k+1) l E F C h2 h4 (fun j c D=>by have:=hx (j+1) c (by simpa using D);rwa [show k+(j+1)=k+1+j from by omega]at this) (fun j c D=>by have:=hy (j+1) c (by simpa using D);rwa [show k+(j+1)=k+1+j from by omega]at this);cases b<;>simp[Op.eqFields,o.2,Y1,Y2,h3 u v x hv2,ih]
    unfold wS at h;unfold Gf at R;split at h
    ·simp_all
    ·rename_i U kk a y kk' b z i;injection i with i A
     subst i;subst A;split at h
     ·rename_i hk;subst hk;cases e:wS l y z with
      |none=>simp[e]at h
      |some C=>
       simp[e]at h;refine K _ _ _ _ (a==b) C rfl rfl (fun u v W X=>?_) e h.symm;obtain⟨rfl,_⟩:=W.wZ;obtain⟨rfl,_⟩:=X.wZ;split at R<;>first
        |(rename_i B;simp[Op.equalIn,zK B];done)
        |simp_all
     ·cases h
    ·rename_i U a y b z i;injection i with i A
     subst i;subst A;cases e:wS l y z with
     |none=>simp[e]at h
     |some C=>
      simp[e]at h;refine K _ _ _ _ (a==b) C rfl rfl (fun u v W X=>?_) e h.symm;obtain⟨rfl,_⟩:=W.wZ;obtain⟨rfl,_⟩:=X.wZ;split at R<;>first
       |(rename_i B;simp[Op.equalIn,zK B];done)
       |simp_all
    ·rename_i U a y b z i;injection i with i A
     subst i;subst A;cases e:wS l y z with
     |none=>simp[e]at h
     |some C=>
      simp[e]at h;refine K _ _ _ _ (a==b) C rfl rfl (fun u v W X=>?_) e h.symm;obtain⟨rfl,_⟩:=W.wZ;obtain⟨rfl,_⟩:=X.wZ;split at R<;>first
       |(rename_i B;simp[Op.equalIn,zK B];done)
       |simp_all
    ·cases h
   ·split at g
    case h_2=>cases g
    rename_i n hs1;split at g
    case h_2=>cases g
    rename_i l h2;injection g with g
    subst g;obtain⟨r1,r2,i,e2,rfl⟩:=KN _ _ _ _ _ h;rw[<-aT]at i;obtain⟨gs,L,hgt,hgs,hgn⟩:=Ln hs1;have H:ya P f.type=some true:=by unfold ya;rw[L];rfl
    have hfo:P.fieldsOf f.type=gs:=by simp[Program.fieldsOf,L]
    have Y1:(part f.type s f.offset).run P w=.ok (.agg (s.extract k (k+n.length))) w:=by simp[part,vT H,o.1,yw hgn]
    have Y2:(part f.type t f.offset).run P w=.ok (.agg (t.extract k (k+n.length))) w:=by simp[part,vT H,o.1,yw hgn]
    have hin:∀(M:zb) (N:Array Value),(∀(j:Nat) (c:O),M[j]?=some c->∃u,N[k+j]?=some u/\qg w S G Z c u)->∀(j:Nat) (c:O),(M.take n.length)[j]?=some c->∃u,(N.extract k (k+n.length))[0+j]?=some u/\qg w S G Z c u:=by
     intro M N hz j c D;have hjl:j<n.length:=by have:=(zd.1 D).1;rw[fE]at this;omega
     rw[List.getElem?_take_of_lt hjl]at D;obtain⟨u,m,x⟩:=hz j c D;refine⟨u,?_,x⟩;rw[zu,Array.getElem?_extract];have hlt:=(zU.1 m).1;rw[zl (by omega)];exact m
    have hrun:(Op.equalIn (d+2) f.type (.agg (s.extract k (k+n.length))) (.agg (t.extract k (k+n.length)))).run P w=.ok r1 w:=by rw[run_equalIn_struct w (d+1) f.type _ _ (by rw[hfo];exact L) hgs,hfo];exact aR w d _ _ gs.toList 0 n _ _ r1 hgt i (hin I s hx) (hin J t hy)
    have I7:∀(M:zb) (N:Array Value),(∀(j:Nat) (c:O),M[j]?=some c->∃u,N[k+j]?=some u/\qg w S G Z c u)->∀(j:Nat) (c:O),(M.drop n.length)[j]?=some c->∃u,N[k+n.length+j]?=some u/\qg w S G Z c u:=by intro M N hz j c D;rw[yd]at D;obtain⟨u,m,x⟩:=hz (n.length+j) c D;exact⟨u,by rwa [show k+(n.length+j)=k+n.length+j by omega]at m,x⟩
    have ih:=YO w d s t Q (k+n.length) l _ _ r2 h2 e2 (I7 I s hx) (I7 J t hy);cases r1<;>simp[Op.eqFields,o.2,Y1,Y2,hrun,ih]
  ·cases g
theorem ob{t:TypeId}{g:List Nat}{xs ys:zb}{r:Bool}{u v:Value}(b:nY P t=some g)(z:wS g xs ys=some r)(A:qg w S G Z (.agg xs) u)(B:qg w S G Z (.agg ys) v) :
  (Op.equal t u v).run P w=.ok r w/\∀(op:BinOp) (x y:Operand),(eqGuard op t x y u v).run P w=.ok () w:=by
 obtain⟨e,rfl,i,k⟩:=A.QU;obtain⟨f,rfl,l,m⟩:=B.QU;unfold nY at b;split at b
 ·cases b
 ·rename_i C;have n:P.stoodInHeld t=false:=by cases h:P.stoodInHeld t<;>simp_all
  have o:P.eqGuardType P.depth t=false:=by cases h:P.eqGuardType P.depth t<;>simp_all
  split at b
  ·rename_i q s;have c:P.fieldsOf t=q:=by simp[Program.fieldsOf,s]
   constructor
   ·unfold Op.equal Op.maxDepth;rw[show(10000:Nat)=9999+1 from rfl,run_equalIn_struct w 9999 t e f (by rw[c];exact s) n,c];exact YO w 9997 e f q.toList 0 g xs ys r b z
     (fun j p d=>by
      have a:j<e.size:=by rw[<-i];exact(zd.1 d).1
      exact⟨e[j],by simp[a],k j p _ d (by simp[a])⟩)
     (fun j p d=>by
      have a:j<f.size:=by rw[<-l];exact(zd.1 d).1
      exact⟨f[j],by simp[a],m j p _ d (by simp[a])⟩)
   ·intro op x y;unfold eqGuard;cases op<;>simp[o]
  ·cases b
theorem gC{t:TypeId}(a b:Bool)(c:P.underlying t=some .bool)(w:World):(Op.equal t (.bool a) (.bool b)).run P w=.ok (a==b) w:=by
 have h:∀d:Nat,(Op.equalIn (d+1) t (.bool a) (.bool b)).run P w=.ok (a==b) w:=fun d=>by simp only[Op.equalIn,vr,zK c,ky,Q7]
 exact h 9999
theorem oc{t e:TypeId}(A:Option Addr)(n c:Nat)(a:P.underlying t=some (.slice e))(w:World):(Op.equal t (.slice A n c) (.slice none 0 0)).run P w=.ok A.isNone w:=by
 have h:∀d:Nat,(Op.equalIn (d+1) t (.slice A n c) (.slice none 0 0)).run P w=.ok A.isNone w:=fun d=>by cases A<;>simp only[Op.equalIn,vr,zK a,ky,Q7]<;>rfl
 exact h 9999
theorem od{p:O}{u:Value}{r:Bool}(h:cH p=some r)(b:qg w S G Z p u):∃A n c,u=.slice A n c/\A.isNone=r:=by
 unfold cH at h;split at h
 ·injection h with h;subst h;exact⟨none,0,0,b.xV,rfl⟩
 ·injection h with h;subst h;obtain⟨f,cap,rfl,_⟩:=b.mZ;exact⟨_,_,_,rfl,rfl⟩
 ·injection h with h;subst h;obtain⟨cap,_,_,_,_,rfl⟩:=b.vO;exact⟨_,_,_,rfl,rfl⟩
 ·rename_i s c es;injection h with h;subst h
  cases b.aI with
  |sl us d e g i j k=>
   rename_i A cap;cases A with
   |none=>have:=d rfl;subst this;simp at e
   |some a=>exact⟨_,_,_,rfl,rfl⟩
 ·cases h
theorem Cr(g:Inv P w S G Y Z){op:BinOp}{t:TypeId}{p q x:O}{u v:Value}(C D:Operand)(h:Qq P op t p q=some x)(f:qg w S G Z p u)(i:qg w S G Z q v) :
  Qo dr P w Y Z S G x Y Z ((do eqGuard op t C D u v;binOp op t u v:Sem Value).run P w):=by
 unfold Qq at h;split at h
 ·rename_i k a I b;obtain⟨rfl,_⟩:=f.wZ;obtain⟨rfl,_⟩:=i.wZ;split at h
  ·rename_i E;subst E;obtain⟨r,rfl,l,m⟩:=Ll (P:=P) h t w;exact qv (v:=r) g (by simp[Yr (a:=.int k a) rfl (by simp) w,m]) (xg r l)
  ·cases h
 ·rename_i a b;obtain⟨rfl,_⟩:=f.wZ;obtain⟨rfl,_⟩:=i.wZ;obtain⟨r,rfl,l,m⟩:=Lm (P:=P) h t w;exact qv (v:=r) g (by simp[Yr (a:=.string a) rfl (by simp) w,m]) (xg r l)
 ·rename_i a b;obtain⟨rfl,_⟩:=f.wZ;obtain⟨rfl,_⟩:=i.wZ;split at h
  ·rename_i j;injection h with h
   subst h;refine qv (v:=.bool (a==b)) g ?_ (xg _ rfl);simp only[vr,Yr (a:=.bool a) rfl (by simp) w,ky,binOp,gC a b j,Q7]
  ·rename_i j;injection h with h
   subst h;refine qv (v:=.bool (!(a==b))) g ?_ (xg _ rfl);simp only[vr,Yr (a:=.bool a) rfl (by simp) w,ky,binOp,gC a b j,Q7]
  ·cases h
 ·rename_i xs ys;split at h
  ·rename_i z B;split at h
   ·cases d:wS z xs ys with
    |none=>simp[d]at h
    |some r=>simp[d]at h;subst h;obtain⟨o,s⟩:=ob B d f i;obtain⟨F,rfl,_,_⟩:=f.QU;obtain⟨H,rfl,_,_⟩:=i.QU;exact qv (v:=.bool r) g (by simp[s,binOp,o]) (xg _ rfl)
   ·cases d:wS z xs ys with
    |none=>simp[d]at h
    |some r=>simp[d]at h;subst h;obtain⟨o,s⟩:=ob B d f i;obtain⟨F,rfl,_,_⟩:=f.QU;obtain⟨H,rfl,_,_⟩:=i.QU;exact qv (v:=.bool !r) g (by simp[s,binOp,o]) (xg _ rfl)
   ·cases h
  ·cases h
 ·have:=i.xV;subst this;split at h
  ·rename_i e r d y;injection h with h
   subst h;obtain⟨A,n,c,rfl,rfl⟩:=od y f;refine qv (v:=.bool A.isNone) g ?_ (xg _ rfl);simp only[vr,eqGuard,binOp,oc A n c (vU d),Q7,ky];simp
  ·rename_i e r d y;injection h with h
   subst h;obtain⟨A,n,c,rfl,rfl⟩:=od y f;refine qv (v:=.bool !A.isNone) g ?_ (xg _ rfl);simp only[vr,eqGuard,binOp,oc A n c (vU d),Q7,ky];simp
  ·cases h
 ·cases h
theorem Gg(b:Inv P w S G Y Z){op:BinOp}{t:TypeId}{p q x:O}{u v:Value}(g a:Operand)(h:KI (isK a) P op t p q=some x)(i:qg w S G Z p u)(j:qg w S G Z q v) :
  Qo dr P w Y Z S G x Y Z ((do eqGuard op t g a u v;binOp op t u v:Sem Value).run P w):=by
 unfold KI at h;split at h
 ·rename_i l;obtain⟨rfl,_⟩:=i.wZ;obtain⟨rfl,_⟩:=j.wZ;obtain⟨c,rfl⟩:∃c,a=.const c:=by cases a<;>first|exact⟨_,rfl⟩|(simp[isK]at l)
  unfold EK at h;split at h
  ·rename_i e;unfold Cm at e;split at e
   ·rename_i m f;have k:(Op.equal t .nilIface .nilIface).run P w=.ok true w:=by
     have h:∀d:Nat,(Op.equalIn (d+1) t .nilIface .nilIface).run P w=.ok true w:=fun d=>by simp only[Op.equalIn,vr,zK f,ky,Q7]
     exact h 9999
    split at h
    ·injection h with h;subst h;refine qv (v:=.bool true) b ?_ (xg _ rfl);simp[eqGuard,binOp,k,Result.andThen]
    ·injection h with h;subst h;refine qv (v:=.bool false) b ?_ (xg _ rfl);simp[eqGuard,binOp,k,Result.andThen]
    ·cases h
   ·cases e
  ·cases h
 ·exact Cr b g a h i j
theorem Gh(a:Inv P w S G Y Z){op:UnOp}{p x:O}{u:Value}(h:Ri op p=some x)(b:qg w S G Z p u):Qo dr P w Y Z S G x Y Z ((Op.unary op u).run P w):=by
 unfold Ri at h;split at h
 ·obtain⟨rfl,_⟩:=b.wZ;split at h
  ·injection h with h;subst h;exact qv (v:=_) a (by simp[Op.unary]) (xg _ rfl)
  ·cases h
 ·obtain⟨rfl,_⟩:=b.wZ;split at h
  ·injection h with h;subst h;exact qv (v:=_) a (by simp[Op.unary,Op.intArith]) (xg _ rfl)
  ·cases h
 ·cases h
theorem Gi(e:Inv P w S G Y Z){a dst:TypeId}{p x:O}{u:Value}(h:Xq P a dst p=some x)(f:qg w S G Z p u):Qo dr P w Y Z S G x Y Z ((convert a dst u).run P w):=by
 unfold Xq at h;split at h
 ·obtain⟨rfl,_⟩:=f.wZ;split at h
  ·rename_i d k b c;injection h with h
   subst h;exact qv (v:=_) e (by simp[convert,zK b,zK c,Conv.intToInt]) (xg _ rfl)
  ·cases h
 ·obtain⟨rfl,_⟩:=f.wZ;split at h
  ·rename_i d b c;injection h with h
   subst h;exact qv (v:=_) e (by simp[convert,zK b,zK c]) (xg _ rfl)
  ·cases h
 ·cases h
end
end Go.AM
