/- Lemmas. -/
import Derived.WalkKit
import Derived.ChangeAgain
import Derived.Lib.ItoaNum
import Derived.Test.YtnbicamkimignaaGreatDoorG0
set_option maxRecDepth 8000
open Go Proofs Proofs.YtnbicamkimignaaGreatDoor Proofs.Tryz RowKit AM SpanLaw Q Zz
namespace Go.AM
variable{dr:Prop}
inductive O where
 |v (x:Value)
 |nil
 |agg (cs:List O)
 |yb (cs:List O)
 |sl (s:Nat) (es:List (List O))
 |em
 |ptr (cs:List O)
 |own (id off n:Nat)
 |ref (id i j:Nat)
 |mp (id:Nat)
 |fn (f:Fn) (first captured:List O)
def lit:Value→Bool
 | .bool _|.int _ _|.string _|.nilFunc|.pointer none|.nilIface|.map none=>true
 |_=>false
def O.wY:O→Bool
 | .agg _|.yb _=>false
 |_=>true
inductive wT (w:World) (S:Nat→Prop):O→Value→Prop
 |v {x:Value}:lit x=true→wT w S (.v x) x
 |nil:wT w S .nil (.slice none 0 0)
 |em {ad:Addr} {cap:Nat}:cap≤maxLen→wT w S .em (.slice (some ad) 0 cap)
 |agg {cs:List O} {us:Array Value}:cs.length=us.size→(∀(j:Nat) (pv:O) (u:Value),cs[j]?=some pv→us[j]?=some u→wT w S pv u)→wT w S (.agg cs) (.agg us)
 |yb {cs:List O} {us:Array Value}:cs.length=us.size→(∀(j:Nat) (pv:O) (u:Value),cs[j]?=some pv→us[j]?=some u→wT w S pv u)→wT w S (.yb cs) (.tuple us)
 |sl {es:List (List O)} {A:Option Addr} {cap s:Nat} (us:Nat→Nat→Value):(A=none→cap=0)→es.length≤cap→cap≤maxLen→(∀c∈es,c.length=s) →
   (∀(i j:Nat) (c:List O) (pv:O),es[i]?=some c→c[j]?=some pv→∃ad,A=some ad∧S ad.block∧w.cell? (ad.add (i*s+j))=some (us i j)∧(us i j).oneCell'=true) →
   (∀(i j:Nat) (c:List O) (pv:O),es[i]?=some c→c[j]?=some pv→wT w S pv (us i j))→wT w S (.sl s es) (.slice A es.length cap)
 |ptr {cs:List O} {ad:Addr} (us:Nat→Value):(∀(j:Nat) (pv:O),cs[j]?=some pv→S ad.block∧w.cell? (ad.add j)=some (us j)) →
   (∀(j:Nat) (pv:O),cs[j]?=some pv→wT w S pv (us j))→wT w S (.ptr cs) (.pointer (some ad))
 |fn {f:Fn} {xs ys:List O} {us ts:Array Value}:xs.length=us.size→ys.length=ts.size→(∀(j:Nat) (pv:O) (u:Value),xs[j]?=some pv→us[j]?=some u→wT w S pv u) →
   (∀(j:Nat) (pv:O) (u:Value),ys[j]?=some pv→ts[j]?=some u→wT w S pv u)→wT w S (.fn f xs ys) (.func f us ts)
structure GI where
 g:Nat
 z:Nat
 s:Nat
inductive qK (w:World) (S:Nat→Prop) (G:Nat→GI) (Z:Nat):O→Value→Prop
 |c {pv:O} {x:Value}:wT w S pv x→qK w S G Z pv x
 |own {id off n cap:Nat}:id<Z→n≤cap→cap≤maxLen→(off+cap)*(G id).s=(G id).z→0<(G id).s→qK w S G Z (.own id off n) (.slice (some ⟨(G id).g,off*(G id).s,none⟩) n cap)
 |ref {id i j:Nat}:id<Z→0<(G id).s→qK w S G Z (.ref id i j) (.pointer (some ⟨(G id).g,i*(G id).s+j,none⟩))
 |mp {id:Nat}:id<Z→(G id).s=0→qK w S G Z (.mp id) (.map (some (G id).g))
 |agg {cs:List O} {us:Array Value}:cs.length=us.size→(∀(j:Nat) (pv:O) (u:Value),cs[j]?=some pv→us[j]?=some u→qK w S G Z pv u)→qK w S G Z (.agg cs) (.agg us)
 |yb {cs:List O} {us:Array Value}:cs.length=us.size→(∀(j:Nat) (pv:O) (u:Value),cs[j]?=some pv→us[j]?=some u→qK w S G Z pv u)→qK w S G Z (.yb cs) (.tuple us)
 |fn {f:Fn} {xs ys:List O} {us ts:Array Value}:xs.length=us.size→ys.length=ts.size→(∀(j:Nat) (pv:O) (u:Value),xs[j]?=some pv→us[j]?=some u→qK w S G Z pv u) →
   (∀(j:Nat) (pv:O) (u:Value),ys[j]?=some pv→ts[j]?=some u→qK w S G Z pv u)→qK w S G Z (.fn f xs ys) (.func f us ts)
theorem Q1(a:Addr)(n:Nat):(a.add n).block=a.block:=by unfold Addr.add;split<;>rfl
theorem cR(a:Addr)(i j:Nat):(a.add i).add j=a.add (i+j):=by unfold Addr.add;by_cases b:i=0<;>by_cases c:j=0<;>simp[b,c,N2]
theorem wT.mono{w p:World}{S q:Nat→Prop}{d:O}{x:Value}(h:wT w S d x)(g:∀b,S b→q b∧p.heap[b]?=w.heap[b]?):wT p q d x:=by
 induction h with
 |v h=>exact .v h
 |nil=>exact .nil
 |em h=>exact .em h
 |agg k _ a=>exact .agg k a
 |yb k _ a=>exact .yb k a
 |sl us r f l s t _ a=>refine .sl us r f l s (fun i j c d u m=>?_) a;obtain⟨y,e,hs,n,o⟩:=t i j c d u m;refine⟨y,e,(g _ hs).1,?_,o⟩;rw[←n];apply aa;rw[Q1];exact(g _ hs).2
 |ptr us f _ a=>refine .ptr us (fun j d m=>?_) a;obtain⟨hs,n⟩:=f j d m;refine⟨(g _ hs).1,?_⟩;rw[←n];apply aa;rw[Q1];exact(g _ hs).2
 |fn f l _ _ z A=>exact .fn f l z A
theorem qK.mono{w i:World}{S j:Nat→Prop}{G k:Nat→GI}{Z l:Nat}{m:O}{x:Value}(h:qK w S G Z m x)(p:∀b,S b→j b∧i.heap[b]?=w.heap[b]?)
  (t:Z≤l) (e:∀id,id<Z→k id=G id):qK i j k l m x:=by
 induction h with
 |c h=>exact .c (h.mono p)
 |own d a q n o=>rw[←e _ d]at n o⊢;exact .own (by omega) a q n o
 |ref d a=>rw[←e _ d]at a⊢;exact .ref (by omega) a
 |mp d a=>rw[←e _ d]at a⊢;exact .mp (by omega) a
 |agg f _ g=>exact .agg f g
 |yb f _ g=>exact .yb f g
 |fn d a _ _ r s=>exact .fn d a r s
theorem wT.VN{w:World}{S:Nat→Prop}{a:O}{x:Value}(h:wT w S a x)(b:a.wY=true):x.oneCell'=true:=by
 cases h with
 |v h=>cases x<;>simp_all[lit,Value.oneCell']
 |agg=>simp[O.wY]at b
 |yb=>simp[O.wY]at b
 |_=>rfl
theorem qK.VN{w:World}{S:Nat→Prop}{G:Nat→GI}{Z:Nat}{b:O}{x:Value}(h:qK w S G Z b x)(a:b.wY=true):x.oneCell'=true:=by
 cases h with
 |c h=>exact h.VN a
 |agg=>simp[O.wY]at a
 |yb=>simp[O.wY]at a
 |_=>rfl
structure jz where
 e:TypeId
 s:Nat
 arr:Bool
 es:List (List O)
abbrev Hp:=Nat→Option jz
def qZ{α:Type}(f:Nat→α)(k:Nat)(x:α):Nat→α:=fun i=>if i=k then x else f i
@[simp]theorem w9{α:Type}(f:Nat→α)(k:Nat)(x:α):qZ f k x k=x:=by simp[qZ]
theorem qY{α:Type}(f:Nat→α)(k i:Nat)(x:α)(h:i≠k):qZ f k x i=f i:=by simp[qZ,h]
def kq(w:World)(S:Nat→Prop)(G:Nat→GI)(Z:Nat)(a:Bool)(b:O)(u:Value):Prop:=
 (a=true→wT w S b u)∧qK w S G Z b u∧u.oneCell'=true
structure Fs (P:Program) (w:World) (S:Nat→Prop) (G:Nat→GI) (Z:Nat) (gi:GI) (b:jz):Prop where
 size:(P.info? b.e).map (·.size)=some gi.s
 len:∀c∈b.es,c.length=gi.s
 fit:b.es.length*gi.s≤gi.z
 row:∃cur:Array Value,w.heap[gi.g]?=some (.cells cur b.e (0,0))∧cur.size=gi.z ∧
  ∀(i j:Nat) (c:List O) (pv:O),b.es[i]?=some c→c[j]?=some pv→∃u,cur[i*gi.s+j]?=some u∧kq w S G Z b.arr pv u
def uk(w:World)(S:Nat→Prop)(c:List O)(e:MapEntry):Prop:=∃(k:Value) (a:O),c=[.v k,a]∧e.key=k∧lit k=true∧wT w S a e.val
structure zeO (w:World) (S:Nat→Prop) (gi:GI) (b:jz):Prop where
 row:∃(en:Array MapEntry) (clock:Nat),w.heap[gi.g]?=some (.map en clock)∧en.size=b.es.length∧∀(i:Nat) (c:List O) (e:MapEntry),b.es[i]?=some c→en[i]?=some e→uk w S c e
structure vu (P:Program) (w:World) (S:Nat→Prop) (G:Nat→GI) (Z:Nat) (gi:GI) (b:jz):Prop where
 bs:b.s=gi.s
 cel:0<gi.s→Fs P w S G Z gi b
 ent:gi.s=0→zeO w S gi b
theorem vu.size{P:Program}{w:World}{S:Nat→Prop}{G:Nat→GI}{Z:Nat}{a:GI}{b:jz}(h:vu P w S G Z a b)(c:0<a.s):(P.info? b.e).map (·.size)=some a.s:=(h.cel c).size
theorem vu.len{P:Program}{w:World}{S:Nat→Prop}{G:Nat→GI}{Z:Nat}{a:GI}{b:jz}(h:vu P w S G Z a b)(d:0<a.s):∀c∈b.es,c.length=a.s:=(h.cel d).len
theorem vu.fit{P:Program}{w:World}{S:Nat→Prop}{G:Nat→GI}{Z:Nat}{a:GI}{b:jz}(h:vu P w S G Z a b)(c:0<a.s):b.es.length*a.s≤a.z:=(h.cel c).fit
theorem vu.row{P:Program}{w:World}{S:Nat→Prop}{G:Nat→GI}{Z:Nat}{d:GI}{b:jz}(h:vu P w S G Z d b)(k:0<d.s):∃a:Array Value,w.heap[d.g]?=some (.cells a b.e (0,0))∧a.size=d.z ∧
  ∀(i j:Nat) (c:List O) (f:O),b.es[i]?=some c→c[j]?=some f→∃u,a[i*d.s+j]?=some u∧kq w S G Z b.arr f u:=(h.cel k).row
theorem vu.xb{P:Program}{w:World}{S:Nat→Prop}{G:Nat→GI}{Z:Nat}{a:GI}{b:jz}(d:0<a.s)(c:b.s=a.s)(h:Fs P w S G Z a b):vu P w S G Z a b:=
 ⟨c,fun _=>h,fun e=>by omega⟩
def On(P:Program)(g:Nat):Prop:=g<P.globals.size∧∃zero t,((begin P (fun _ _=>0) default).world.heap[g]?).bind Obj.row?=some (zero,t)∧zero.size=1∧P.buildable t=true∧P.cellTypes P.depth t=some [t]∧P.underlying t=some (.int .i64)
def Kd:List (Nat×IntKind×List Int):=[]++[(5,.u64,Lib.pow10Tab)]
def B0(w:World)(S:Nat→Prop)(t:Nat×IntKind×List Int):Prop:=S t.1∧∃ty a,w.heap[t.1]?=some (.cells (t.2.2.map fun z=>Value.int t.2.1 z).toArray ty a)
def Ln(P:Program)(w:World)(S:Nat→Prop):Prop:=(∀g,On P g→S g∧∃m,w.cell? ⟨g,0,none⟩=some (.int .i64 m))∧∀t∈Kd,B0 w S t
theorem Ln.mono{P:Program}{w e:World}{S f:Nat→Prop}(h:Ln P w S)(c:∀b,S b→f b∧e.heap[b]?=w.heap[b]?):Ln P e f:=by
 refine⟨fun g i=>?_,fun t j=>?_⟩
 ·obtain⟨a,m,d⟩:=h.1 g i;refine⟨(c g a).1,m,?_⟩;rw[←d];exact aa (c g a).2
 ·obtain⟨a,ty,k,d⟩:=h.2 t j;exact⟨(c _ a).1,ty,k,(c _ a).2.trans d⟩
theorem Ib{w:World}{a:Addr}{v:Value}(h:w.cell? a=some v):a.block<w.heap.size:=by
 unfold World.cell? at h;split at h
 ·rename_i b;exact(qu.1 b).1
 ·cases h
theorem Ln.Tk{P:Program}{w:World}(h:w.ShapedOpen P)(j:∀t∈Kd,B0 w (fun b=>b<w.heap.size) t):Ln P w (fun b=>b<w.heap.size):=by
 refine⟨?_,j⟩;rintro g ⟨k,zero,t,l,s,m,n,o⟩;obtain⟨cs,p,hs,q⟩:=h.1 g zero t k l;obtain⟨ts,d,_,e⟩:=q m;rw[n]at d;cases d;have i:0<cs.size:=by omega
 obtain⟨u,f,c⟩:=e 0 cs[0] (by simp[i]);have:u=t:=by simpa using f.symm
 subst this;have a:w.cell? ⟨g,0,none⟩=some cs[0]:=by simp[World.cell?,p,i]
 refine⟨Ib a,?_⟩;rw[a];unfold Cell.ok at c;rw[o]at c;cases r:cs[0]<;>rw[r]at c<;>simp_all
structure Inv (P:Program) (w:World) (S:Nat→Prop) (G:Nat→GI) (Y:Hp) (Z:Nat):Prop where
 st:∀b,S b→b<w.heap.size
 top:∀id b,Y id=some b→id<Z
 live:∀id b,Y id=some b→vu P w S G Z (G id) b
 apart:∀id b,Y id=some b→¬S (G id).g
 inj:∀id id' b b',Y id=some b→Y id'=some b'→(G id).g=(G id').g→id=id'
 eR:Ln P w S
theorem vu.lt{P:Program}{w:World}{S:Nat→Prop}{G:Nat→GI}{Z:Nat}{a:GI}{b:jz}(h:vu P w S G Z a b):a.g<w.heap.size:=by
 rcases Nat.eq_zero_or_pos a.s with c|c
 ·obtain⟨en,d,e,_⟩:=(h.ent c).row;exact(qu.1 e).1
 ·obtain⟨f,e,_⟩:=h.row c;exact(qu.1 e).1
theorem kq.mono{w c:World}{S d:Nat→Prop}{G e:Nat→GI}{Z f:Nat}{a:Bool}{g:O}{u:Value}(h:kq w S G Z a g u)(i:∀b,S b→d b∧c.heap[b]?=w.heap[b]?)
  (j:Z≤f) (k:∀id,id<Z→e id=G id):kq c d e f a g u:=
 ⟨fun l=>(h.1 l).mono i,h.2.1.mono i j k,h.2.2⟩
theorem vu.mono{P:Program}{w l:World}{S s:Nat→Prop}{G t:Nat→GI}{Z v:Nat}{f:GI}{b:jz}(h:vu P w S G Z f b)(x:∀b,S b→s b∧l.heap[b]?=w.heap[b]?)
  (z:Z≤v) (A:∀id,id<Z→t id=G id) (y:l.heap[f.g]?=w.heap[f.g]?):vu P l s t v f b:=by
 refine⟨h.bs,fun d=>⟨h.size d,h.len d,h.fit d,?_⟩,fun d=>⟨?_⟩⟩
 ·obtain⟨m,n,o,p⟩:=h.row d;refine⟨m,y.trans n,o,fun i j c q r B=>?_⟩;obtain⟨u,C,D⟩:=p i j c q r B;exact⟨u,C,D.mono x z A⟩
 ·obtain⟨en,a,n,o,p⟩:=(h.ent d).row;refine⟨en,a,y.trans n,o,fun i c e r E=>?_⟩;obtain⟨k,q,F,H,I,J⟩:=p i c e r E;exact⟨k,q,F,H,I,J.mono x⟩
structure Fr (dr:Prop) (w:World) (L:Nat→Prop) (w':World):Prop where
 os:w'.os=w.os
 tape:w'.tape=w.tape
 output:w'.output=w.output
 size:w.heap.size≤w'.heap.size
 drawn:dr→w.drawn≤w'.drawn
 block:∀k,k<w.heap.size→¬L k→w'.heap[k]?=w.heap[k]?
theorem Fr.refl(w:World)(L:Nat→Prop):Fr dr w L w:=⟨rfl,rfl,rfl,ze _,fun _=>ze _,fun _ _ _=>rfl⟩
theorem Fr.trans{w f c:World}{L:Nat→Prop}(h:Fr dr w L f){g:Nat→Prop}(a:Fr dr f g c)(j:∀b,b<w.heap.size→g b→L b):Fr dr w L c:=
 ⟨a.os.trans h.os,a.tape.trans h.tape,a.output.trans h.output,zC h.size a.size,fun d=>zC (h.drawn d) (a.drawn d),fun k e i=>(a.block k (zlO e h.size) (fun l=>i (j k e l))).trans (h.block k e i)⟩
theorem Fr.drew(w:World)(L:Nat→Prop):Fr dr w L w.drew:=⟨rfl,rfl,rfl,ze _,fun _=>ja _,fun _ _ _=>rfl⟩
structure St where
 σ:Nat→O
 Y:Hp
 Z:Nat
def iG(D:Nat):Deferred:={target:=.collected D,args:=#[]}
def Marks(c:Nat)(w:World)(S:Nat→Prop)(Y:Hp)(G:Nat→GI)(ds:List Deferred):Prop:=c≤w.heap.size∧∃a:List Nat,ds=a.map iG∧a.Nodup∧∀D∈a,c≤D∧w.heap[D]?=some (.deferred (some []))∧¬S D∧∀id b,Y id=some b→(G id).g≠D
theorem Marks.nil{a:Nat}{w:World}{S:Nat→Prop}{Y:Hp}{G:Nat→GI}(h:a≤w.heap.size):Marks a w S Y G []:=⟨h,[],rfl,by simp,by simp⟩
structure WT (dr:Prop) (P:Program) (w0:World) (S0 L:Nat→Prop) (N Z0:Nat) (G0:Nat→GI) (n0:Nat) (st:St) (S:Nat→Prop) (G:Nat→GI) (a:Act) (w:World):Prop where
 inv:Inv P w S G st.Y st.Z
 JM:∀t,qK w S G st.Z (st.σ t) (a.tmps.getD t undef)
 size:a.tmps.size=N
 defers:Marks n0 w S st.Y G a.defers
 s0:∀b,S0 b→S b
 s1:∀b,S b→S0 b∨L b∨w0.heap.size≤b
 own:∀id b,st.Y id=some b→L (G id).g∨w0.heap.size≤(G id).g
 fr:Fr dr w0 L w
 up:Z0≤st.Z
 loc:∀id,id<Z0→G id=G0 id
def BP(dr:Prop)(P:Program)(b:World)(c L:Nat→Prop)(N Z0:Nat)(d:Nat→GI)(e:Nat)(f:St)(a:Act)(w:World):Prop:=∃S G,WT dr P b c L N Z0 d e f S G a w
abbrev zc:=List O
abbrev Spec:=zc→Hp→Nat→Option (O×Hp×Nat)
abbrev Qq:=zc→Hp→Option (zc×Hp)
structure Ctx where
 P:Program
 Γ:FuncId→Option Spec
 dyn:Nat→List (Tmp×Tmp):=fun _=>[]
 lds:Nat→List Tmp:=fun _=>[]
 bk:FuncId→Bool:=fun _=>false
 fz:Nat→List Tmp:=fun _=>[]
 it:FuncId→Option Qq:=fun _=>none
def um(c:St)(a b:Tmp):Prop:=∀id i j,c.σ a=.ref id i j→∃id' i' j' blk,c.σ b=.ref id' i' j'∧id≠id'∧c.Y id'=some blk∧blk.arr=false
def WU(D:List (Tmp×Tmp))(a:St):Prop:=∀p∈D,um a p.1 p.2
def O.Yh:O→Bool
 | .v _|.nil|.em|.sl _ _|.ptr _=>true
 |_=>false
def O.shut:O→Bool
 | .agg cs=>cs.all O.Yh
 |x=>x.Yh
def O.Jd:O→Bool
 | .yb _=>true
 |x=>x.shut
abbrev zB:Nat:=1000000
def zcm(L:List Tmp)(a:St):Prop:=∀s∈L,(∀id o n,a.σ s≠.own id o n)∧∀id i j,a.σ s=.ref id i j→id<a.Z∧∃blk,a.Y id=some blk∧blk.arr=false
def kZ(L:List Tmp)(a:St):Prop:=∀s∈L,((∀id o n,a.σ s≠.own id o n)∧∀id i j,a.σ s=.ref id i j→id<a.Z∧∃blk,a.Y id=some blk∧blk.arr=false)∧(zB≤s→(a.σ (s-zB)).Jd=true)
def eX:Value→Option O
 | .slice none 0 0=>some .nil
 | .bool b=>some (.v (.bool b))
 | .int k n=>some (.v (.int k n))
 | .string s=>some (.v (.string s))
 | .nilFunc=>some (.v .nilFunc)
 | .pointer none=>some (.v (.pointer none))
 | .nilIface=>some (.v .nilIface)
 | .map none=>some (.v (.map none))
 |_=>none
def xb:List Value→Option zc
 |[]=>some []
 |x::l=>match eX x,xb l with
  |some p,some r=>some (p::r)
  |_,_=>none
def lA:Value→Option O
 | .agg cs=>(xb cs.toList).map .agg
 |x=>eX x
def get(a:Nat→O):Operand→Option O
 | .tmp t=>some (a t)
 | .const x=>lA x
 | .func f=>some (.fn (.func f) [] [])
 | .global _=>none
def q8(P:Program)(t:TypeId):Option Nat:=(P.info? t).map (·.size)
def kr(P:Program)(t:TypeId):Option Nat:=(P.info? t).map (·.bytes)
def jr(P:Program)(t:TypeId):Option zc:=((P.info? t).bind (·.zero)).bind fun z=>xb z.cells.toList
def yo(P:Program)(t:TypeId):Option Bool:=(P.underlying t).map fun
 | .struct _|.array _ _=>true
 |_=>false
def yK(P:Program)(t:TypeId):Option TypeId:=match P.underlying t with
 |some (.slice e)=>some e
 |_=>none
def wu(P:Program)(t:TypeId)(f:Nat):Option (Nat×Nat×Bool):=match P.underlying t with
 |some (.struct b)=>match b[f]? with
  |some x=>match q8 P x.type,yo P x.type with
   |some n,some a=>some (x.offset,n,a)
   |_,_=>none
  |none=>none
 |_=>none
def O.cells:O→zc
 | .agg cs=>cs
 |x=>[x]
def zV(P:Program)(t:TypeId)(cs:zc):Option O:=
 match yo P t,q8 P t with
 |some true,some n=>if n≤cs.length then some (.agg (cs.take n))else none
 |some false,some _=>cs[0]?
 |_,_=>none
def O.vK:O→Bool
 | .own _ _ _=>true
 |_=>false
def O.noOwn:O→Bool
 | .agg cs=>!cs.any O.vK
 | .own _ _ _=>false
 |_=>true
def we(Y:Hp):O→Option (O×Hp)
 | .own id off n=>match Y id with
  |some b=>if b.arr=true∧off+n≤b.es.length then some (.sl b.s ((b.es.drop off).take n),qZ Y id none)else none
  |none=>none
 | .v x=>some (.v x,Y)
 | .nil=>some (.nil,Y)
 | .sl s es=>some (.sl s es,Y)
 | .em=>some (.em,Y)
 | .ptr cs=>some (.ptr cs,Y)
 | .fn f xs ys=>if xs.all O.shut=true∧ys.all O.shut=true then some (.fn f xs ys,Y)else none
 |_=>none
def qU(Y:Hp):zc→Option (zc×Hp)
 |[]=>some ([],Y)
 |x::l=>match we Y x with
  |some (y,Y1)=>match qU Y1 l with
   |some (r,Y2)=>some (y::r,Y2)
   |none=>none
  |none=>none
def qf(Y:Hp):O→Option (O×Hp)
 | .agg cs=>match qU Y cs with
  |some (l,h)=>some (.agg l,h)
  |none=>none
 |x=>we Y x
def zA(Y:Hp):zc→Option (zc×Hp)
 |[]=>some ([],Y)
 |x::l=>match qf Y x with
  |some (y,Y1)=>match zA Y1 l with
   |some (r,Y2)=>some (y::r,Y2)
   |none=>none
  |none=>none
def freeze(Y:Hp):O→Option (O×Hp)
 | .yb cs=>match zA Y cs with
  |some (l,h)=>some (.yb l,h)
  |none=>none
 |x=>qf Y x
def view(Y:Hp)(n:Nat):O→Option (List zc)
 | .nil=>some []
 | .em=>some []
 | .sl s es=>if s=n then some es else none
 | .own id off k=>match Y id with
  |some b=>if b.arr=true∧b.s=n∧off+k≤b.es.length then some ((b.es.drop off).take k)else none
  |none=>none
 |_=>none
def Oo(op:BinOp)(k:IntKind)(a b:Int):Option O:=
 match op with
 | .add=>some (.v (.int k (k.wrap (a+b))))
 | .sub=>some (.v (.int k (k.wrap (a-b))))
 | .mul=>some (.v (.int k (k.wrap (a*b))))
 | .quo=>if b=0 then none else some (.v (.int k (k.wrap (a.tdiv b))))
 | .rem=>if b=0 then none else some (.v (.int k (a.tmod b)))
 | .eql=>some (.v (.bool (a==b)))
 | .neq=>some (.v (.bool (a != b)))
 | .lss=>some (.v (.bool (decide (a<b))))
 | .leq=>some (.v (.bool (decide (a≤b))))
 | .gtr=>some (.v (.bool (decide (a>b))))
 | .geq=>some (.v (.bool (decide (a≥b))))
 | .and=>some (.v (.int k (k.wrap (BitVec.ofInt k.bits a &&& BitVec.ofInt k.bits b).toNat)))
 | .or=>some (.v (.int k (k.wrap (BitVec.ofInt k.bits a||| BitVec.ofInt k.bits b).toNat)))
 | .xor=>some (.v (.int k (k.wrap (BitVec.ofInt k.bits a ^^^ BitVec.ofInt k.bits b).toNat)))
 | .andNot=>some (.v (.int k (k.wrap (BitVec.ofInt k.bits a &&& ~~~ BitVec.ofInt k.bits b).toNat)))
 | .shr=>if b<0 then none else some (.v (.int k (a.fdiv (2 ^ (min b.toNat k.bits)))))
 | .shl=>if b<0 then none else some (.v (.int k (k.wrap (a*2 ^ (min b.toNat k.bits)))))
def Oq(op:BinOp)(a b:ByteArray):Option O:=
 match op with
 | .add=>if a.size+b.size≤maxLen then some (.v (.string (a++b)))else none
 | .eql=>some (.v (.bool (a.toList==b.toList)))
 | .neq=>some (.v (.bool (!(a.toList==b.toList))))
 | .lss=>some (.v (.bool (Op.bytesLess a.toList b.toList)))
 | .leq=>some (.v (.bool (Op.bytesLess a.toList b.toList||a.toList==b.toList)))
 | .gtr=>some (.v (.bool (!(Op.bytesLess a.toList b.toList||a.toList==b.toList))))
 | .geq=>some (.v (.bool (!(Op.bytesLess a.toList b.toList))))
 |_=>none
def yi:List Nat→zc→zc→Option Bool
 |[],_,_=>some true
 | 0::c,.v (.int k a)::xs,.v (.int d b)::ys=>if k=d then(yi c xs ys).map ((a==b)&&·)else none
 | 1::c,.v (.bool a)::xs,.v (.bool b)::ys=>(yi c xs ys).map ((a==b)&&·)
 | 2::c,.v (.string a)::xs,.v (.string b)::ys=>(yi c xs ys).map ((a==b)&&·)
 |_,_,_=>none
def Lv(P:Program)(t:TypeId):Option Nat:=match P.underlying t with
 |some (.int _)=>some 0
 |some .bool=>some 1
 |some .string=>some 2
 |_=>none
def rY(P:Program):Nat→List Field→Option (List Nat)
 |_,[]=>some []
 |i,f::a=>if f.offset=i∧f.name≠ "_" then match Lv P f.type,rY P (i+1) a with
   |some k,some b=>some (k::b)
   |_,_=>none
  else none
def subA(P:Program)(t:TypeId):Option (List Nat):=if P.stoodInHeld t=true then none else match P.underlying t with
 |some (.struct b)=>match rY P 0 b.toList with
  |some a=>if q8 P t=some a.length then some a else none
  |none=>none
 |_=>none
def rZ(P:Program):Nat→List Field→Option (List Nat)
 |_,[]=>some []
 |i,f::b=>if f.offset=i∧f.name≠ "_" then match Lv P f.type with
   |some k=>match rZ P (i+1) b with
    |some a=>some (k::a)
    |none=>none
   |none=>match subA P f.type with
    |some c=>match rZ P (i+c.length) b with
     |some a=>some (c++a)
     |none=>none
    |none=>none
  else none
def lY(P:Program)(t:TypeId):Option (List Nat):=
 if P.stoodInHeld t=true∨P.eqGuardType P.depth t=true then none else
 match P.underlying t with
 |some (.struct a)=>rZ P 0 a.toList
 |_=>none
def ji:O→Option Bool
 | .nil=>some true
 | .em=>some false
 | .own _ _ _=>some false
 | .sl _ (_::_)=>some false
 |_=>none
def jP(P:Program)(op:BinOp)(t:TypeId):O→O→Option O
 | .v (.int k a),.v (.int d b)=>if k=d then Oo op k a b else none
 | .v (.string a),.v (.string b)=>Oq op a b
 | .v (.bool a),.v (.bool b)=>match op,P.underlying t with
  | .eql,some .bool=>some (.v (.bool (a==b)))
  | .neq,some .bool=>some (.v (.bool (!(a==b))))
  |_,_=>none
 | .agg xs,.agg ys=>match lY P t with
  |some c=>match op with
   | .eql=>(yi c xs ys).map fun r=>.v (.bool r)
   | .neq=>(yi c xs ys).map fun r=>.v (.bool !r)
   |_=>none
  |none=>none
 |p,.nil=>match yK P t,ji p,op with
  |some _,some r,.eql=>some (.v (.bool r))
  |some _,some r,.neq=>some (.v (.bool !r))
  |_,_,_=>none
 |_,_=>none
def FG(P:Program)(t:TypeId):Bool:=match P.underlying t with
 |some (.interface _)=>true
 |_=>false
def isK:Operand→Bool
 | .const _=>true
 |_=>false
def Ic(P:Program)(op:BinOp)(t:TypeId):Option O:=if FG P t=true then match op with
 | .eql=>some (.v (.bool true))
 | .neq=>some (.v (.bool false))
 |_=>none
 else none
def Xa(c:Bool)(P:Program)(op:BinOp)(t:TypeId)(p q:O):Option O:=match c,q,p with
 |true,.v .nilIface,.v .nilIface=>Ic P op t
 |_,q,p=>jP P op t p q
@[simp]theorem zgd(P:Program)(op:BinOp)(t:TypeId)(p q:O):Xa false P op t p q=jP P op t p q:=rfl
@[simp]theorem zih(t:Tmp):isK (.tmp t)=false:=rfl
@[simp]theorem zeS(v:Value):isK (.const v)=true:=rfl
@[simp]theorem zge(f:FuncId):isK (.func f)=false:=rfl
@[simp]theorem zgf(c:Bool)(P:Program)(op:BinOp)(t:TypeId)(p:O)(k:IntKind)(n:Int):Xa c P op t p (.v (.int k n))=jP P op t p (.v (.int k n)):=by cases c<;>rfl
@[simp]theorem zgg(c:Bool)(P:Program)(op:BinOp)(t:TypeId)(p:O)(s:ByteArray):Xa c P op t p (.v (.string s))=jP P op t p (.v (.string s)):=by cases c<;>rfl
@[simp]theorem zeT(c:Bool)(P:Program)(op:BinOp)(t:TypeId)(p:O)(b:Bool):Xa c P op t p (.v (.bool b))=jP P op t p (.v (.bool b)):=by cases c<;>rfl
@[simp]theorem zgh(c:Bool)(P:Program)(op:BinOp)(t:TypeId)(p:O):Xa c P op t p .nil=jP P op t p .nil:=by cases c<;>rfl
@[simp]theorem zeU(P:Program)(op:BinOp)(t:TypeId):Xa true P op t (.v .nilIface) (.v .nilIface)=Ic P op t:=rfl
def TV(op:UnOp):O→Option O
 | .v (.bool b)=>match op with
  | .not=>some (.v (.bool !b))
  |_=>none
 | .v (.int k n)=>match op with
  | .neg=>some (.v (.int k (k.wrap (0-n))))
  |_=>none
 |_=>none
def a7(P:Program)(a dst:TypeId):O→Option O
 | .v (.int _ n)=>match P.underlying a,P.underlying dst with
  |some _,some (.int k)=>some (.v (.int k (k.wrap n)))
  |_,_=>none
 | .v (.string s)=>match P.underlying a,P.underlying dst with
  |some _,some .string=>some (.v (.string s))
  |_,_=>none
 |_=>none
def vq(a:Nat):Option (Option O)→Option Nat
 |none=>some a
 |some (some (.v (.int _ i)))=>if 0≤i then some i.toNat else none
 |_=>none
def js(P:Program)(Y:Hp)(t:TypeId)(x:O)(lo a:Option (Option O)):Option O:=
 match P.underlying t,x with
 |some .string,.v (.string s)=>match vq 0 lo,vq s.size a with
  |some l,some h=>if l≤h∧h≤s.size then some (.v (.string (s.extract l h)))else none
  |_,_=>none
 |some (.slice e),.sl s es=>match q8 P e,vq 0 lo,vq es.length a with
  |some n,some l,some h=>if s=n∧l≤h∧h≤es.length then some (.sl s ((es.drop l).take (h-l)))else none
  |_,_,_=>none
 |some (.slice e),.nil=>match q8 P e,vq 0 lo,vq 0 a with
  |some _,some l,some h=>if l=0∧h=0 then some .nil else none
  |_,_,_=>none
 |some (.slice e),.own id off n=>match q8 P e,vq 0 lo,vq n a with
  |some m,some l,some h=>match Y id with
   |some b=>if b.s=m∧l≤h∧h≤n then some (if l=0 then .own id off h else if h=l then .sl m []else .own id (off+l) (h-l))else none
   |none=>none
  |_,_,_=>none
 |_,_=>none
def ag(k:IntKind)(x:Int):zc→Option O
 |[]=>some (.v (.int k x))
 | .v (.int a y)::l=>if k=a then ag k (if y<x then y else x) l else none
 |_=>none
def Ot:zc→Option O
 | .v (.int k x)::l=>ag k x l
 |_=>none
def ah(k:IntKind)(x:Int):zc→Option O
 |[]=>some (.v (.int k x))
 | .v (.int a y)::l=>if k=a then ah k (if y>x then y else x) l else none
 |_=>none
def Ou:zc→Option O
 | .v (.int k x)::l=>ah k x l
 |_=>none
def Qr(P:Program)(t:TypeId):O→Option O
 | .v (.string s)=>match P.underlying t with
  |some .string=>some (.v (.int .i64 s.size))
  |_=>none
 | .sl _ es=>(yK P t).map fun _=>.v (.int .i64 es.length)
 | .nil=>(yK P t).map fun _=>.v (.int .i64 0)
 | .em=>(yK P t).map fun _=>.v (.int .i64 0)
 | .own _ _ n=>(yK P t).map fun _=>.v (.int .i64 n)
 |_=>none
def jt(cs:zc)(off:Nat):zc→zc
 |[]=>cs
 |x::l=>jt (cs.set off x) (off+1) l
def qc(a:Nat→Option (Nat×Nat))(cs:zc):List (Nat×O)→Option zc
 |[]=>some cs
 |(i,x)::b=>match a i with
  |some (off,n)=>if x.cells.length=n∧off+n≤cs.length∧x.cells.all O.wY=true then qc a (jt cs off x.cells) b else none
  |none=>none
def yS{α:Type}:List (Option α)→Option (List α)
 |[]=>some []
 |some x::l=>(yS l).map (x::·)
 |none::_=>none
def vM(a:Operand→Option O):List (Nat×Operand)→Option (List (Nat×O))
 |[]=>some []
 |(i,x)::l=>match a x,vM a l with
  |some p,some r=>some ((i,p)::r)
  |_,_=>none
def xT(P:Program)(t:TypeId):Option (List (Nat×Nat)):=match P.underlying t with
 |some (.struct a)=>a.toList.mapM (fun f=>(P.info? f.type).map fun i=>(f.offset,i.size))
 |_=>none
def zR(P:Program)(t:TypeId)(a:List (Nat×O)):Option O:=
 match xT P t,jr P t with
 |some b,some z=>(qc (fun i=>b[i]?) z a).map .agg
 |none,some z=>match P.underlying t with
  |some (.array _ e)=>match q8 P e with
   |some n=>(qc (fun i=>some (i*n,n)) z a).map .agg
   |none=>none
  |_=>none
 |_,_=>none
def zy(Y:Hp):List (Nat×O)→Option (List (Nat×O)×Hp)
 |[]=>some ([],Y)
 |(i,x)::l=>match qf Y x with
  |some (y,Y1)=>match zy Y1 l with
   |some (r,Y2)=>some ((i,y)::r,Y2)
   |none=>none
  |none=>none
def zN(n:Nat)(es:List zc):List (Nat×O)→Option (List zc)
 |[]=>some es
 |(i,x)::l=>if x.cells.length=n∧i<es.length∧x.cells.all O.wY=true then zN n (es.set i x.cells) l else none
def zv(P:Program)(Y:Hp)(Z:Nat)(t:TypeId)(len:Nat)(a:List (Nat×O)):Option (O×Hp×Nat):=
 match yK P t with
 |some e=>match q8 P e,jr P e,zy Y a with
  |some n,some z,some (ps,Y1)=>if 0<n∧z.length=n∧len*n≤16777216 then
    match zN n (List.replicate len z) ps with
    |some es=>some (.own Z 0 len,qZ Y1 Z (some ⟨e,n,true,es⟩),Z+1)
    |none=>none
   else none
  |_,_,_=>none
 |none=>none
def YN(P:Program)(Y:Hp)(Z:Nat)(t:TypeId):O→O→Option (O×Hp×Nat)
 | .v (.int _ l),.v (.int _ c)=>match yK P t with
  |some e=>match q8 P e,kr P e,jr P e with
   |some n,some a,some z=>if 0<n∧z.length=n∧0≤l∧l≤c∧c.toNat≤maxLen∧c.toNat*a≤140737488355328 then
     some (.own Z 0 l.toNat,qZ Y Z (some ⟨e,n,true,List.replicate l.toNat z⟩),Z+1)
    else none
   |_,_,_=>none
  |none=>none
 |_,_=>none
def Uf(P:Program)(u:TypeId):Bool:=match P.underlying u with
 |some .string=>true
 |_=>false
def Ie(P:Program)(e:TypeId):Bool:=match P.info? e with
 |some i=>match i.zero with
  |some (.int .u8 z)=>z==0&&i.size==1&&i.bytes==1
  |_=>false
 |none=>false
def Xb(P:Program)(Y:Hp)(n:Nat)(e t u:TypeId):O→Option (List zc)
 | .v (.string b)=>if Uf P u=true∧Ie P e=true then some (b.data.toList.map fun c=>[.v (.int .u8 c.toNat)])else none
 |x=>if u=t then view Y n x else none
def wU(P:Program)(Y:Hp)(Z:Nat)(t u:TypeId)(s x:O):Option (O×Hp×Nat):=
 match yK P t with
 |some e=>match q8 P e,kr P e,jr P e with
  |some n,some a,some z=>match Xb P Y n e t u x with
   |some xs=>match s with
    | .nil=>
     if 0<n∧z.length=n∧xs.length≤maxLen∧xs.length*a≤140737488355328 then
      if xs.length=0 then some (.nil,Y,Z)
      else some (.own Z 0 xs.length,qZ Y Z (some ⟨e,n,true,xs⟩),Z+1)
     else none
    | .own id 0 k=>match Y id with
     |some b=>if b.arr=true∧b.e=e∧k=b.es.length∧0<n∧z.length=n∧k+xs.length≤maxLen∧(k+xs.length)*a≤140737488355328 then
       some (.own Z 0 (k+xs.length),qZ (qZ Y id none) Z (some ⟨e,n,true,b.es++xs⟩),Z+1)
      else none
     |none=>none
    |_=>none
   |none=>none
  |_,_,_=>none
 |none=>none
def Ig(P:Program)(Y:Hp)(Z:Nat)(t:TypeId)(d x:O):Option (O×Hp×Nat):=
 match yK P t,d with
 |some e,.own id off k=>match Y id,q8 P e with
  |some b,some n=>match view Y n x with
   |some xs=>if b.arr=true∧b.e=e∧off+k≤b.es.length∧0<n then
     some (.v (.int .i64 (min xs.length k:Nat)),qZ Y id (some ⟨b.e,b.s,true,b.es.take off++xs.take (min xs.length k)++b.es.drop (off+min xs.length k)⟩),Z)
    else none
   |none=>none
  |_,_=>none
 |_,_=>none
def eY(P:Program)(Y:Hp)(Z:Nat)(t:TypeId)(x:O):Option (O×Hp×Nat):=
 match yK P t,x with
 |some e,.own id off k=>match Y id,q8 P e,jr P e with
  |some b,some n,some [z]=>if n=1∧b.arr=true∧b.e=e∧off+k≤b.es.length∧0<k then
    some (.yb [],qZ Y id (some ⟨b.e,b.s,true,b.es.take off++List.replicate k [z]++b.es.drop (off+k)⟩),Z)
   else none
  |_,_,_=>none
 |_,_=>none
def xU(P:Program)(Y:Hp)(t:TypeId):O→Option O
 | .ptr cs=>zV P t cs
 | .ref id i j=>match Y id with
  |some b=>match b.es[i]? with
   |some c=>zV P t (c.drop j)
   |none=>none
  |none=>none
 |_=>none
def Q2(P:Program)(Y:Hp)(t:TypeId)(a x:O):Option Hp:=
 match a with
 | .ref id i j=>match Y id with
  |some d=>match(if d.arr=true then qf Y x else some (x,Y))with
   |some (y,Y1)=>match Y1 id,q8 P t with
    |some b,some n=>match b.es[i]? with
     |some c=>if y.cells.length=n∧j+n≤c.length∧y.cells.all O.wY=true then
       some (qZ Y1 id (some ⟨b.e,b.s,b.arr,b.es.set i (jt c j y.cells)⟩))else none
     |none=>none
    |_,_=>none
   |none=>none
  |none=>none
 |_=>none
def jj(P:Program)(t:TypeId)(f:Nat):O→Option O
 | .ptr cs=>match wu P t f with
  |some (o,n,_)=>if n=0 then none else some (.ptr (cs.drop o))
  |none=>none
 | .ref id i j=>match wu P t f with
  |some (o,n,_)=>if n=0 then none else some (.ref id i (j+o))
  |none=>none
 |_=>none
def Qe(P:Program)(t:TypeId)(f:Nat):O→Option O
 | .agg cs=>match wu P t f with
  |some (o,n,true)=>if o+n≤cs.length then some (.agg ((cs.drop o).take n))else none
  |some (o,_,false)=>cs[o]?
  |none=>none
 |_=>none
def lU(P:Program)(t:TypeId):Option (Nat×TypeId):=match P.underlying t with
 |some (.array n e)=>some (n,e)
 |_=>none
def Zu(P:Program)(t:TypeId)(i:Int)(x:O):Option O:=
 match lU P t with
 |some (m,e)=>match q8 P e with
  |some n=>if 0≤i∧i<m then match x with
    | .ptr cs=>some (.ptr (cs.drop (i.toNat*n)))
    | .ref id a b=>some (.ref id a (b+i.toNat*n))
    |_=>none
   else none
  |none=>none
 |none=>none
def wb(P:Program)(Y:Hp)(t:TypeId):O→O→Option O
 |x,.v (.int _ i)=>match yK P t with
  |some e=>match q8 P e,x with
   |some n,.sl s es=>if s=n∧0<n∧0≤i then(es[i.toNat]?).map .ptr else none
   |some n,.own id off k=>match Y id with
    |some b=>if b.e=e∧0<n∧0≤i∧i.toNat<k then some (.ref id (off+i.toNat) 0)else none
    |none=>none
   |_,_=>none
  |none=>Zu P t i x
 |_,_=>none
def Q3(P:Program)(t:TypeId):O→O→Option O
 | .v (.string s),.v (.int _ i)=>match P.underlying t with
  |some .string=>if 0≤i then match s[i.toNat]? with
    |some b=>some (.v (.int .u8 b.toNat))
    |none=>none
   else none
  |_=>none
 |_,_=>none
def cS(P:Program)(t:TypeId):Option (Option IntKind×TypeId):=match P.underlying t with
 |some (.map b a)=>match P.underlying b with
  |some (.int k)=>some (some k,a)
  |some .string=>some (none,a)
  |_=>none
 |_=>none
def gx:Option IntKind→Value→Bool
 |some k,.int a _=>a==k
 |none,.string _=>true
 |_,_=>false
def Yk:Value→Value→Option Bool
 | .int k a,.int c b=>if k=c then some (a==b)else none
 | .string a,.string b=>some (a.toList==b.toList)
 |_,_=>none
def Ke(k:Value):List zc→Nat→Option (Option (Nat×O))
 |[],_=>some none
 |[.v a,v]::l,i=>match Yk k a with
  |some true=>some (some (i,v))
  |some false=>Ke k l (i+1)
  |none=>none
 |_::_,_=>none
def cT(P:Program)(t:TypeId):Option O:=((P.info? t).bind (·.zero)).bind lA
def zl8(Y:Hp):O→Option (List zc)
 | .mp id=>match Y id with
  |some b=>if b.s=0 then some b.es else none
  |none=>none
 | .v (.map none)=>some []
 |_=>none
def Jl(P:Program)(Y:Hp)(t:TypeId)(x a:O)(b:Bool):Option O:=
 match cS P t,zl8 Y x,a with
 |some (c,d),some es,.v k=>if gx c k=true then match Ke k es 0 with
   |some (some (_,v))=>some (if b=true then .yb [v,.v (.bool true)]else v)
   |some none=>(cT P d).map fun z=>if b=true then .yb [z,.v (.bool false)]else z
   |none=>none
  else none
 |_,_,_=>none
def Jm(P:Program)(Y:Hp)(t:TypeId)(x a y:O):Option Hp:=
 match cS P t,x,a with
 |some (c,_),.mp id,.v k=>if gx c k=true then match qf Y y with
   |some (z,Y1)=>match Y1 id with
    |some b=>if b.s=0 then match Ke k b.es 0 with
      |some (some (i,_))=>some (qZ Y1 id (some ⟨b.e,b.s,b.arr,b.es.set i [.v k,z]⟩))
      |some none=>some (qZ Y1 id (some ⟨b.e,b.s,b.arr,b.es++[[.v k,z]]⟩))
      |none=>none
     else none
    |none=>none
   |none=>none
  else none
 |_,_,_=>none
def yQ(P:Program)(Y:Hp)(Z:Nat)(ts:Array TypeId)(b:Builtin)(xs:zc):Option (O×Hp×Nat):=
 match b with
 | .len=>match xs,ts[0]? with
  |[x],some t=>(Qr P t x).map fun y=>(y,Y,Z)
  |_,_=>none
 | .min=>(Ot xs).map fun y=>(y,Y,Z)
 | .max=>(Ou xs).map fun y=>(y,Y,Z)
 | .append=>match xs,ts[0]?,ts[1]? with
  |[s,x],some t,some u=>wU P Y Z t u s x
  |_,_,_=>none
 | .copy=>match xs,ts[0]? with
  |[d,x],some t=>Ig P Y Z t d x
  |_,_=>none
 | .clear=>match xs,ts[0]? with
  |[x],some t=>eY P Y Z t x
  |_,_=>none
 |_=>none
def jQ(C:Ctx)(Y:Hp)(Z:Nat)(f:Option O)(xs:zc):Option (O×Hp×Nat):=
 match f with
 |some (.fn (.func g) first a)=>match C.Γ g with
  |some b=>b (first++xs++a) Y Z
  |none=>none
 |_=>none
def ZK(C:Ctx)(a:Operand→Option O)(Y:Hp)(Z:Nat)(c:Call):Option (O×Hp×Nat):=
 match yS (c.args.toList.map a)with
 |some xs=>match c.callee with
  | .builtin b=>yQ C.P Y Z c.argTypes b xs
  | .value f=>jQ C Y Z (a f) xs
  | .invoke _ _=>none
 |none=>none
def qt(C:Ctx)(d:Operand→Option O)(Y:Hp)(Z:Nat)(o:Op):Option (O×Hp×Nat):=
 match o with
 | .move x=>(d x).map fun y=>(y,Y,Z)
 | .assign x=>(d x).map fun y=>(y,Y,Z)
 | .pick c a b=>match d c with
  |some (.v (.bool true))=>(d a).map fun y=>(y,Y,Z)
  |some (.v (.bool false))=>(d b).map fun y=>(y,Y,Z)
  |_=>none
 | .alloc t=>match q8 C.P t,jr C.P t with
  |some n,some z=>if 0<n∧z.length=n then some (.ref Z 0 0,qZ Y Z (some ⟨t,n,false,[z]⟩),Z+1)else none
  |_,_=>none
 | .box t x=>match q8 C.P t,d x with
  |some n,some y=>if 0<n∧y.cells.length=n∧y.cells.all O.wY=true then some (.ref Z 0 0,qZ Y Z (some ⟨t,n,false,[y.cells]⟩),Z+1)else none
  |_,_=>none
 | .build t e=>match vM d e.toList with
  |some ps=>(zR C.P t ps).map fun y=>(y,Y,Z)
  |none=>none
 | .buildSlice t len e=>match vM d e.toList with
  |some ps=>zv C.P Y Z t len ps
  |none=>none
 | .load t a=>match d a with
  |some p=>(xU C.P Y t p).map fun y=>(y,Y,Z)
  |none=>none
 | .store t a x=>match d a,d x with
  |some p,some y=>(Q2 C.P Y t p y).map fun h=>(.yb [],h,Z)
  |_,_=>none
 | .nilCheck x=>match d x with
  |some (.ref id i j)=>some (.ref id i j,Y,Z)
  |some (.ptr cs)=>some (.ptr cs,Y,Z)
  |_=>none
 | .binOp op t x y _=>match d x,d y with
  |some p,some q=>(Xa (isK y) C.P op t p q).map fun r=>(r,Y,Z)
  |_,_=>none
 | .unOp op _ x=>match d x with
  |some p=>(TV op p).map fun r=>(r,Y,Z)
  |none=>none
 | .convert s dst x=>match d x with
  |some p=>(a7 C.P s dst p).map fun r=>(r,Y,Z)
  |none=>none
 | .makeFunc f first g=>match yS (first.toList.map d),yS (g.toList.map d)with
  |some xs,some ys=>some (.fn f xs ys,Y,Z)
  |_,_=>none
 | .makeSlice t l c=>match d l,d c with
  |some p,some q=>YN C.P Y Z t p q
  |_,_=>none
 | .slice t x lo u none=>match d x with
  |some p=>(js C.P Y t p (lo.map d) (u.map d)).map fun r=>(r,Y,Z)
  |none=>none
 | .fieldAddr t x f=>match d x with
  |some p=>(jj C.P t f p).map fun r=>(r,Y,Z)
  |none=>none
 | .field t x f=>match d x with
  |some p=>(Qe C.P t f p).map fun r=>(r,Y,Z)
  |none=>none
 | .indexAddr t x i=>match d x,d i with
  |some p,some q=>(wb C.P Y t p q).map fun r=>(r,Y,Z)
  |_,_=>none
 | .index t x i=>match d x,d i with
  |some p,some q=>(Q3 C.P t p q).map fun r=>(r,Y,Z)
  |_,_=>none
 | .extract x i=>match d x with
  |some (.yb vs)=>(vs[i]?).map fun r=>(r,Y,Z)
  |_=>none
 | .call c=>ZK C d Y Z c
 | .makeMap t none=>match cS C.P t with
  |some _=>some (.mp Z,qZ Y Z (some ⟨t,0,false,[]⟩),Z+1)
  |none=>none
 | .lookup t x i w=>match d x,d i with
  |some p,some q=>(Jl C.P Y t p q w).map fun r=>(r,Y,Z)
  |_,_=>none
 | .mapUpdate t m k x=>match d m,d k,d x with
  |some p,some q,some y=>(Jm C.P Y t p q y).map fun h=>(.yb [],h,Z)
  |_,_,_=>none
 | .insert t m k x=>match d m,d k,d x with
  |some p,some q,some y=>(Jm C.P Y t p q y).map fun h=>(.yb [],h,Z)
  |_,_,_=>none
 |_=>none
def put(a:Nat→O)(dst:Option Tmp)(x:O):Nat→O:=
 match dst with
 |some d=>qZ a d x
 |none=>a
def Q4(a:Array Oper)(c:Nat→O)(j:Nat):Option Bool:=
 match(a[j]?).bind (·.dst)with
 |some d=>match c d with
  | .v (.bool b)=>some b
  |_=>none
 |none=>none
def jn(C:Ctx)(b:Array Oper)(o:Oper)(a:St):Option St:=
 if Region.wanted o (Q4 b a.σ)=true then
  match qt C (get a.σ) a.Y a.Z o.op with
  |some (x,Y,Z)=>some ⟨put a.σ o.dst x,Y,Z⟩
  |none=>none
 else some ⟨put a.σ o.dst (.yb []),a.Y,a.Z⟩
def Qs(C:Ctx)(a:Array Oper):List Oper→St→Option St
 |[],b=>some b
 |o::l,b=>match jn C a o b with
  |some c=>Qs C a l c
  |none=>none
def iter(f:St→Option (Exit×St)):Nat→St→Option (Exit×St)
 | 0,_=>none
 |n+1,b=>match f b with
  |some (.normal,a)=>iter f n a
  |r=>r
open Classical in
noncomputable def a8 (f:St→Option (Exit×St)) (a:St):Option (Exit×St):=
 if h:∃n,(iter f n a).isSome=true then iter f (Classical.choose h) a else none
def BQ:List Tmp→St→Option St
 |[],a=>some a
 |t::l,a=>match qf a.Y (a.σ t)with
  |some (y,Y1)=>BQ l ⟨qZ a.σ t y,Y1,a.Z⟩
  |none=>none
def KY(b c:St→Option (Exit×St))(d:Nat→O)(p:Tmp):zc→Hp→Nat→Option (Exit×Hp×Nat)
 |[],Y,Z=>some (.normal,Y,Z)
 |x::xs,Y,Z=>match b ⟨qZ d p x,Y,Z⟩with
  |some (.normal,e)=>match c e with
   |some (.normal,a)=>KY b c d p xs a.Y a.Z
   |some (.ret,a)=>some (.ret,a.Y,a.Z)
   |some (.exit i,a)=>some (.exit i,a.Y,a.Z)
   |_=>none
  |_=>none
open Classical in
noncomputable def wB (C:Ctx):Code→St→Option (Exit×St)
 | .skip,d=>some (.normal,d)
 | .region id k _,l=>match BQ (C.fz id) l with
  |some d=>if WU (C.dyn id) d∧kZ (C.lds id) d then match Qs C k k.toList d with
   |some h=>some (.normal,h)
   |none=>none
   else none
  |none=>none
 | .seq a b,d=>match wB C a d with
  |some (.normal,h)=>wB C b h
  |r=>r
 | .cond c x y,d=>match get d.σ c with
  |some (.v (.bool true))=>wB C x d
  |some (.v (.bool false))=>wB C y d
  |_=>none
 | .block id j,d=>match wB C j d with
  |some (.exit i,h)=>if i=id then some (.normal,h)else some (.exit i,h)
  |r=>r
 | .loop j,d=>a8 (wB C j) d
 | .exit id,d=>some (.exit id,d)
 | .ret,d=>some (.ret,d)
 | .label _,d=>some (.normal,d)
 | .rangeFunc f ps a b,d=>match ps.toList,get d.σ f with
  |[p],some (.fn (.func g) [] cap)=>match C.it g with
   |some it=>match it cap d.Y with
    |some (xs,Y1)=>match KY (wB C a) (wB C b) d.σ p xs Y1 d.Z with
     |some (e,Y2,m)=>some (e,⟨d.σ,Y2,m⟩)
     |none=>none
    |none=>none
   |none=>none
  |_,_=>none
 |_,_=>none
def Jn(P:Program)(b:St):ResultVar→Option O
 | .tmp t=>some (b.σ t)
 | .cell a t=>xU P b.Y t (b.σ a)
def WA(P:Program)(fn:Func)(a:St):Option O:=
 match yS (fn.results.toList.map (Jn P a))with
 |some [x]=>some x
 |some xs=>some (.yb xs)
 |none=>none
def ve(args:zc):Nat→O:=fun t=>(args[t]?).getD (.yb [])
noncomputable def yr (C:Ctx) (fn:Func) (args:zc) (Y:Hp) (Z:Nat):Option (O×Hp×Nat):=
 match fn.body with
 |some code=>match wB C code ⟨ve args,Y,Z⟩with
  |some (.normal,a)=>(WA C.P fn a).map fun x=>(x,a.Y,a.Z)
  |some (.ret,a)=>(WA C.P fn a).map fun x=>(x,a.Y,a.Z)
  |_=>none
 |none=>none
noncomputable def zz (C:Ctx) (fn:Func) (args:zc):Option O:=
 match yr C fn args (fun _=>none) 0 with
 |some (x,Y,_)=>(freeze Y x).map (·.1)
 |none=>none
theorem r7(f:St→Option (Exit×St)):∀(n k:Nat) (a:St) (r:Exit×St),iter f n a=some r→iter f (n+k) a=some r:=by
 intro n
 induction n with
 |zero=>intro k a r h;simp[iter]at h
 |succ n c=>
  intro k a r h;rw[show n+1+k=(n+k)+1 from by omega];simp only[iter]at h⊢;split at h
  ·rename_i b d;simp only[c k b r h]
  ·simpa using h
theorem JO{f:St→Option (Exit×St)}{n:Nat}{d:St}{r:Exit×St}(h:iter f n d=some r):a8 f d=some r:=by have c:∃n,(iter f n d).isSome=true:=⟨n,by simp[h]⟩;unfold a8;rw[zjj c];have g:=jN c;obtain⟨i,e⟩:=Option.isSome_iff_exists.1 g;rw[e];have a:=r7 f _ (Classical.choose c) d r h;have b:=r7 f _ n d i e;rw[eL]at b;rw[a]at b;exact b.symm
theorem Wr{f:St→Option (Exit×St)}{a:St}{r:Exit×St}(h:a8 f a=some r):∃n,iter f n a=some r:=by
 unfold a8 at h;split at h
 ·exact⟨_,h⟩
 ·cases h
theorem uo(f:St→Option (Exit×St))(c:St):a8 f c=match f c with
  |some (.normal,a)=>a8 f a
  |r=>r:=by
 cases g:f c with
 |none=>
  simp only[];cases d:a8 f c with
  |none=>rfl
  |some r=>
   obtain⟨n,b⟩:=Wr d;cases n with
   |zero=>simp[iter]at b
   |succ n=>simp[iter,g]at b
 |some p=>
  obtain⟨e,a⟩:=p;by_cases i:e=.normal
  ·subst i;simp only[];cases d:a8 f a with
   |some r=>obtain⟨n,b⟩:=Wr d;exact JO (n:=n+1) (by simp[iter,g,b])
   |none=>
    cases h:a8 f c with
    |none=>rfl
    |some r=>
     obtain⟨n,b⟩:=Wr h;cases n with
     |zero=>simp[iter]at b
     |succ n=>simp only[iter,g]at b;rw[JO b]at d;cases d
  ·have j:iter f 1 c=some (e,a):=by simp only[iter,g];cases e<;>simp_all
   rw[JO j];cases e<;>simp_all
end Go.AM
