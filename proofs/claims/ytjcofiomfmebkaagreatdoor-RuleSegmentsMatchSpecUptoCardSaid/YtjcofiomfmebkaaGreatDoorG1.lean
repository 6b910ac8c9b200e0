/-
The abstract machine, part 1: pure values, what they mean in memory, and that this meaning is kept.
-/
import Derived.WalkKit
import Derived.ChangeAgain
import Derived.Lib.ItoaNum
set_option maxRecDepth 8000
namespace Go.AM
open Go.RowKit
variable {dr:Prop}
inductive PV where
 | v (x:Value)
 | nil
 | agg (cs:List PV)
 | tup (cs:List PV)
 | sl (s:Nat) (es:List (List PV))
 | em
 | ptr (cs:List PV)
 | own (id off n:Nat)
 | ref (id i j:Nat)
 | mp (id:Nat)
 | fn (f:Fn) (first captured:List PV)
def lit:Value→Bool
 | .bool _ | .int _ _ | .string _ | .nilFunc | .pointer none | .nilIface | .map none | .slice (some _) 0 0=>true
 | _=>false
def PV.isCell:PV→Bool
 | .agg _ | .tup _=>false
 | _=>true
inductive RepC (w:World) (S:Nat→Prop):PV→Value→Prop
 | v {x:Value}:lit x=true→RepC w S (.v x) x
 | nil:RepC w S .nil (.slice none 0 0)
 | em {ad:Addr} {cap:Nat}:cap≤maxLen→RepC w S .em (.slice (some ad) 0 cap)
 | agg {cs:List PV} {us:Array Value}:cs.length=us.size→(∀(j:Nat) (pv:PV) (u:Value),cs[j]?=some pv→us[j]?=some u→RepC w S pv u)→RepC w S (.agg cs) (.agg us)
 | tup {cs:List PV} {us:Array Value}:cs.length=us.size→(∀(j:Nat) (pv:PV) (u:Value),cs[j]?=some pv→us[j]?=some u→RepC w S pv u)→RepC w S (.tup cs) (.tuple us)
 | sl {es:List (List PV)} {A:Option Addr} {cap s:Nat} (us:Nat→Nat→Value):(A=none→cap=0)→es.length≤cap→cap≤maxLen→(∀c∈es,c.length=s) →
   (∀(i j:Nat) (c:List PV) (pv:PV),es[i]?=some c→c[j]?=some pv→∃ad,A=some ad∧S ad.block∧w.cell? (ad.add (i*s+j))=some (us i j)∧(us i j).oneCell'=true) →
   (∀(i j:Nat) (c:List PV) (pv:PV),es[i]?=some c→c[j]?=some pv→RepC w S pv (us i j))→RepC w S (.sl s es) (.slice A es.length cap)
 | ptr {cs:List PV} {ad:Addr} (us:Nat→Value):(∀(j:Nat) (pv:PV),cs[j]?=some pv→S ad.block∧w.cell? (ad.add j)=some (us j)) →
   (∀(j:Nat) (pv:PV),cs[j]?=some pv→RepC w S pv (us j))→RepC w S (.ptr cs) (.pointer (some ad))
 | fn {f:Fn} {xs ys:List PV} {us ts:Array Value}:xs.length=us.size→ys.length=ts.size→(∀(j:Nat) (pv:PV) (u:Value),xs[j]?=some pv→us[j]?=some u→RepC w S pv u) →
   (∀(j:Nat) (pv:PV) (u:Value),ys[j]?=some pv→ts[j]?=some u→RepC w S pv u)→RepC w S (.fn f xs ys) (.func f us ts)
structure GI where
 g:Nat
 z:Nat
 s:Nat
inductive RepO (w:World) (S:Nat→Prop) (G:Nat→GI) (nx:Nat):PV→Value→Prop
 | c {pv:PV} {x:Value}:RepC w S pv x→RepO w S G nx pv x
 | own {id off n cap:Nat}:id<nx→n≤cap→cap≤maxLen→(off+cap)*(G id).s=(G id).z→0<(G id).s→RepO w S G nx (.own id off n) (.slice (some ⟨(G id).g,off*(G id).s,none⟩) n cap)
 | ref {id i j:Nat}:id<nx→0<(G id).s→RepO w S G nx (.ref id i j) (.pointer (some ⟨(G id).g,i*(G id).s+j,none⟩))
 | mp {id:Nat}:id<nx→(G id).s=0→RepO w S G nx (.mp id) (.map (some (G id).g))
 | agg {cs:List PV} {us:Array Value}:cs.length=us.size→(∀(j:Nat) (pv:PV) (u:Value),cs[j]?=some pv→us[j]?=some u→RepO w S G nx pv u)→RepO w S G nx (.agg cs) (.agg us)
 | tup {cs:List PV} {us:Array Value}:cs.length=us.size→(∀(j:Nat) (pv:PV) (u:Value),cs[j]?=some pv→us[j]?=some u→RepO w S G nx pv u)→RepO w S G nx (.tup cs) (.tuple us)
 | fn {f:Fn} {xs ys:List PV} {us ts:Array Value}:xs.length=us.size→ys.length=ts.size→(∀(j:Nat) (pv:PV) (u:Value),xs[j]?=some pv→us[j]?=some u→RepO w S G nx pv u) →
   (∀(j:Nat) (pv:PV) (u:Value),ys[j]?=some pv→ts[j]?=some u→RepO w S G nx pv u)→RepO w S G nx (.fn f xs ys) (.func f us ts)
theorem kw (a:Addr) (n:Nat):(a.add n).block=a.block:=by unfold Addr.add;split<;>rfl
theorem J3 (a:Addr) (i j:Nat):(a.add i).add j=a.add (i+j):=by
 unfold Addr.add
 by_cases hi:i=0<;>by_cases hj:j=0<;>simp[hi,hj,Nat.add_assoc]
theorem RepC.mono {w w':World} {S S':Nat→Prop} {pv:PV} {x:Value} (h:RepC w S pv x) (hS:∀b,S b→S' b∧w'.heap[b]?=w.heap[b]?):RepC w' S' pv x:=by
 induction h with
 | v h=>exact .v h
 | nil=>exact .nil
 | em h=>exact .em h
 | agg hl _ ih=>exact .agg hl ih
 | tup hl _ ih=>exact .tup hl ih
 | sl us h0 h1 h2 h3 h4 _ ih =>
   refine .sl us h0 h1 h2 h3 (fun i j c pv hi hj=>?_) ih
   obtain⟨ad,e,hs,hc,h1c⟩:=h4 i j c pv hi hj
   refine⟨ad,e,(hS _ hs).1,?_,h1c⟩
   rw[←hc]
   apply World.cell?_of_block
   rw[kw]
   exact (hS _ hs).2
 | ptr us h1 _ ih =>
   refine .ptr us (fun j pv hj=>?_) ih
   obtain⟨hs,hc⟩:=h1 j pv hj
   refine⟨(hS _ hs).1,?_⟩
   rw[←hc]
   apply World.cell?_of_block
   rw[kw]
   exact (hS _ hs).2
 | fn h1 h2 _ _ i1 i2=>exact .fn h1 h2 i1 i2
theorem RepO.mono {w w':World} {S S':Nat→Prop} {G G':Nat→GI} {nx nx':Nat} {pv:PV} {x:Value} (h:RepO w S G nx pv x) (hS:∀b,S b→S' b∧w'.heap[b]?=w.heap[b]?)
  (hn:nx≤nx') (hG:∀id,id<nx→G' id=G id):RepO w' S' G' nx' pv x:=by
 induction h with
 | c h=>exact .c (h.mono hS)
 | own h1 h2 h3 h4 h5=>rw[←hG _ h1] at h4 h5 ⊢;exact .own (by omega) h2 h3 h4 h5
 | ref h1 h2=>rw[←hG _ h1] at h2 ⊢;exact .ref (by omega) h2
 | mp h1 h2=>rw[←hG _ h1] at h2 ⊢;exact .mp (by omega) h2
 | agg hl _ ih=>exact .agg hl ih
 | tup hl _ ih=>exact .tup hl ih
 | fn h1 h2 _ _ i1 i2=>exact .fn h1 h2 i1 i2
theorem RepC.oneCell {w:World} {S:Nat→Prop} {pv:PV} {x:Value} (h:RepC w S pv x) (hc:pv.isCell=true):x.oneCell'=true:=by
 cases h with
 | v h=>cases x<;>simp_all[lit,Value.oneCell']
 | agg=>simp[PV.isCell] at hc
 | tup=>simp[PV.isCell] at hc
 | _=>rfl
theorem RepO.oneCell {w:World} {S:Nat→Prop} {G:Nat→GI} {nx:Nat} {pv:PV} {x:Value} (h:RepO w S G nx pv x) (hc:pv.isCell=true):x.oneCell'=true:=by
 cases h with
 | c h=>exact h.oneCell hc
 | agg=>simp[PV.isCell] at hc
 | tup=>simp[PV.isCell] at hc
 | _=>rfl
structure Blk where
 e:TypeId
 s:Nat
 arr:Bool
 es:List (List PV)
abbrev Hp:=Nat→Option Blk
def upd {α:Type} (f:Nat→α) (k:Nat) (x:α):Nat→α:=fun i=>if i=k then x else f i
@[simp] theorem qd {α:Type} (f:Nat→α) (k:Nat) (x:α):upd f k x k=x:=by simp[upd]
theorem zT {α:Type} (f:Nat→α) (k i:Nat) (x:α) (h:i≠k):upd f k x i=f i:=by simp[upd,h]
def CellRep (w:World) (S:Nat→Prop) (G:Nat→GI) (nx:Nat) (arr:Bool) (pv:PV) (u:Value):Prop :=
 (arr=true→RepC w S pv u)∧RepO w S G nx pv u∧u.oneCell'=true
structure BlkCells (P:Program) (w:World) (S:Nat→Prop) (G:Nat→GI) (nx:Nat) (gi:GI) (b:Blk):Prop where
 size:(P.info? b.e).map (·.size)=some gi.s
 len:∀c∈b.es,c.length=gi.s
 fit:b.es.length*gi.s≤gi.z
 row:∃cur:Array Value,w.heap[gi.g]?=some (.cells cur b.e (0,0))∧cur.size=gi.z ∧
  ∀(i j:Nat) (c:List PV) (pv:PV),b.es[i]?=some c→c[j]?=some pv→∃u,cur[i*gi.s+j]?=some u∧CellRep w S G nx b.arr pv u
def zgW (w:World) (S:Nat→Prop) (c:List PV) (e:MapEntry):Prop:=∃(k:Value) (pv:PV),c=[.v k,pv]∧e.key=k∧lit k=true∧RepC w S pv e.val
structure BlkMap (w:World) (S:Nat→Prop) (gi:GI) (b:Blk):Prop where
 row:∃(en:Array MapEntry) (clock:Nat),w.heap[gi.g]?=some (.map en clock)∧en.size=b.es.length∧∀(i:Nat) (c:List PV) (e:MapEntry),b.es[i]?=some c→en[i]?=some e→zgW w S c e
structure BlkRep (P:Program) (w:World) (S:Nat→Prop) (G:Nat→GI) (nx:Nat) (gi:GI) (b:Blk):Prop where
 bs:b.s=gi.s
 cel:0<gi.s→BlkCells P w S G nx gi b
 ent:gi.s=0→BlkMap w S gi b
theorem BlkRep.size {P:Program} {w:World} {S:Nat→Prop} {G:Nat→GI} {nx:Nat} {gi:GI} {b:Blk} (h:BlkRep P w S G nx gi b) (h0:0<gi.s):(P.info? b.e).map (·.size)=some gi.s:=(h.cel h0).size
theorem BlkRep.len {P:Program} {w:World} {S:Nat→Prop} {G:Nat→GI} {nx:Nat} {gi:GI} {b:Blk} (h:BlkRep P w S G nx gi b) (h0:0<gi.s):∀c∈b.es,c.length=gi.s:=(h.cel h0).len
theorem BlkRep.fit {P:Program} {w:World} {S:Nat→Prop} {G:Nat→GI} {nx:Nat} {gi:GI} {b:Blk} (h:BlkRep P w S G nx gi b) (h0:0<gi.s):b.es.length*gi.s≤gi.z:=(h.cel h0).fit
theorem BlkRep.row {P:Program} {w:World} {S:Nat→Prop} {G:Nat→GI} {nx:Nat} {gi:GI} {b:Blk} (h:BlkRep P w S G nx gi b) (h0:0<gi.s):∃cur:Array Value,w.heap[gi.g]?=some (.cells cur b.e (0,0))∧cur.size=gi.z ∧
  ∀(i j:Nat) (c:List PV) (pv:PV),b.es[i]?=some c→c[j]?=some pv→∃u,cur[i*gi.s+j]?=some u∧CellRep w S G nx b.arr pv u:=(h.cel h0).row
theorem BlkRep.ofCells {P:Program} {w:World} {S:Nat→Prop} {G:Nat→GI} {nx:Nat} {gi:GI} {b:Blk} (h0:0<gi.s) (hb:b.s=gi.s) (h:BlkCells P w S G nx gi b):BlkRep P w S G nx gi b :=
 ⟨hb,fun _=>h,fun e=>by omega⟩
def zpV (P:Program) (g:Nat):Prop:=g<P.globals.size∧∃zero t,((begin P (fun _ _=>0) default).world.heap[g]?).bind Obj.row?=some (zero,t)∧zero.size=1∧P.buildable t=true∧P.cellTypes P.depth t=some [t]∧P.underlying t=some (.int .i64)
def ZP:List (Nat×IntKind×List Int):=[]++[(5,.u64,Lib.pow10Tab)]
def zkh (w:World) (S:Nat→Prop) (t:Nat×IntKind×List Int):Prop:=S t.1∧∃ty fz,w.heap[t.1]?=some (.cells (t.2.2.map fun z=>Value.int t.2.1 z).toArray ty fz)
def Glo (P:Program) (w:World) (S:Nat→Prop):Prop:=(∀g,zpV P g→S g∧∃m,w.cell? ⟨g,0,none⟩=some (.int .i64 m))∧∀t∈ZP,zkh w S t
theorem Glo.mono {P:Program} {w w':World} {S S':Nat→Prop} (h:Glo P w S) (hS:∀b,S b→S' b∧w'.heap[b]?=w.heap[b]?):Glo P w' S':=by
 refine⟨fun g hg=>?_,fun t ht=>?_⟩
 ·obtain⟨h1,m,h2⟩:=h.1 g hg
  refine⟨(hS g h1).1,m,?_⟩
  rw[←h2]
  exact World.cell?_of_block (hS g h1).2
 ·obtain⟨h1,ty,fz,h2⟩:=h.2 t ht
  exact⟨(hS _ h1).1,ty,fz,(hS _ h1).2.trans h2⟩
theorem zki {w:World} {a:Addr} {v:Value} (h:w.cell? a=some v):a.block<w.heap.size:=by
 unfold World.cell? at h
 split at h
 ·rename_i hb;exact (Array.getElem?_eq_some_iff.1 hb).1
 ·cases h
theorem Glo.of_shape {P:Program} {w:World} (h:w.ShapedOpen P) (ht:∀t∈ZP,zkh w (fun b=>b<w.heap.size) t):Glo P w (fun b=>b<w.heap.size):=by
 refine⟨?_,ht⟩
 rintro g ⟨hg,zero,t,h0,hz,hb,hc,hu⟩
 obtain⟨cs,hh,hs,hr⟩:=h.1 g zero t hg h0
 obtain⟨ts,hts,_,hall⟩:=hr hb
 rw[hc] at hts
 cases hts
 have h1:0<cs.size:=by omega
 obtain⟨u,hu',hok⟩:=hall 0 cs[0] (by simp[h1])
 have:u=t:=by simpa using hu'.symm
 subst this
 have hcell:w.cell? ⟨g,0,none⟩=some cs[0]:=by simp[World.cell?,hh,h1]
 refine⟨zki hcell,?_⟩
 rw[hcell]
 unfold Cell.ok at hok
 rw[hu] at hok
 cases hv:cs[0]<;>rw[hv] at hok<;>simp_all
structure Inv (P:Program) (w:World) (S:Nat→Prop) (G:Nat→GI) (hp:Hp) (nx:Nat):Prop where
 st:∀b,S b→b<w.heap.size
 top:∀id b,hp id=some b→id<nx
 live:∀id b,hp id=some b→BlkRep P w S G nx (G id) b
 apart:∀id b,hp id=some b→¬S (G id).g
 inj:∀id id' b b',hp id=some b→hp id'=some b'→(G id).g=(G id').g→id=id'
 glo:Glo P w S
theorem BlkRep.lt {P:Program} {w:World} {S:Nat→Prop} {G:Nat→GI} {nx:Nat} {gi:GI} {b:Blk} (h:BlkRep P w S G nx gi b):gi.g<w.heap.size:=by
 rcases Nat.eq_zero_or_pos gi.s with h0 | h0
 ·obtain⟨en,clock,h1,_⟩:=(h.ent h0).row
  exact (Array.getElem?_eq_some_iff.1 h1).1
 ·obtain⟨cur,h1,_⟩:=h.row h0
  exact (Array.getElem?_eq_some_iff.1 h1).1
theorem CellRep.mono {w w':World} {S S':Nat→Prop} {G G':Nat→GI} {nx nx':Nat} {arr:Bool} {pv:PV} {u:Value} (h:CellRep w S G nx arr pv u) (hS:∀b,S b→S' b∧w'.heap[b]?=w.heap[b]?)
  (hn:nx≤nx') (hG:∀id,id<nx→G' id=G id):CellRep w' S' G' nx' arr pv u :=
 ⟨fun ha=>(h.1 ha).mono hS,h.2.1.mono hS hn hG,h.2.2⟩
theorem BlkRep.mono {P:Program} {w w':World} {S S':Nat→Prop} {G G':Nat→GI} {nx nx':Nat} {gi:GI} {b:Blk} (h:BlkRep P w S G nx gi b) (hS:∀b,S b→S' b∧w'.heap[b]?=w.heap[b]?)
  (hn:nx≤nx') (hG:∀id,id<nx→G' id=G id) (hb:w'.heap[gi.g]?=w.heap[gi.g]?):BlkRep P w' S' G' nx' gi b:=by
 refine⟨h.bs,fun h0=>⟨h.size h0,h.len h0,h.fit h0,?_⟩,fun h0=>⟨?_⟩⟩
 ·obtain⟨cur,h1,h2,h3⟩:=h.row h0
  refine⟨cur,hb.trans h1,h2,fun i j c pv hi hj=>?_⟩
  obtain⟨u,h4,h5⟩:=h3 i j c pv hi hj
  exact⟨u,h4,h5.mono hS hn hG⟩
 ·obtain⟨en,clock,h1,h2,h3⟩:=(h.ent h0).row
  refine⟨en,clock,hb.trans h1,h2,fun i c e hi he=>?_⟩
  obtain⟨k,pv,e1,e2,e3,e4⟩:=h3 i c e hi he
  exact⟨k,pv,e1,e2,e3,e4.mono hS⟩
structure Fr (dr:Prop) (w:World) (L:Nat→Prop) (w':World):Prop where
 os:w'.os=w.os
 tape:w'.tape=w.tape
 output:w'.output=w.output
 size:w.heap.size≤w'.heap.size
 drawn:dr→w.drawn≤w'.drawn
 block:∀k,k<w.heap.size→¬L k→w'.heap[k]?=w.heap[k]?
theorem Fr.refl (w:World) (L:Nat→Prop):Fr dr w L w:=⟨rfl,rfl,rfl,Nat.le_refl _,fun _=>Nat.le_refl _,fun _ _ _=>rfl⟩
theorem Fr.trans {w w' w'':World} {L:Nat→Prop} (h:Fr dr w L w') {L':Nat→Prop} (h':Fr dr w' L' w'') (hL:∀b,b<w.heap.size→L' b→L b):Fr dr w L w'' :=
 ⟨h'.os.trans h.os,h'.tape.trans h.tape,h'.output.trans h.output,Nat.le_trans h.size h'.size,fun d=>Nat.le_trans (h.drawn d) (h'.drawn d),fun k hk hn=>(h'.block k (Nat.lt_of_lt_of_le hk h.size) (fun hl=>hn (hL k hk hl))).trans (h.block k hk hn)⟩
theorem Fr.drew (w:World) (L:Nat→Prop):Fr dr w L w.drew:=⟨rfl,rfl,rfl,Nat.le_refl _,fun _=>Nat.le_succ _,fun _ _ _=>rfl⟩
structure St where
 σ:Nat→PV
 hp:Hp
 nx:Nat
def zkf (D:Nat):Deferred:={ target:=.collected D,args:=#[] }
def Marks (n0:Nat) (w:World) (S:Nat→Prop) (hp:Hp) (G:Nat→GI) (ds:List Deferred):Prop:=n0≤w.heap.size∧∃Ds:List Nat,ds=Ds.map zkf∧Ds.Nodup∧∀D∈Ds,n0≤D∧w.heap[D]?=some (.deferred (some []))∧¬S D∧∀id b,hp id=some b→(G id).g≠D
theorem Marks.nil {n0:Nat} {w:World} {S:Nat→Prop} {hp:Hp} {G:Nat→GI} (h:n0≤w.heap.size):Marks n0 w S hp G []:=⟨h,[],rfl,by simp,by simp⟩
structure SimAt (dr:Prop) (P:Program) (w0:World) (S0 L:Nat→Prop) (N nx0:Nat) (G0:Nat→GI) (n0:Nat) (st:St) (S:Nat→Prop) (G:Nat→GI) (a:Act) (w:World):Prop where
 inv:Inv P w S G st.hp st.nx
 slots:∀t,RepO w S G st.nx (st.σ t) (a.tmps.getD t undef)
 size:a.tmps.size=N
 defers:Marks n0 w S st.hp G a.defers
 s0:∀b,S0 b→S b
 s1:∀b,S b→S0 b∨L b∨w0.heap.size≤b
 own:∀id b,st.hp id=some b→L (G id).g∨w0.heap.size≤(G id).g
 fr:Fr dr w0 L w
 up:nx0≤st.nx
 loc:∀id,id<nx0→G id=G0 id
def Sim (dr:Prop) (P:Program) (w0:World) (S0 L:Nat→Prop) (N nx0:Nat) (G0:Nat→GI) (n0:Nat) (st:St) (a:Act) (w:World):Prop:=∃S G,SimAt dr P w0 S0 L N nx0 G0 n0 st S G a w
abbrev Spec:=List PV→Hp→Nat→Option (PV×Hp×Nat)
abbrev jY:=List PV→Hp→Option (List PV×Hp)
structure Ctx where
 P:Program
 Γ:FuncId→Option Spec
 dyn:Nat→List (Tmp×Tmp):=fun _=>[]
 lds:Nat→List Tmp:=fun _=>[]
 bk:FuncId→Bool:=fun _=>false
 fz:Nat→List Tmp:=fun _=>[]
 it:FuncId→Option jY:=fun _=>none
def zgX (st:St) (a b:Tmp):Prop:=∀id i j,st.σ a=.ref id i j→∃id' i' j' blk,st.σ b=.ref id' i' j'∧id≠id'∧st.hp id'=some blk∧blk.arr=false
def xM (D:List (Tmp×Tmp)) (st:St):Prop:=∀p∈D,zgX st p.1 p.2
def PV.shut1:PV→Bool
 | .v _ | .nil | .em | .sl _ _ | .ptr _=>true
 | _=>false
def PV.shut:PV→Bool
 | .agg cs=>cs.all PV.shut1
 | x=>x.shut1
def PV.shutZ:PV→Bool
 | .tup _=>true
 | x=>x.shut
abbrev zB:Nat:=1000000
def zsQ (L:List Tmp) (st:St):Prop:=∀s∈L,(∀id o n,st.σ s≠.own id o n)∧∀id i j,st.σ s=.ref id i j→id<st.nx∧∃blk,st.hp id=some blk∧blk.arr=false
def xi (L:List Tmp) (st:St):Prop:=∀s∈L,((∀id o n,st.σ s≠.own id o n)∧∀id i j,st.σ s=.ref id i j→id<st.nx∧∃blk,st.hp id=some blk∧blk.arr=false)∧(zB≤s→(st.σ (s - zB)).shutZ=true)
def XG:Value→Option PV
 | .slice none 0 0=>some .nil
 | .bool b=>some (.v (.bool b))
 | .int k n=>some (.v (.int k n))
 | .string s=>some (.v (.string s))
 | .nilFunc=>some (.v .nilFunc)
 | .pointer none=>some (.v (.pointer none))
 | .nilIface=>some (.v .nilIface)
 | .map none=>some (.v (.map none))
 | _=>none
def ofCells:List Value→Option (List PV)
 | []=>some []
 | x::l=>match XG x,ofCells l with
   | some p,some r=>some (p::r)
   | _,_=>none
def zaB:Value→Option PV
 | .agg cs=>(ofCells cs.toList).map .agg
 | x=>XG x
def get (σ:Nat→PV):Operand→Option PV
 | .tmp t=>some (σ t)
 | .const x=>zaB x
 | .func f=>some (.fn (.func f) [] [])
 | .global _=>none
def zS (P:Program) (t:TypeId):Option Nat:=(P.info? t).map (·.size)
def wL (P:Program) (t:TypeId):Option Nat:=(P.info? t).map (·.bytes)
def wy (P:Program) (t:TypeId):Option (List PV):=((P.info? t).bind (·.zero)).bind fun z=>ofCells z.cells.toList
def qE (P:Program) (t:TypeId):Option Bool:=(P.underlying t).map fun
 | .struct _ | .array _ _=>true
 | _=>false
def qG (P:Program) (t:TypeId):Option TypeId:=match P.underlying t with
 | some (.slice e)=>some e
 | _=>none
def zn (P:Program) (t:TypeId) (f:Nat):Option (Nat×Nat×Bool):=match P.underlying t with
 | some (.struct fs)=>match fs[f]? with
   | some x=>match zS P x.type,qE P x.type with
     | some n,some a=>some (x.offset,n,a)
     | _,_=>none
   | none=>none
 | _=>none
def PV.cells:PV→List PV
 | .agg cs=>cs
 | x=>[x]
def zr (P:Program) (t:TypeId) (cs:List PV):Option PV :=
 match qE P t,zS P t with
 | some true,some n=>if n≤cs.length then some (.agg (cs.take n)) else none
 | some false,some _=>cs[0]?
 | _,_=>none
def PV.cellOpen:PV→Bool
 | .own _ _ _=>true
 | _=>false
def PV.noOwn:PV→Bool
 | .agg cs=>!cs.any PV.cellOpen
 | .own _ _ _=>false
 | _=>true
def qh (hp:Hp):PV→Option (PV×Hp)
 | .own id off n=>match hp id with
   | some b=>if b.arr=true∧off+n≤b.es.length then some (.sl b.s ((b.es.drop off).take n),upd hp id none) else none
   | none=>none
 | .v x=>some (.v x,hp)
 | .nil=>some (.nil,hp)
 | .sl s es=>some (.sl s es,hp)
 | .em=>some (.em,hp)
 | .ptr cs=>some (.ptr cs,hp)
 | .fn f xs ys=>if xs.all PV.shut=true∧ys.all PV.shut=true then some (.fn f xs ys,hp) else none
 | _=>none
def zW (hp:Hp):List PV→Option (List PV×Hp)
 | []=>some ([],hp)
 | x::l=>match qh hp x with
   | some (y,hp1)=>match zW hp1 l with
     | some (r,hp2)=>some (y::r,hp2)
     | none=>none
   | none=>none
def zE (hp:Hp):PV→Option (PV×Hp)
 | .agg cs=>match zW hp cs with
   | some (l,h)=>some (.agg l,h)
   | none=>none
 | x=>qh hp x
def zj (hp:Hp):List PV→Option (List PV×Hp)
 | []=>some ([],hp)
 | x::l=>match zE hp x with
   | some (y,hp1)=>match zj hp1 l with
     | some (r,hp2)=>some (y::r,hp2)
     | none=>none
   | none=>none
def freeze (hp:Hp):PV→Option (PV×Hp)
 | .tup cs=>match zj hp cs with
   | some (l,h)=>some (.tup l,h)
   | none=>none
 | x=>zE hp x
def view (hp:Hp) (n:Nat):PV→Option (List (List PV))
 | .nil=>some []
 | .em=>some []
 | .sl s es=>if s=n then some es else none
 | .own id off k=>match hp id with
   | some b=>if b.arr=true∧b.s=n∧off+k≤b.es.length then some ((b.es.drop off).take k) else none
   | none=>none
 | _=>none
def zsR (op:BinOp) (k:IntKind) (a b:Int):Option PV :=
 match op with
 | .add=>some (.v (.int k (k.wrap (a+b))))
 | .sub=>some (.v (.int k (k.wrap (a - b))))
 | .mul=>some (.v (.int k (k.wrap (a*b))))
 | .quo=>if b=0 then none else some (.v (.int k (k.wrap (a.tdiv b))))
 | .rem=>if b=0 then none else some (.v (.int k (a.tmod b)))
 | .eql=>some (.v (.bool (a==b)))
 | .neq=>some (.v (.bool (a != b)))
 | .lss=>some (.v (.bool (decide (a<b))))
 | .leq=>some (.v (.bool (decide (a≤b))))
 | .gtr=>some (.v (.bool (decide (a > b))))
 | .geq=>some (.v (.bool (decide (a ≥ b))))
 | .and=>some (.v (.int k (k.wrap (BitVec.ofInt k.bits a &&& BitVec.ofInt k.bits b).toNat)))
 | .or=>some (.v (.int k (k.wrap (BitVec.ofInt k.bits a ||| BitVec.ofInt k.bits b).toNat)))
 | .xor=>some (.v (.int k (k.wrap (BitVec.ofInt k.bits a ^^^ BitVec.ofInt k.bits b).toNat)))
 | .andNot=>some (.v (.int k (k.wrap (BitVec.ofInt k.bits a &&& ~~~ BitVec.ofInt k.bits b).toNat)))
 | .shr=>if b<0 then none else some (.v (.int k (a.fdiv (2 ^ (min b.toNat k.bits)))))
 | .shl=>if b<0 then none else some (.v (.int k (k.wrap (a*2 ^ (min b.toNat k.bits)))))
def zsS (op:BinOp) (a b:ByteArray):Option PV :=
 match op with
 | .add=>if a.size+b.size≤maxLen then some (.v (.string (a++b))) else none
 | .eql=>some (.v (.bool (a.toList==b.toList)))
 | .neq=>some (.v (.bool (!(a.toList==b.toList))))
 | .lss=>some (.v (.bool (Op.bytesLess a.toList b.toList)))
 | .leq=>some (.v (.bool (Op.bytesLess a.toList b.toList||a.toList==b.toList)))
 | .gtr=>some (.v (.bool (!(Op.bytesLess a.toList b.toList||a.toList==b.toList))))
 | .geq=>some (.v (.bool (!(Op.bytesLess a.toList b.toList))))
 | _=>none
def qp:List Nat→List PV→List PV→Option Bool
 | [],_,_=>some true
 | 0::ks,.v (.int k a)::xs,.v (.int k' b)::ys=>if k=k' then (qp ks xs ys).map ((a==b)&&·) else none
 | 1::ks,.v (.bool a)::xs,.v (.bool b)::ys=>(qp ks xs ys).map ((a==b)&&·)
 | 2::ks,.v (.string a)::xs,.v (.string b)::ys=>(qp ks xs ys).map ((a==b)&&·)
 | _,_,_=>none
def zsE (P:Program) (t:TypeId):Option Nat:=match P.underlying t with
 | some (.int _)=>some 0
 | some .bool=>some 1
 | some .string=>some 2
 | _=>none
def zih (P:Program):Nat→List Field→Option (List Nat)
 | _,[]=>some []
 | i,f::fs=>if f.offset=i∧f.name≠ "_" then match zsE P f.type,zih P (i+1) fs with
   | some k,some ks=>some (k::ks)
   | _,_=>none
   else none
def zuT (P:Program) (t:TypeId):Option (List Nat):=if P.stoodInHeld t=true then none else match P.underlying t with
 | some (.struct gs)=>match zih P 0 gs.toList with
   | some ks=>if zS P t=some ks.length then some ks else none
   | none=>none
 | _=>none
def zii (P:Program):Nat→List Field→Option (List Nat)
 | _,[]=>some []
 | i,f::fs=>if f.offset=i∧f.name≠ "_" then match zsE P f.type with
   | some k=>match zii P (i+1) fs with
     | some ks=>some (k::ks)
     | none=>none
   | none=>match zuT P f.type with
     | some k1=>match zii P (i+k1.length) fs with
       | some ks=>some (k1++ks)
       | none=>none
     | none=>none
   else none
def znv (P:Program) (t:TypeId):Option (List Nat) :=
 if P.stoodInHeld t=true∨P.eqGuardType P.depth t=true then none else
 match P.underlying t with
 | some (.struct fs)=>zii P 0 fs.toList
 | _=>none
def QY:PV→Option Bool
 | .nil=>some true
 | .em=>some false
 | .own _ _ _=>some false
 | .sl _ (_::_)=>some false
 | _=>none
def QZ (P:Program) (op:BinOp) (t:TypeId):PV→PV→Option PV
 | .v (.int k a),.v (.int k' b)=>if k=k' then zsR op k a b else none
 | .v (.string a),.v (.string b)=>zsS op a b
 | .v (.bool a),.v (.bool b)=>match op,P.underlying t with
   | .eql,some .bool=>some (.v (.bool (a==b)))
   | .neq,some .bool=>some (.v (.bool (!(a==b))))
   | _,_=>none
 | .agg xs,.agg ys=>match znv P t with
   | some ks=>match op with
     | .eql=>(qp ks xs ys).map fun r=>.v (.bool r)
     | .neq=>(qp ks xs ys).map fun r=>.v (.bool !r)
     | _=>none
   | none=>none
 | p,.nil=>match qG P t,QY p,op with
   | some _,some r,.eql=>some (.v (.bool r))
   | some _,some r,.neq=>some (.v (.bool !r))
   | _,_,_=>none
 | _,_=>none
def zkj (P:Program) (t:TypeId):Bool:=match P.underlying t with
 | some (.interface _)=>true
 | _=>false
def isK:Operand→Bool
 | .const _=>true
 | _=>false
def znw (P:Program) (op:BinOp) (t:TypeId):Option PV:=if zkj P t=true then match op with
 | .eql=>some (.v (.bool true))
 | .neq=>some (.v (.bool false))
 | _=>none
 else none
def zco (c:Bool) (P:Program) (op:BinOp) (t:TypeId) (p q:PV):Option PV:=match c,q,p with
 | true,.v .nilIface,.v .nilIface=>znw P op t
 | _,q,p=>QZ P op t p q
@[simp] theorem binC_tmp (P:Program) (op:BinOp) (t:TypeId) (p q:PV):zco false P op t p q=QZ P op t p q:=rfl
@[simp] theorem isK_tmp (t:Tmp):isK (.tmp t)=false:=rfl
@[simp] theorem isK_const (v:Value):isK (.const v)=true:=rfl
@[simp] theorem isK_func (f:FuncId):isK (.func f)=false:=rfl
@[simp] theorem binC_int (c:Bool) (P:Program) (op:BinOp) (t:TypeId) (p:PV) (k:IntKind) (n:Int):zco c P op t p (.v (.int k n))=QZ P op t p (.v (.int k n)):=by cases c<;>rfl
@[simp] theorem binC_str (c:Bool) (P:Program) (op:BinOp) (t:TypeId) (p:PV) (s:ByteArray):zco c P op t p (.v (.string s))=QZ P op t p (.v (.string s)):=by cases c<;>rfl
@[simp] theorem binC_bool (c:Bool) (P:Program) (op:BinOp) (t:TypeId) (p:PV) (b:Bool):zco c P op t p (.v (.bool b))=QZ P op t p (.v (.bool b)):=by cases c<;>rfl
@[simp] theorem binC_nil (c:Bool) (P:Program) (op:BinOp) (t:TypeId) (p:PV):zco c P op t p .nil=QZ P op t p .nil:=by cases c<;>rfl
@[simp] theorem binC_nilI (P:Program) (op:BinOp) (t:TypeId):zco true P op t (.v .nilIface) (.v .nilIface)=znw P op t:=rfl
def unA (op:UnOp):PV→Option PV
 | .v (.bool b)=>match op with
   | .not=>some (.v (.bool !b))
   | _=>none
 | .v (.int k n)=>match op with
   | .neg=>some (.v (.int k (k.wrap (0 - n))))
   | _=>none
 | _=>none
def VV (P:Program) (src dst:TypeId):PV→Option PV
 | .v (.int _ n)=>match P.underlying src,P.underlying dst with
   | some _,some (.int k)=>some (.v (.int k (k.wrap n)))
   | _,_=>none
 | .v (.string s)=>match P.underlying src,P.underlying dst with
   | some _,some .string=>some (.v (.string s))
   | _,_=>none
 | _=>none
def yx (dflt:Nat):Option (Option PV)→Option Nat
 | none=>some dflt
 | some (some (.v (.int _ i)))=>if 0≤i then some i.toNat else none
 | _=>none
def wB (P:Program) (hp:Hp) (t:TypeId) (x:PV) (lo hi:Option (Option PV)):Option PV :=
 match P.underlying t,x with
 | some .string,.v (.string s)=>match yx 0 lo,yx s.size hi with
   | some l,some h=>if l≤h∧h≤s.size then some (.v (.string (s.extract l h))) else none
   | _,_=>none
 | some (.slice e),.sl s es=>match zS P e,yx 0 lo,yx es.length hi with
   | some n,some l,some h=>if s=n∧l≤h∧h≤es.length then some (.sl s ((es.drop l).take (h - l))) else none
   | _,_,_=>none
 | some (.slice e),.nil=>match zS P e,yx 0 lo,yx 0 hi with
   | some _,some l,some h=>if l=0∧h=0 then some .nil else none
   | _,_,_=>none
 | some (.slice e),.own id off n=>match zS P e,yx 0 lo,yx n hi with
   | some m,some l,some h=>match hp id with
     | some b=>if b.s=m∧l≤h∧h≤n then some (if l=0 then .own id off h else if h=l then .sl m [] else .own id (off+l) (h - l)) else none
     | none=>none
   | _,_,_=>none
 | _,_=>none
def Ye (k:IntKind) (x:Int):List PV→Option PV
 | []=>some (.v (.int k x))
 | .v (.int k' y)::l=>if k=k' then Ye k (if y<x then y else x) l else none
 | _=>none
def zsT:List PV→Option PV
 | .v (.int k x)::l=>Ye k x l
 | _=>none
def Yf (k:IntKind) (x:Int):List PV→Option PV
 | []=>some (.v (.int k x))
 | .v (.int k' y)::l=>if k=k' then Yf k (if y > x then y else x) l else none
 | _=>none
def zsU:List PV→Option PV
 | .v (.int k x)::l=>Yf k x l
 | _=>none
def VW (P:Program) (t:TypeId):PV→Option PV
 | .v (.string s)=>match P.underlying t with
   | some .string=>some (.v (.int .i64 s.size))
   | _=>none
 | .v (.slice (some _) 0 0)=>(qG P t).map fun _=>.v (.int .i64 0)
 | .sl _ es=>(qG P t).map fun _=>.v (.int .i64 es.length)
 | .nil=>(qG P t).map fun _=>.v (.int .i64 0)
 | .em=>(qG P t).map fun _=>.v (.int .i64 0)
 | .own _ _ n=>(qG P t).map fun _=>.v (.int .i64 n)
 | _=>none
def qO (cs:List PV) (off:Nat):List PV→List PV
 | []=>cs
 | x::l=>qO (cs.set off x) (off+1) l
def zR (place:Nat→Option (Nat×Nat)) (cs:List PV):List (Nat×PV)→Option (List PV)
 | []=>some cs
 | (i,x)::rest=>match place i with
   | some (off,n)=>if x.cells.length=n∧off+n≤cs.length∧x.cells.all PV.isCell=true then zR place (qO cs off x.cells) rest else none
   | none=>none
def qu {α:Type}:List (Option α)→Option (List α)
 | []=>some []
 | some x::l=>(qu l).map (x::·)
 | none::_=>none
def yE (ρ:Operand→Option PV):List (Nat×Operand)→Option (List (Nat×PV))
 | []=>some []
 | (i,x)::l=>match ρ x,yE ρ l with
   | some p,some r=>some ((i,p)::r)
   | _,_=>none
def jQ (P:Program) (t:TypeId):Option (List (Nat×Nat)):=match P.underlying t with
 | some (.struct fs)=>fs.toList.mapM (fun f=>(P.info? f.type).map fun i=>(f.offset,i.size))
 | _=>none
def zx (P:Program) (t:TypeId) (parts:List (Nat×PV)):Option PV :=
 match jQ P t,wy P t with
 | some pl,some z=>(zR (fun i=>pl[i]?) z parts).map .agg
 | none,some z=>match P.underlying t with
   | some (.array _ e)=>match zS P e with
     | some n=>(zR (fun i=>some (i*n,n)) z parts).map .agg
     | none=>none
   | _=>none
 | _,_=>none
def zf (hp:Hp):List (Nat×PV)→Option (List (Nat×PV)×Hp)
 | []=>some ([],hp)
 | (i,x)::l=>match zE hp x with
   | some (y,hp1)=>match zf hp1 l with
     | some (r,hp2)=>some ((i,y)::r,hp2)
     | none=>none
   | none=>none
def zo (n:Nat) (es:List (List PV)):List (Nat×PV)→Option (List (List PV))
 | []=>some es
 | (i,x)::l=>if x.cells.length=n∧i<es.length∧x.cells.all PV.isCell=true then zo n (es.set i x.cells) l else none
def zh (P:Program) (hp:Hp) (nx:Nat) (t:TypeId) (len:Nat) (parts:List (Nat×PV)):Option (PV×Hp×Nat) :=
 match qG P t with
 | some e=>match zS P e,wy P e,zf hp parts with
   | some n,some z,some (ps,hp1)=>if 0<n∧z.length=n∧len*n≤16777216 then
     match zo n (List.replicate len z) ps with
     | some es=>some (.own nx 0 len,upd hp1 nx (some ⟨e,n,true,es⟩),nx+1)
     | none=>none
     else none
   | _,_,_=>none
 | none=>none
def yV (P:Program) (hp:Hp) (nx:Nat) (t:TypeId):PV→PV→Option (PV×Hp×Nat)
 | .v (.int _ l),.v (.int _ c)=>match qG P t with
   | some e=>match zS P e,wL P e,wy P e with
     | some n,some by_,some z=>if 0<n∧z.length=n∧0≤l∧l≤c∧c.toNat≤maxLen∧c.toNat*by_≤140737488355328 then
       some (.own nx 0 l.toNat,upd hp nx (some ⟨e,n,true,List.replicate l.toNat z⟩),nx+1)
       else none
     | _,_,_=>none
   | none=>none
 | _,_=>none
def zuC (P:Program) (u:TypeId):Bool:=match P.underlying u with
 | some .string=>true
 | _=>false
def znx (P:Program) (e:TypeId):Bool:=match P.info? e with
 | some i=>match i.zero with
   | some (.int .u8 z)=>z==0&&i.size==1&&i.bytes==1
   | _=>false
 | none=>false
def zeS (P:Program) (hp:Hp) (n:Nat) (e t u:TypeId):PV→Option (List (List PV))
 | .v (.string b)=>if zuC P u=true∧znx P e=true then some (b.data.toList.map fun c=>[.v (.int .u8 c.toNat)]) else none
 | x=>if u=t then view hp n x else none
def qY (P:Program) (hp:Hp) (nx:Nat) (t u:TypeId) (s x:PV):Option (PV×Hp×Nat) :=
 match qG P t with
 | some e=>match zS P e,wL P e,wy P e with
   | some n,some by_,some z=>match zeS P hp n e t u x with
     | some xs=>match s with
       | .nil =>
         if 0<n∧z.length=n∧xs.length≤maxLen∧xs.length*by_≤140737488355328 then
          if xs.length=0 then some (.nil,hp,nx)
          else some (.own nx 0 xs.length,upd hp nx (some ⟨e,n,true,xs⟩),nx+1)
         else none
       | .own id 0 k=>match hp id with
         | some b=>if b.arr=true∧b.e=e∧k=b.es.length∧0<n∧z.length=n∧k+xs.length≤maxLen∧(k+xs.length)*by_≤140737488355328 then
           some (.own nx 0 (k+xs.length),upd (upd hp id none) nx (some ⟨e,n,true,b.es++xs⟩),nx+1)
           else none
         | none=>none
       | _=>none
     | none=>none
   | _,_,_=>none
 | none=>none
def zny (P:Program) (hp:Hp) (nx:Nat) (t:TypeId) (d x:PV):Option (PV×Hp×Nat) :=
 match qG P t,d with
 | some e,.own id off k=>match hp id,zS P e with
   | some b,some n=>match view hp n x with
     | some xs=>if b.arr=true∧b.e=e∧off+k≤b.es.length∧0<n then
       some (.v (.int .i64 (min xs.length k:Nat)),upd hp id (some ⟨b.e,b.s,true,b.es.take off++xs.take (min xs.length k)++b.es.drop (off+min xs.length k)⟩),nx)
       else none
     | none=>none
   | _,_=>none
 | _,_=>none
def XH (P:Program) (hp:Hp) (nx:Nat) (t:TypeId) (x:PV):Option (PV×Hp×Nat) :=
 match qG P t,x with
 | some e,.own id off k=>match hp id,zS P e,wy P e with
   | some b,some n,some [z]=>if n=1∧b.arr=true∧b.e=e∧off+k≤b.es.length∧0<k then
     some (.tup [],upd hp id (some ⟨b.e,b.s,true,b.es.take off++List.replicate k [z]++b.es.drop (off+k)⟩),nx)
     else none
   | _,_,_=>none
 | _,_=>none
def jZ (P:Program) (hp:Hp) (t:TypeId):PV→Option PV
 | .ptr cs=>zr P t cs
 | .ref id i j=>match hp id with
   | some b=>match b.es[i]? with
     | some c=>zr P t (c.drop j)
     | none=>none
   | none=>none
 | _=>none
def vH (P:Program) (hp:Hp) (t:TypeId) (a x:PV):Option Hp :=
 match a with
 | .ref id i j=>match hp id with
   | some b0=>match (if b0.arr=true then zE hp x else some (x,hp)) with
     | some (y,hp1)=>match hp1 id,zS P t with
       | some b,some n=>match b.es[i]? with
         | some c=>if y.cells.length=n∧j+n≤c.length∧y.cells.all PV.isCell=true then
           some (upd hp1 id (some ⟨b.e,b.s,b.arr,b.es.set i (qO c j y.cells)⟩)) else none
         | none=>none
       | _,_=>none
     | none=>none
   | none=>none
 | _=>none
def qC (P:Program) (t:TypeId) (f:Nat):PV→Option PV
 | .ptr cs=>match zn P t f with
   | some (o,n,_)=>if n=0 then none else some (.ptr (cs.drop o))
   | none=>none
 | .ref id i j=>match zn P t f with
   | some (o,n,_)=>if n=0 then none else some (.ref id i (j+o))
   | none=>none
 | _=>none
def jF (P:Program) (t:TypeId) (f:Nat):PV→Option PV
 | .agg cs=>match zn P t f with
   | some (o,n,true)=>if o+n≤cs.length then some (.agg ((cs.drop o).take n)) else none
   | some (o,_,false)=>cs[o]?
   | none=>none
 | _=>none
def zpW (P:Program) (t:TypeId):Option (Nat×TypeId):=match P.underlying t with
 | some (.array n e)=>some (n,e)
 | _=>none
def jb (P:Program) (t:TypeId) (i:Int) (x:PV):Option PV :=
 match zpW P t with
 | some (m,e)=>match zS P e with
   | some n=>if 0≤i∧i<m then match x with
     | .ptr cs=>some (.ptr (cs.drop (i.toNat*n)))
     | .ref id a b=>some (.ref id a (b+i.toNat*n))
     | _=>none
     else none
   | none=>none
 | none=>none
def zI (P:Program) (hp:Hp) (t:TypeId):PV→PV→Option PV
 | x,.v (.int _ i)=>match qG P t with
   | some e=>match zS P e,x with
     | some n,.sl s es=>if s=n∧0<n∧0≤i then (es[i.toNat]?).map .ptr else none
     | some n,.own id off k=>match hp id with
       | some b=>if b.e=e∧0<n∧0≤i∧i.toNat<k then some (.ref id (off+i.toNat) 0) else none
       | none=>none
     | _,_=>none
   | none=>jb P t i x
 | _,_=>none
def vI (P:Program) (t:TypeId):PV→PV→Option PV
 | .v (.string s),.v (.int _ i)=>match P.underlying t with
   | some .string=>if 0≤i then match s[i.toNat]? with
     | some b=>some (.v (.int .u8 b.toNat))
     | none=>none
     else none
   | _=>none
 | _,_=>none
def zaC (P:Program) (t:TypeId):Option (Option IntKind×TypeId):=match P.underlying t with
 | some (.map kt et)=>match P.underlying kt with
   | some (.int k)=>some (some k,et)
   | some .string=>some (none,et)
   | _=>none
 | _=>none
def zaD:Option IntKind→Value→Bool
 | some k,.int k' _=>k'==k
 | none,.string _=>true
 | _,_=>false
def xj:Value→Value→Option Bool
 | .int k a,.int k' b=>if k=k' then some (a==b) else none
 | .string a,.string b=>some (a.toList==b.toList)
 | _,_=>none
def Yg (k:Value):List (List PV)→Nat→Option (Option (Nat×PV))
 | [],_=>some none
 | [.v k',v]::l,i=>match xj k k' with
   | some true=>some (some (i,v))
   | some false=>Yg k l (i+1)
   | none=>none
 | _::_,_=>none
def zaE (P:Program) (t:TypeId):Option PV:=((P.info? t).bind (·.zero)).bind zaB
def zkk (hp:Hp):PV→Option (List (List PV))
 | .mp id=>match hp id with
   | some b=>if b.s=0 then some b.es else none
   | none=>none
 | .v (.map none)=>some []
 | _=>none
def xk (P:Program) (hp:Hp) (t:TypeId) (x key:PV) (ok:Bool):Option PV :=
 match zaC P t,zkk hp x,key with
 | some (kk,et),some es,.v k=>if zaD kk k=true then match Yg k es 0 with
   | some (some (_,v))=>some (if ok=true then .tup [v,.v (.bool true)] else v)
   | some none=>(zaE P et).map fun z=>if ok=true then .tup [z,.v (.bool false)] else z
   | none=>none
   else none
 | _,_,_=>none
def xl (P:Program) (hp:Hp) (t:TypeId) (x key y:PV):Option Hp :=
 match zaC P t,x,key with
 | some (kk,_),.mp id,.v k=>if zaD kk k=true then match zE hp y with
   | some (z,hp1)=>match hp1 id with
     | some b=>if b.s=0 then match Yg k b.es 0 with
       | some (some (i,_))=>some (upd hp1 id (some ⟨b.e,b.s,b.arr,b.es.set i [.v k,z]⟩))
       | some none=>some (upd hp1 id (some ⟨b.e,b.s,b.arr,b.es++[[.v k,z]]⟩))
       | none=>none
       else none
     | none=>none
   | none=>none
   else none
 | _,_,_=>none
def qr (P:Program) (hp:Hp) (nx:Nat) (ts:Array TypeId) (b:Builtin) (xs:List PV):Option (PV×Hp×Nat) :=
 match b with
 | .len=>match xs,ts[0]? with
   | [x],some t=>(VW P t x).map fun y=>(y,hp,nx)
   | _,_=>none
 | .min=>(zsT xs).map fun y=>(y,hp,nx)
 | .max=>(zsU xs).map fun y=>(y,hp,nx)
 | .append=>match xs,ts[0]?,ts[1]? with
   | [s,x],some t,some u=>qY P hp nx t u s x
   | _,_,_=>none
 | .copy=>match xs,ts[0]? with
   | [d,x],some t=>zny P hp nx t d x
   | _,_=>none
 | .clear=>match xs,ts[0]? with
   | [x],some t=>XH P hp nx t x
   | _,_=>none
 | _=>none
def wg (C:Ctx) (hp:Hp) (nx:Nat) (f:Option PV) (xs:List PV):Option (PV×Hp×Nat) :=
 match f with
 | some (.fn (.func g) first captured)=>match C.Γ g with
   | some spec=>spec (first++xs++captured) hp nx
   | none=>none
 | _=>none
def jc (C:Ctx) (ρ:Operand→Option PV) (hp:Hp) (nx:Nat) (c:Call):Option (PV×Hp×Nat) :=
 match qu (c.args.toList.map ρ) with
 | some xs=>match c.callee with
   | .builtin b=>qr C.P hp nx c.argTypes b xs
   | .value f=>wg C hp nx (ρ f) xs
   | .invoke _ _=>none
 | none=>none
def zw (C:Ctx) (ρ:Operand→Option PV) (hp:Hp) (nx:Nat) (o:Op):Option (PV×Hp×Nat) :=
 match o with
 | .move x=>(ρ x).map fun y=>(y,hp,nx)
 | .assign x=>(ρ x).map fun y=>(y,hp,nx)
 | .pick c a b=>match ρ c with
   | some (.v (.bool true))=>(ρ a).map fun y=>(y,hp,nx)
   | some (.v (.bool false))=>(ρ b).map fun y=>(y,hp,nx)
   | _=>none
 | .alloc t=>match zS C.P t,wy C.P t with
   | some n,some z=>if 0<n∧z.length=n then some (.ref nx 0 0,upd hp nx (some ⟨t,n,false,[z]⟩),nx+1) else none
   | _,_=>none
 | .box t x=>match zS C.P t,ρ x with
   | some n,some y=>if 0<n∧y.cells.length=n∧y.cells.all PV.isCell=true then some (.ref nx 0 0,upd hp nx (some ⟨t,n,false,[y.cells]⟩),nx+1) else none
   | _,_=>none
 | .build t parts=>match yE ρ parts.toList with
   | some ps=>(zx C.P t ps).map fun y=>(y,hp,nx)
   | none=>none
 | .buildSlice t len parts=>match yE ρ parts.toList with
   | some ps=>zh C.P hp nx t len ps
   | none=>none
 | .load t a=>match ρ a with
   | some p=>(jZ C.P hp t p).map fun y=>(y,hp,nx)
   | none=>none
 | .store t a x=>match ρ a,ρ x with
   | some p,some y=>(vH C.P hp t p y).map fun h=>(.tup [],h,nx)
   | _,_=>none
 | .nilCheck x=>match ρ x with
   | some (.ref id i j)=>some (.ref id i j,hp,nx)
   | some (.ptr cs)=>some (.ptr cs,hp,nx)
   | _=>none
 | .binOp op t x y _=>match ρ x,ρ y with
   | some p,some q=>(zco (isK y) C.P op t p q).map fun r=>(r,hp,nx)
   | _,_=>none
 | .unOp op _ x=>match ρ x with
   | some p=>(unA op p).map fun r=>(r,hp,nx)
   | none=>none
 | .convert src dst x=>match ρ x with
   | some p=>(VV C.P src dst p).map fun r=>(r,hp,nx)
   | none=>none
 | .makeFunc f first captured=>match qu (first.toList.map ρ),qu (captured.toList.map ρ) with
   | some xs,some ys=>some (.fn f xs ys,hp,nx)
   | _,_=>none
 | .makeSlice t l c=>match ρ l,ρ c with
   | some p,some q=>yV C.P hp nx t p q
   | _,_=>none
 | .slice t x lo hi none=>match ρ x with
   | some p=>(wB C.P hp t p (lo.map ρ) (hi.map ρ)).map fun r=>(r,hp,nx)
   | none=>none
 | .fieldAddr t x f=>match ρ x with
   | some p=>(qC C.P t f p).map fun r=>(r,hp,nx)
   | none=>none
 | .field t x f=>match ρ x with
   | some p=>(jF C.P t f p).map fun r=>(r,hp,nx)
   | none=>none
 | .indexAddr t x i=>match ρ x,ρ i with
   | some p,some q=>(zI C.P hp t p q).map fun r=>(r,hp,nx)
   | _,_=>none
 | .index t x i=>match ρ x,ρ i with
   | some p,some q=>(vI C.P t p q).map fun r=>(r,hp,nx)
   | _,_=>none
 | .extract x i=>match ρ x with
   | some (.tup vs)=>(vs[i]?).map fun r=>(r,hp,nx)
   | _=>none
 | .call c=>jc C ρ hp nx c
 | .makeMap t none=>match zaC C.P t with
   | some _=>some (.mp nx,upd hp nx (some ⟨t,0,false,[]⟩),nx+1)
   | none=>none
 | .lookup t x i ok=>match ρ x,ρ i with
   | some p,some q=>(xk C.P hp t p q ok).map fun r=>(r,hp,nx)
   | _,_=>none
 | .mapUpdate t m k x=>match ρ m,ρ k,ρ x with
   | some p,some q,some y=>(xl C.P hp t p q y).map fun h=>(.tup [],h,nx)
   | _,_,_=>none
 | .insert t m k x=>match ρ m,ρ k,ρ x with
   | some p,some q,some y=>(xl C.P hp t p q y).map fun h=>(.tup [],h,nx)
   | _,_,_=>none
 | _=>none
def put (σ:Nat→PV) (dst:Option Tmp) (x:PV):Nat→PV :=
 match dst with
 | some d=>upd σ d x
 | none=>σ
def vJ (ops:Array Oper) (σ:Nat→PV) (j:Nat):Option Bool :=
 match (ops[j]?).bind (·.dst) with
 | some d=>match σ d with
   | .v (.bool b)=>some b
   | _=>none
 | none=>none
def q9 (C:Ctx) (ops:Array Oper) (o:Oper) (st:St):Option St :=
 if Region.wanted o (vJ ops st.σ)=true then
  match zw C (get st.σ) st.hp st.nx o.op with
  | some (x,hp,nx)=>some ⟨put st.σ o.dst x,hp,nx⟩
  | none=>none
 else some ⟨put st.σ o.dst (.tup []),st.hp,st.nx⟩
def yN (C:Ctx) (ops:Array Oper):List Oper→St→Option St
 | [],st=>some st
 | o::l,st=>match q9 C ops o st with
   | some st'=>yN C ops l st'
   | none=>none
def iter (f:St→Option (Exit×St)):Nat→St→Option (Exit×St)
 | 0,_=>none
 | n+1,st=>match f st with
   | some (.normal,st')=>iter f n st'
   | r=>r
open Classical in
noncomputable def VX (f:St→Option (Exit×St)) (st:St):Option (Exit×St) :=
 if h:∃n,(iter f n st).isSome=true then iter f (Classical.choose h) st else none
def thaw:List Tmp→St→Option St
 | [],st=>some st
 | t::l,st=>match zE st.hp (st.σ t) with
   | some (y,hp1)=>thaw l ⟨upd st.σ t y,hp1,st.nx⟩
   | none=>none
def Qz (fa fb:St→Option (Exit×St)) (σ:Nat→PV) (p:Tmp):List PV→Hp→Nat→Option (Exit×Hp×Nat)
 | [],hp,nx=>some (.normal,hp,nx)
 | x::xs,hp,nx=>match fa ⟨upd σ p x,hp,nx⟩ with
   | some (.normal,s1)=>match fb s1 with
     | some (.normal,s2)=>Qz fa fb σ p xs s2.hp s2.nx
     | some (.ret,s2)=>some (.ret,s2.hp,s2.nx)
     | some (.exit i,s2)=>some (.exit i,s2.hp,s2.nx)
     | _=>none
   | _=>none
open Classical in
noncomputable def zQ (C:Ctx):Code→St→Option (Exit×St)
 | .skip,st=>some (.normal,st)
 | .region id ops _,st0=>match thaw (C.fz id) st0 with
   | some st=>if xM (C.dyn id) st∧xi (C.lds id) st then match yN C ops ops.toList st with
     | some st'=>some (.normal,st')
     | none=>none
     else none
   | none=>none
 | .seq a b,st=>match zQ C a st with
   | some (.normal,st')=>zQ C b st'
   | r=>r
 | .cond c x y,st=>match get st.σ c with
   | some (.v (.bool true))=>zQ C x st
   | some (.v (.bool false))=>zQ C y st
   | _=>none
 | .block id body,st=>match zQ C body st with
   | some (.exit i,st')=>if i=id then some (.normal,st') else some (.exit i,st')
   | r=>r
 | .loop body,st=>VX (zQ C body) st
 | .exit id,st=>some (.exit id,st)
 | .ret,st=>some (.ret,st)
 | .label _,st=>some (.normal,st)
 | .rangeFunc f ps a b,st=>match ps.toList,get st.σ f with
   | [p],some (.fn (.func g) [] cap)=>match C.it g with
     | some it=>match it cap st.hp with
       | some (xs,hp1)=>match Qz (zQ C a) (zQ C b) st.σ p xs hp1 st.nx with
         | some (e,hp2,nx2)=>some (e,⟨st.σ,hp2,nx2⟩)
         | none=>none
       | none=>none
     | none=>none
   | _,_=>none
 | _,_=>none
def xm (P:Program) (st:St):ResultVar→Option PV
 | .tmp t=>some (st.σ t)
 | .cell a t=>jZ P st.hp t (st.σ a)
def jd (P:Program) (fn:Func) (st:St):Option PV :=
 match qu (fn.results.toList.map (xm P st)) with
 | some [x]=>some x
 | some xs=>some (.tup xs)
 | none=>none
def yF (args:List PV):Nat→PV:=fun t=>(args[t]?).getD (.tup [])
noncomputable def q8 (C:Ctx) (fn:Func) (args:List PV) (hp:Hp) (nx:Nat):Option (PV×Hp×Nat) :=
 match fn.body with
 | some code=>match zQ C code ⟨yF args,hp,nx⟩ with
   | some (.normal,st)=>(jd C.P fn st).map fun x=>(x,st.hp,st.nx)
   | some (.ret,st)=>(jd C.P fn st).map fun x=>(x,st.hp,st.nx)
   | _=>none
 | none=>none
noncomputable def zg (C:Ctx) (fn:Func) (args:List PV):Option PV :=
 match q8 C fn args (fun _=>none) 0 with
 | some (x,hp,_)=>(freeze hp x).map (·.1)
 | none=>none
theorem zcp (f:St→Option (Exit×St)):∀(n k:Nat) (st:St) (r:Exit×St),iter f n st=some r→iter f (n+k) st=some r:=by
 intro n
 induction n with
 | zero=>intro k st r h;simp[iter] at h
 | succ n ih =>
   intro k st r h
   rw[show n+1+k=(n+k)+1 from by omega]
   simp only[iter] at h ⊢
   split at h
   ·rename_i st' hf
    simp only[ih k st' r h]
   ·simpa using h
theorem xn {f:St→Option (Exit×St)} {n:Nat} {st:St} {r:Exit×St} (h:iter f n st=some r):VX f st=some r:=by
 have hex:∃n,(iter f n st).isSome=true:=⟨n,by simp[h]⟩
 unfold VX
 rw[dif_pos hex]
 have h2:=Classical.choose_spec hex
 obtain⟨r2,hr2⟩:=Option.isSome_iff_exists.1 h2
 rw[hr2]
 have a:=zcp f _ (Classical.choose hex) st r h
 have b:=zcp f _ n st r2 hr2
 rw[Nat.add_comm] at b
 rw[a] at b
 exact b.symm
theorem j5 {f:St→Option (Exit×St)} {st:St} {r:Exit×St} (h:VX f st=some r):∃n,iter f n st=some r:=by
 unfold VX at h
 split at h
 ·exact⟨_,h⟩
 ·cases h
theorem zcq (f:St→Option (Exit×St)) (st:St):VX f st=match f st with
  | some (.normal,st')=>VX f st'
  | r=>r:=by
 cases hf:f st with
 | none =>
   simp only[]
   cases hl:VX f st with
   | none=>rfl
   | some r =>
     obtain⟨n,hn⟩:=j5 hl
     cases n with
     | zero=>simp[iter] at hn
     | succ n=>simp[iter,hf] at hn
 | some p =>
   obtain⟨e,st'⟩:=p
   by_cases he:e=.normal
   ·subst he
    simp only[]
    cases hl:VX f st' with
    | some r =>
      obtain⟨n,hn⟩:=j5 hl
      exact xn (n:=n+1) (by simp[iter,hf,hn])
    | none =>
      cases hl2:VX f st with
      | none=>rfl
      | some r =>
        obtain⟨n,hn⟩:=j5 hl2
        cases n with
        | zero=>simp[iter] at hn
        | succ n =>
          simp only[iter,hf] at hn
          rw[xn hn] at hl
          cases hl
   ·have h1:iter f 1 st=some (e,st'):=by
     simp only[iter,hf]
     cases e<;>simp_all
    rw[xn h1]
    cases e<;>simp_all
end Go.AM
