/-
The abstract machine, part 35: arrays of one's own whose elements own slices. Such an array is open (arr = false): it is read and written as a variable; it is frozen with what its elements own.
made; the book's check, the free buckets, an experiment's place, where it is not known whether a book's experiments are nil.
Copies of slices of which it is not known whether an empty one is nil.
slices.Clone at layers, holds, experiments, ranges, phases.
Copies of an experiment's phases, arms, condition: what is fresh of them.
Which of the copying functions leave boxes alone.
value.Xcopy: what it computes is the value.
-/
import Derived.Test.YtglppmnehgjolaaGreatDoorG22
import Derived.Test.YtglppmnehgjolaaGreatDoorG12
import Derived.Test.YtglppmnehgjolaaGreatDoorG20
import Derived.Test.YtglppmnehgjolaaGreatDoorG19
import Derived.Test.YtglppmnehgjolaaGreatDoorG11
set_option maxRecDepth 8000
namespace Go.AM
open Go.RowKit
variable {dr:Prop}
def rowsA (hp:Hp):List (List PV)→Option (List (List PV)×Hp)
 | []=>some ([],hp)
 | c::l=>(zE hp c).bind fun p=>(rowsA p.2 l).map fun q=>(p.1::q.1,q.2)
theorem jz:∀{xs ys:List PV} {hp hp1:Hp},zE hp xs=some (ys,hp1)→ys.length=xs.length
 | [],ys,hp,hp1,h=>by
   simp only[zE] at h
   injection h with h
   injection h with h1 _
   subst h1;rfl
 | x::l,ys,hp,hp1,h=>by
   simp only[zE] at h
   split at h
   ·split at h
    ·rename_i r h2 hr
     injection h with h
     injection h with h1 _
     subst h1
     simp[jz hr]
    ·cases h
   ·cases h
section
variable {P:Program} {w:World} {G:Nat→GI} {nx:Nat}
theorem xM:∀{rows rows':List (List PV)} {hp hp1:Hp} {S:Nat→Prop} (us:Nat→Nat→Value) (_:Inv P w S G hp nx),rowsA hp rows=some (rows',hp1) →
  (∀(i j:Nat) (c:List PV) (pv:PV),rows[i]?=some c→c[j]?=some pv→RepO w S G nx pv (us i j)) →
  ∃S',Stp dr P hp nx S G w hp1 nx S' G w∧rows'.length=rows.length∧(∀(i j:Nat) (c:List PV) (pv:PV),rows'[i]?=some c→c[j]?=some pv→RepC w S' pv (us i j)) ∧
   ∀(i:Nat) (c c':List PV),rows[i]?=some c→rows'[i]?=some c'→c'.length=c.length
 | [],rows',hp,hp1,S,us,hi,h,hr=>by
   simp only[rowsA] at h
   injection h with h
   injection h with h1 h2
   subst h1;subst h2
   exact⟨S,.refl hi,rfl,fun i j c pv h=>by simp at h,fun i c c' h=>by simp at h⟩
 | c::l,rows',hp,hp1,S,us,hi,h,hr=>by
   simp only[rowsA] at h
   obtain⟨⟨ys,h1⟩,hf,h⟩:=Option.bind_eq_some_iff.1 h
   obtain⟨⟨l',h2⟩,hl,h⟩:=zs h
   injection h with e1 e2
   subst e1;subst e2
   have hz:Zip (RepO w S G nx) c ((List.range c.length).map (us 0)):=⟨by simp,fun j pv u a b=>by
    have hj:=(List.getElem?_eq_some_iff.1 a).1
    simp[hj] at b
    subst b
    exact hr 0 j c pv rfl a⟩
   obtain⟨S1,k1,c1,_,_⟩:=yp (dr:=dr) hi hf hz
   have hS:=k1.same hi
   obtain⟨S2,k2,e2,c2,n2⟩:=xM (fun i j=>us (i+1) j) k1.inv hl (fun i j c' pv a b=>(hr (i+1) j c' pv (by simpa using a) b).mono hS (Nat.le_refl _) (fun _ _=>rfl))
   refine⟨S2,k1.trans k2,by simp[e2],fun i j c' pv a b=>?_,fun i c' c'' a b=>?_⟩
   ·cases i with
    | zero =>
      simp at a
      subst a
      have hj:=(List.getElem?_eq_some_iff.1 b).1
      rw[jz hf] at hj
      exact (c1.2 j pv (us 0 j) b (by simp[hj])).mono (k2.same k1.inv)
    | succ i=>exact c2 i j c' pv (by simpa using a) b
   ·cases i with
    | zero =>
      simp at a b
      subst a;subst b
      exact jz hf
    | succ i=>exact n2 i c' c'' (by simpa using a) (by simpa using b)
def y9 (hp:Hp):PV→Option (PV×Hp)
 | .own id 0 n=>match hp id with
   | some b=>if b.arr=true then zP hp (.own id 0 n) else if n=b.es.length then (rowsA (upd hp id none) b.es).map fun p=>(.sl b.s p.1,p.2) else none
   | none=>none
 | x=>zP hp x
def kn (hp:Hp):List PV→Option (List PV×Hp)
 | []=>some ([],hp)
 | x::l=>(y9 hp x).bind fun p=>(kn p.2 l).map fun q=>(p.1::q.1,q.2)
def deepVal (hp:Hp):PV→Option (PV×Hp)
 | .agg cs=>(kn hp cs).map fun p=>(.agg p.1,p.2)
 | x=>y9 hp x
def kD (hp:Hp):List PV→Option (List PV×Hp)
 | []=>some ([],hp)
 | x::l=>(deepVal hp x).bind fun p=>(kD p.2 l).map fun q=>(p.1::q.1,q.2)
theorem row_fun {S:Nat→Prop} {hp:Hp} (hi:Inv P w S G hp nx) {id:Nat} {b:Blk} (hb:hp id=some b) (h0:0<(G id).s) :
  ∃(cur:Array Value) (us:Nat→Nat→Value),w.heap[(G id).g]?=some (.cells cur b.e (0,0))∧cur.size=(G id).z∧∀(i j:Nat) (c:List PV) (pv:PV),b.es[i]?=some c→c[j]?=some pv→cur[i*(G id).s+j]?=some (us i j)∧CellRep w S G nx b.arr pv (us i j):=by
 obtain⟨cur,h1,h2,h3⟩:=(hi.live id b hb).row h0
 refine⟨cur,fun i j=>(cur[i*(G id).s+j]?).getD undef,h1,h2,fun i j c pv a b=>?_⟩
 obtain⟨u,h4,h5⟩:=h3 i j c pv a b
 simp only[h4,Option.getD_some]
 exact⟨trivial,h5⟩
theorem xt {S:Nat→Prop} {hp:Hp} (hi:Inv P w S G hp nx) {x y:PV} {hp1:Hp} {u:Value} (h:y9 hp x=some (y,hp1)) (hx:RepO w S G nx x u) :
  ∃S',Stp dr P hp nx S G w hp1 nx S' G w∧RepC w S' y u:=by
 unfold y9 at h
 split at h
 ·rename_i id n
  split at h
  case h_2=>cases h
  rename_i b hb
  split at h
  ·obtain⟨S',k,c,_⟩:=w8 (dr:=dr) hi h hx
   exact⟨S',k,c⟩
  split at h
  case isFalse=>cases h
  rename_i hn
  obtain⟨⟨rows,h2⟩,hr,h⟩:=zs h
  injection h with e1 e2
  subst e1;subst e2
  have h0:=hx.own_pos
  obtain⟨cap,a1,a2,a3,a4,rfl⟩:=hx.own_inv
  obtain⟨cur,us,r1,r2,r3⟩:=row_fun hi hb h0
  have k1:=Stp.kill (dr:=dr) hi hb
  have hS:=k1.same hi
  obtain⟨S2,k2,l2,c2,n2⟩:=xM (dr:=dr) us k1.inv hr (fun i j c pv a b=>(r3 i j c pv a b).2.2.1.mono hS (Nat.le_refl _) (fun _ _=>rfl))
  have hlen:=(hi.live id b hb).len h0
  have hget:∀(i:Nat) (c':List PV),rows[i]?=some c'→∃c,b.es[i]?=some c∧c'.length=c.length:=fun i c' hc'=>by
   have hil:=(List.getElem?_eq_some_iff.1 hc').1
   refine⟨b.es[i]'(by omega),List.getElem?_eq_getElem (by omega),n2 i _ _ (List.getElem?_eq_getElem (by omega)) hc'⟩
  refine⟨S2,k1.trans k2,?_⟩
  rw[(hi.live id b hb).bs]
  have key:RepC w S2 (.sl (G id).s rows) (.slice (some ⟨(G id).g,0*(G id).s,none⟩) rows.length cap):=by
   refine RepC.sl (s:=(G id).s) us (by simp) (by omega) a3 (fun c hc=>?_) (fun i j c pv a b'=>?_) c2
   ·obtain⟨i,hi'⟩:=List.getElem?_of_mem hc
    obtain⟨c0,g1,g2⟩:=hget i c hi'
    rw[g2]
    exact hlen c0 (List.mem_of_getElem? g1)
   ·obtain⟨c0,g1,g2⟩:=hget i c a
    have hj:j<c0.length:=by have:=(List.getElem?_eq_some_iff.1 b').1;omega
    obtain⟨h4,h5⟩:=r3 i j c0 c0[j] g1 (List.getElem?_eq_getElem hj)
    refine⟨_,rfl,k2.keep _ (.inr rfl),?_,h5.2.2⟩
    have hadd:(⟨(G id).g,0*(G id).s,none⟩:Addr).add (i*(G id).s+j)=⟨(G id).g,i*(G id).s+j,none⟩:=by
     unfold Addr.add
     split<;>simp<;>omega
    rw[hadd,cell_of_row w _ _ cur _ _ r1]
    exact h4
  rwa [l2,←hn] at key
 ·obtain⟨S',k,c,_⟩:=w8 (dr:=dr) hi h hx
  exact⟨S',k,c⟩
theorem vH:∀{xs ys:List PV} {hp hp1:Hp} {S:Nat→Prop} {us:List Value} (_:Inv P w S G hp nx),kn hp xs=some (ys,hp1)→Zip (RepO w S G nx) xs us →
  ∃S',Stp dr P hp nx S G w hp1 nx S' G w∧Zip (RepC w S') ys us
 | [],ys,hp,hp1,S,us,hi,h,hz=>by
   simp only[kn] at h
   injection h with h
   injection h with h1 h2
   subst h1;subst h2
   rw[hz.unnil]
   exact⟨S,.refl hi,.nil⟩
 | x::l,ys,hp,hp1,S,us,hi,h,hz=>by
   simp only[kn] at h
   obtain⟨⟨y,h1⟩,hf,h⟩:=Option.bind_eq_some_iff.1 h
   obtain⟨⟨l',h2⟩,hl,h⟩:=zs h
   injection h with e1 e2
   subst e1;subst e2
   obtain⟨u,us',rfl,hu,hz'⟩:=hz.uncons
   obtain⟨S1,k1,c1⟩:=xt (dr:=dr) hi hf hu
   have hS:=k1.same hi
   obtain⟨S2,k2,c2⟩:=vH (S:=S1) k1.inv hl (hz'.imp fun x u hx=>hx.mono hS (Nat.le_refl _) (fun _ _=>rfl))
   exact⟨S2,k1.trans k2,.cons (c1.mono (k2.same k1.inv)) c2⟩
theorem deepVal_sound {S:Nat→Prop} {hp:Hp} (hi:Inv P w S G hp nx) {x y:PV} {hp1:Hp} {u:Value} (h:deepVal hp x=some (y,hp1)) (hx:RepO w S G nx x u) :
  ∃S',Stp dr P hp nx S G w hp1 nx S' G w∧RepC w S' y u:=by
 unfold deepVal at h
 split at h
 ·rename_i cs
  obtain⟨⟨l,h2⟩,hl,h⟩:=zs h
  injection h with e1 e2
  subst e1;subst e2
  obtain⟨us,rfl,hn,hr⟩:=hx.agg_inv
  obtain⟨S',k,z⟩:=vH (dr:=dr) (us:=us.toList) hi hl ⟨by simpa using hn,fun j pv x a b=>hr j pv x a (by simpa using b)⟩
  exact⟨S',k,.agg (by have:=z.1;simpa using this) (fun j pv x a b=>z.2 j pv x a (by simpa using b))⟩
 ·exact xt hi h hx
theorem xu:∀{xs ys:List PV} {hp hp1:Hp} {S:Nat→Prop} {us:List Value} (_:Inv P w S G hp nx),kD hp xs=some (ys,hp1)→Zip (RepO w S G nx) xs us →
  ∃S',Stp dr P hp nx S G w hp1 nx S' G w∧Zip (RepC w S') ys us
 | [],ys,hp,hp1,S,us,hi,h,hz=>by
   simp only[kD] at h
   injection h with h
   injection h with h1 h2
   subst h1;subst h2
   rw[hz.unnil]
   exact⟨S,.refl hi,.nil⟩
 | x::l,ys,hp,hp1,S,us,hi,h,hz=>by
   simp only[kD] at h
   obtain⟨⟨y,h1⟩,hf,h⟩:=Option.bind_eq_some_iff.1 h
   obtain⟨⟨l',h2⟩,hl,h⟩:=zs h
   injection h with e1 e2
   subst e1;subst e2
   obtain⟨u,us',rfl,hu,hz'⟩:=hz.uncons
   obtain⟨S1,k1,c1⟩:=deepVal_sound (dr:=dr) hi hf hu
   have hS:=k1.same hi
   obtain⟨S2,k2,c2⟩:=xu (S:=S1) k1.inv hl (hz'.imp fun x u hx=>hx.mono hS (Nat.le_refl _) (fun _ _=>rfl))
   exact⟨S2,k1.trans k2,.cons (c1.mono (k2.same k1.inv)) c2⟩
end
def hDeep (σ:AM.Spec):AM.Spec:=fun args hp nx=>(kD hp args).bind fun p=>σ p.1 p.2 nx
theorem hDeep_sound {P:Program} {f:FuncId} {σ:AM.Spec} (h:ya dr P f σ):ya dr P f (hDeep σ):=by
 refine⟨h.1,fun args hp nx r hp' nx' e w S G vs hi hz=>?_⟩
 unfold hDeep at e
 obtain⟨⟨aZ,h1⟩,hd,e⟩:=Option.bind_eq_some_iff.1 e
 obtain⟨S1,k1,z1⟩:=xu (dr:=dr) hi hd hz
 refine (h.2 aZ h1 nx r hp' nx' e w S1 G vs k1.inv z1.closed).mono fun e' w' hh=>?_
 obtain⟨v,S',G',rfl,k,hr⟩:=hh
 exact⟨v,S',G',rfl,k1.trans k,hr⟩
theorem Stp.reblk {P:Program} {w:World} {G:Nat→GI} {nx:Nat} {S:Nat→Prop} {hp:Hp} (hi:Inv P w S G hp nx) {id:Nat} {b b':Blk} (hb:hp id=some b) (hr:BlkRep P w S G nx (G id) b'):Stp dr P hp nx S G w (upd hp id (some b')) nx S G w :=
 (Stp.refl hi).revive hb (hi.top id b hb) hr (hi.apart id b hb) fun k c hk hne he=>hne (hi.inj k id c b hk hb he)
def openB (hp:Hp):PV→Hp
 | .own id 0 _=>match hp id with
   | some b=>upd hp id (some ⟨b.e,b.s,false,b.es⟩)
   | none=>hp
 | _=>hp
def hOpen (σ:AM.Spec):AM.Spec:=fun args hp nx=>(σ args hp nx).map fun q=>(q.1,openB q.2.1 q.1,q.2.2)
theorem hOpen_sound {P:Program} {f:FuncId} {σ:AM.Spec} (h:ya dr P f σ):ya dr P f (hOpen σ):=by
 refine⟨h.1,fun args hp nx r hp' nx' e w S G vs hi hz=>?_⟩
 unfold hOpen at e
 obtain⟨⟨r0,h1,n1⟩,hs,e⟩:=zs e
 injection e with e1 e
 injection e with e2 e3
 subst e1;subst e2;subst e3
 refine (h.2 args hp nx r0 h1 n1 hs w S G vs hi hz).mono fun e' w' hh=>?_
 obtain⟨v,S',G',rfl,k,hr⟩:=hh
 simp only
 unfold openB
 split
 ·rename_i id n
  split
  ·rename_i b hb
   refine⟨v,S',G',rfl,k.trans (Stp.reblk k.inv hb ?_),hr⟩
   have hl:=k.inv.live id b hb
   refine⟨hl.bs,fun h0=>⟨hl.size h0,hl.len h0,hl.fit h0,?_⟩,fun h0=>⟨(hl.ent h0).row⟩⟩
   obtain⟨cur,q1,q2,q3⟩:=hl.row h0
   refine⟨cur,q1,q2,fun i j c pv a b'=>?_⟩
   obtain⟨u,h4,h5⟩:=q3 i j c pv a b'
   exact⟨u,h4,fun h=>by simp at h,h5.2⟩
  ·exact⟨v,S',G',rfl,k,hr⟩
 ·exact⟨v,S',G',rfl,k,hr⟩
def jN (hp:Hp):PV→Option Hp
 | .own id 0 n=>match hp id with
   | some b=>if b.arr=true then some hp else if n=b.es.length∧0<b.s then (rowsA hp b.es).bind fun p=>(p.2 id).map fun _=>upd p.2 id (some ⟨b.e,b.s,true,p.1⟩) else none
   | none=>none
 | _=>some hp
def jA (hp:Hp):List PV→Option Hp
 | []=>some hp
 | x::l=>(jN hp x).bind fun h=>jA h l
def hShut (σ:AM.Spec):AM.Spec:=fun args hp nx=>(σ args hp nx).bind fun q=>match q.1 with
 | .agg cs=>(jA q.2.1 cs).map fun h=>(q.1,h,q.2.2)
 | _=>none
section
variable {P:Program} {w:World} {G:Nat→GI} {nx:Nat}
theorem shutCell_sound {S:Nat→Prop} {hp hp1:Hp} (hi:Inv P w S G hp nx) {x:PV} (h:jN hp x=some hp1):∃S',Stp dr P hp nx S G w hp1 nx S' G w:=by
 unfold jN at h
 split at h
 ·rename_i id n
  split at h
  case h_2=>cases h
  rename_i b hb
  split at h
  ·injection h with h;subst h;exact⟨S,.refl hi⟩
  split at h
  case isFalse=>cases h
  rename_i hn
  obtain⟨⟨rows,h2⟩,hr,h⟩:=Option.bind_eq_some_iff.1 h
  obtain⟨b2,hb2,h⟩:=zs h
  subst h
  have hl:=hi.live id b hb
  have h0:0<(G id).s:=by rw[←hl.bs];exact hn.2
  obtain⟨cur,us,r1,r2,r3⟩:=row_fun hi hb h0
  obtain⟨S2,k2,l2,c2,n2⟩:=xM (dr:=dr) us hi hr (fun i j c pv a b=>(r3 i j c pv a b).2.2.1)
  refine⟨S2,k2.revive hb (hi.top id b hb) ?_ (k2.inv.apart id b2 hb2) fun k c hk hne he=>hne (k2.inv.inj k id c b2 hk hb2 he)⟩
  have hget:∀(i:Nat) (c':List PV),rows[i]?=some c'→∃c,b.es[i]?=some c∧c'.length=c.length:=fun i c' hc'=>by
   have hil:=(List.getElem?_eq_some_iff.1 hc').1
   refine⟨b.es[i]'(by omega),List.getElem?_eq_getElem (by omega),n2 i _ _ (List.getElem?_eq_getElem (by omega)) hc'⟩
  refine⟨hl.bs,fun h0=>⟨hl.size h0,fun c hc=>?_,by rw[l2];exact hl.fit h0,cur,r1,r2,fun i j c pv a b'=>?_⟩,fun e=>by omega⟩
  ·obtain⟨i,hi'⟩:=List.getElem?_of_mem hc
   obtain⟨c0,g1,g2⟩:=hget i c hi'
   rw[g2]
   exact hl.len h0 c0 (List.mem_of_getElem? g1)
  ·obtain⟨c0,g1,g2⟩:=hget i c a
   have hj:j<c0.length:=by have:=(List.getElem?_eq_some_iff.1 b').1;omega
   obtain⟨h4,h5⟩:=r3 i j c0 c0[j] g1 (List.getElem?_eq_getElem hj)
   exact⟨us i j,h4,fun _=>c2 i j c pv a b',.c (c2 i j c pv a b'),h5.2.2⟩
 ·injection h with h;subst h;exact⟨S,.refl hi⟩
theorem vI:∀{xs:List PV} {hp hp1:Hp} {S:Nat→Prop} (_:Inv P w S G hp nx),jA hp xs=some hp1→∃S',Stp dr P hp nx S G w hp1 nx S' G w
 | [],hp,hp1,S,hi,h=>by
   simp only[jA] at h
   injection h with h;subst h;exact⟨S,.refl hi⟩
 | x::l,hp,hp1,S,hi,h=>by
   simp only[jA] at h
   obtain⟨h1,hf,h⟩:=Option.bind_eq_some_iff.1 h
   obtain⟨S1,k1⟩:=shutCell_sound (dr:=dr) hi hf
   obtain⟨S2,k2⟩:=vI k1.inv h
   exact⟨S2,k1.trans k2⟩
end
theorem hShut_sound {P:Program} {f:FuncId} {σ:AM.Spec} (h:ya dr P f σ):ya dr P f (hShut σ):=by
 refine⟨h.1,fun args hp nx r hp' nx' e w S G vs hi hz=>?_⟩
 unfold hShut at e
 obtain⟨⟨r0,h1,n1⟩,hs,e⟩:=Option.bind_eq_some_iff.1 e
 simp only at e
 split at e
 ·rename_i cs
  obtain⟨h2,hc,e⟩:=zs e
  injection e with e1 e
  injection e with e2 e3
  subst e1;subst e2;subst e3
  refine (h.2 args hp nx _ h1 n1 hs w S G vs hi hz).mono fun e' w' hh=>?_
  obtain⟨v,S',G',rfl,k,hr⟩:=hh
  obtain⟨S2,k2⟩:=vI (dr:=dr) k.inv hc
  exact⟨v,S2,G',rfl,k.trans k2,hr.mono (k2.same k.inv) (Nat.le_refl _) (fun _ _=>rfl)⟩
 ·cases e
end Go.AM
namespace Go.Proofs.YtglppmnehgjolaaGreatDoor
open Go.Proofs.Tryz
open Go.RowKit Go.AM Go.SpanLaw
def yO (r:Bk×Int):PV:=.tup [.agg r.1.enc,int r.2]
abbrev bkpat:List (Option Nat):=[some 3,some 4,some 13]
theorem qm (k:Int):Stands (.tup [.agg [.nil,.nil,.nil],int k]) (yO (emptyB,k)):=by
 have h:Stands (.agg [.nil,.nil,.nil]) (.agg emptyB.enc):=j7 (.g bkpat) _
 exact StandsL.tup (.cons h (.cons (.refl _) .nil))
noncomputable abbrev Cmd:Ctx:=zN prog [(10,zd false [] (FBk fun b=>int (qe b)))]
theorem goodmd:AM.Good Cmd (fun g=>([]:List Nat).contains g):=zr mixed ⟨xcb_sound,by simp,trivial⟩
theorem made_eval (b:Bk) (h:b.cb≤lim):∃r0,zl Cmd f23 [.agg b.enc]=some r0∧Stands r0 (yO (ym b)):=by
 refine qF rfl ?_
 have hck:=fun hp nx=>FBk_call (fun b=>int (qe b)) b hp nx h
 simp only[Bk.enc] at hck
 by_cases hz:qe b=0
 ·have hv:ym b=(b,0):=by unfold ym;rw[if_pos hz]
  rw[hv]
  simp[Bk.enc,hck,hz,f23]
  exact⟨yO (b,0),by simp[yO,Bk.enc],.refl _⟩
 ·have hv:ym b=(emptyB,qe b):=by unfold ym;rw[if_neg hz]
  have hz2:(qe b != 0)=true:=by simpa using hz
  rw[hv]
  simp[Bk.enc,hck,hz2,zI,zX,f23]
  exact⟨_,by simp,qm _⟩
theorem made_sound:za prog 23 (zd false [] (FBk fun b=>yO (ym b))) :=
 yK (fn:=f23) goodmd ⟨_,func23,by kernel_rfl,rfl,by kernel_rfl⟩ false [] _ fun args r h w S vs hz=>by
  obtain⟨b,rfl,hx,rfl⟩:=zg h
  obtain⟨r0,h1,h2⟩:=made_eval b hx
  exact⟨_,r0,hz,by simp[f23],h1,h2⟩
theorem xcbN_sound:za prog 10 (zT [.g bkpat] (FBk fun b=>int (qe b))) :=
 qo (fn:=f10) goodxcb ⟨_,func10,by kernel_rfl,rfl,by kernel_rfl⟩ _ _ fun args r h=>by
  obtain⟨b,rfl,hx,rfl⟩:=zg h
  exact⟨by simp[f10],_,xcb_eval b hx,.refl _⟩
theorem freeButN_sound:za prog 15 (zT [.g bkpat] (FBut fun b s t n=>.sl 2 ((yl b s t n).map encS))) :=
 qo (fn:=f15) goodfb ⟨_,func15,by kernel_rfl,rfl,by kernel_rfl⟩ _ _ fun args r h=>by
  obtain⟨⟨b,s,t,n⟩,rfl,hx,rfl⟩:=zg h
  exact⟨Nat.le_trans (Nat.le_refl 4) (by decide),_,freeBut_eval b s t n hx,.refl _⟩
end Go.Proofs.YtglppmnehgjolaaGreatDoor
namespace Go.AM
open Go.RowKit
variable {dr:Prop}
theorem Stp.widen {P:Program} {w:World} {G:Nat→GI} {nx:Nat} {S:Nat→Prop} {hp:Hp} (hi:Inv P w S G hp nx):Stp dr P hp nx S G w hp (nx+1) S G w :=
 ⟨⟨hi.st,fun id b h=>Nat.lt_succ_of_lt (hi.top id b h),fun id b h=>(hi.live id b h).mono (fun b hb=>⟨hb,rfl⟩) (Nat.le_succ _) (fun _ _=>rfl) rfl,hi.apart,hi.inj,hi.glo⟩,Nat.le_succ _,fun _ _=>rfl,fun _ h=>h,fun _ h=>.inl h,fun id blk hb=>.inl ⟨id,blk,hb,rfl⟩,Fr.refl _ _⟩
theorem slEmpty {w:World} {S:Nat→Prop} {s cap:Nat} {A:Option Addr} (h1:A=none→cap=0) (h2:cap≤maxLen):RepC w S (.sl s []) (.slice A 0 cap) :=
 RepC.sl (es:=[]) (fun _ _=>undef) h1 (Nat.zero_le _) h2 (fun c hc=>by cases hc) (fun i j c pv h=>by simp at h) (fun i j c pv h=>by simp at h)
end Go.AM
namespace Go.Proofs.YtglppmnehgjolaaGreatDoor
open Go.Proofs.Tryz
open Go.RowKit Go.AM
def hClo (e s:Nat):AM.Spec:=fun args hp nx=>match args with
 | [.sl s' es]=>if s'=s∧es.length≤lim then (if es=[] then some (.sl s [],hp,nx+1) else some (.own nx 0 es.length,upd hp nx (some ⟨e,s,true,es⟩),nx+1)) else none
 | [.nil]=>some (.nil,hp,nx)
 | [.em]=>some (.own nx 0 0,upd hp nx (some ⟨e,s,true,[]⟩),nx+1)
 | _=>none
theorem yA {P:Program} {dr:Prop} {f:FuncId} {e s:Nat} (h:ya dr P f (qD [] (qx e s))):ya dr P f (hClo e s):=by
 refine⟨h.1,fun args hp nx r hp' nx' ee w S G vs hi hz=>?_⟩
 unfold hClo at ee
 split at ee
 case h_2 =>
  injection ee with ee
  injection ee with e1 ee
  injection ee with e2 e3
  subst e1;subst e2;subst e3
  exact h.2 [.nil] hp nx _ _ _ rfl w S G vs hi hz
 case h_3 =>
  injection ee with ee
  injection ee with e1 ee
  injection ee with e2 e3
  subst e1;subst e2;subst e3
  exact h.2 [.em] hp nx _ _ _ rfl w S G vs hi hz
 case h_4=>cases ee
 rename_i s' es
 split at ee
 case isFalse=>cases ee
 rename_i hc
 obtain⟨rfl,hl⟩:=hc
 split at ee
 ·rename_i he
  subst he
  injection ee with ee
  injection ee with e1 ee
  injection ee with e2 e3
  subst e1;subst e2;subst e3
  obtain⟨u,us,rfl,hu,hz'⟩:=hz.uncons
  have hus:us=[]:=List.eq_nil_of_length_eq_zero (by simpa using hz'.1.symm)
  subst hus
  have hr:=hu.sl_inv
  cases hr with
  | sl us0 h1 h2 h3 h4 h5 h6 =>
    rename_i A cap
    cases A with
    | none =>
      obtain rfl:=h1 rfl
      refine (h.2 [.nil] hp nx .nil hp nx rfl w S G [.slice none 0 0] hi (.cons (.c .nil) .nil)).mono fun e' w' hh=>?_
      obtain⟨v,S',G',rfl,k,hv⟩:=hh
      obtain rfl:=hv.nil_inv
      exact⟨_,S',G',rfl,k.trans (Stp.widen k.inv),.c (slEmpty (fun _=>rfl) (Nat.zero_le _))⟩
    | some ad =>
      refine (h.2 [.em] hp nx (.own nx 0 0) (upd hp nx (some ⟨e,s',true,[]⟩)) (nx+1) rfl w S G [.slice (some ad) 0 cap] hi (.cons (.c (.em h3)) .nil)).mono fun e' w' hh=>?_
      obtain⟨v,S',G',rfl,k,hv⟩:=hh
      obtain⟨cap',a1,a2,a3,a4,rfl⟩:=hv.own_inv
      have k2:=k.trans (Stp.drop k.inv nx)
      have hid:upd (upd hp nx (some ⟨e,s',true,[]⟩)) nx none=hp:=by
       funext j
       by_cases hj:j=nx
       ·subst hj
        rw[qg]
        cases hx:hp j with
        | none=>rfl
        | some b=>exact absurd (hi.top j b hx) (Nat.lt_irrefl _)
       ·rw[zH _ _ _ _ hj,zH _ _ _ _ hj]
      rw[hid] at k2
      exact⟨_,S',G',rfl,k2,.c (slEmpty (fun h=>by cases h) a3)⟩
 ·rename_i hne
  injection ee with ee
  injection ee with e1 ee
  injection ee with e2 e3
  subst e1;subst e2;subst e3
  exact h.2 [.sl s' es] hp nx _ _ _ (by simp[qD,qr,qx,zk,zC,zP,hne,hl]) w S G vs hi hz
theorem cloneL_eval (args:List PV) (r:Option Blk) (h:qx 90 3 args=some r):args.length≤f49.ntmps∧∃x hp nx,qq C0 f49 args (fun _=>none) 0=some (x,hp,nx)∧OwnR r x hp nx:=by
 unfold qx at h
 split at h
 ·injection h with h;subst h
  exact⟨by simp[f49],zn rfl (by simp[binA,qy,f49,OwnR])⟩
 ·injection h with h;subst h
  exact⟨by simp[f49],zn rfl (by simp[binA,qy,f49,OwnR,zh,zV,AM.view,maxLen,zt,zj])⟩
 ·rename_i es
  split at h
  ·rename_i hc
   obtain⟨rfl,hne,hl⟩:=hc
   injection h with h;subst h
   cases es with
   | nil=>exact absurd rfl hne
   | cons c es =>
     unfold lim at hl
     simp at hl
     have m1:es.length+1≤maxLen:=by unfold maxLen;omega
     have m2:(es.length+1)*40≤140737488355328:=by omega
     refine⟨by simp[f49],zn rfl ?_⟩
     simp[binA,qy,f49,OwnR,zh,zV,AM.view,zt,zj,m1,m2]
  ·cases h
 ·cases h
theorem cloL_sound:za prog 49 (hClo 90 3) :=
 yA (qw (fn:=f49) (code:=_) q7 ⟨func49,by kernel_rfl,rfl,by kernel_rfl⟩ [] _ cloneL_eval)
theorem cloneH_eval (args:List PV) (r:Option Blk) (h:qx 103 4 args=some r):args.length≤f50.ntmps∧∃x hp nx,qq C0 f50 args (fun _=>none) 0=some (x,hp,nx)∧OwnR r x hp nx:=by
 unfold qx at h
 split at h
 ·injection h with h;subst h
  exact⟨by simp[f50],zn rfl (by simp[binA,qy,f50,OwnR])⟩
 ·injection h with h;subst h
  exact⟨by simp[f50],zn rfl (by simp[binA,qy,f50,OwnR,zh,zV,AM.view,maxLen,zt,zj])⟩
 ·rename_i es
  split at h
  ·rename_i hc
   obtain⟨rfl,hne,hl⟩:=hc
   injection h with h;subst h
   cases es with
   | nil=>exact absurd rfl hne
   | cons c es =>
     unfold lim at hl
     simp at hl
     have m1:es.length+1≤maxLen:=by unfold maxLen;omega
     have m2:(es.length+1)*64≤140737488355328:=by omega
     refine⟨by simp[f50],zn rfl ?_⟩
     simp[binA,qy,f50,OwnR,zh,zV,AM.view,zt,zj,m1,m2]
  ·cases h
 ·cases h
theorem cloH_sound:za prog 50 (hClo 103 4) :=
 yA (qw (fn:=f50) (code:=_) q7 ⟨func50,by kernel_rfl,rfl,by kernel_rfl⟩ [] _ cloneH_eval)
theorem cloneE_eval (args:List PV) (r:Option Blk) (h:qx 34 13 args=some r):args.length≤f51.ntmps∧∃x hp nx,qq C0 f51 args (fun _=>none) 0=some (x,hp,nx)∧OwnR r x hp nx:=by
 unfold qx at h
 split at h
 ·injection h with h;subst h
  exact⟨by simp[f51],zn rfl (by simp[binA,qy,f51,OwnR])⟩
 ·injection h with h;subst h
  exact⟨by simp[f51],zn rfl (by simp[binA,qy,f51,OwnR,zh,zV,AM.view,maxLen,zt,zj])⟩
 ·rename_i es
  split at h
  ·rename_i hc
   obtain⟨rfl,hne,hl⟩:=hc
   injection h with h;subst h
   cases es with
   | nil=>exact absurd rfl hne
   | cons c es =>
     unfold lim at hl
     simp at hl
     have m1:es.length+1≤maxLen:=by unfold maxLen;omega
     have m2:(es.length+1)*224≤140737488355328:=by omega
     refine⟨by simp[f51],zn rfl ?_⟩
     simp[binA,qy,f51,OwnR,zh,zV,AM.view,zt,zj,m1,m2]
  ·cases h
 ·cases h
theorem cloE_sound:za prog 51 (hClo 34 13) :=
 yA (qw (fn:=f51) (code:=_) q7 ⟨func51,by kernel_rfl,rfl,by kernel_rfl⟩ [] _ cloneE_eval)
theorem cloneR_eval (args:List PV) (r:Option Blk) (h:qx 97 3 args=some r):args.length≤f47.ntmps∧∃x hp nx,qq C0 f47 args (fun _=>none) 0=some (x,hp,nx)∧OwnR r x hp nx:=by
 unfold qx at h
 split at h
 ·injection h with h;subst h
  exact⟨by simp[f47],zn rfl (by simp[binA,qy,f47,OwnR])⟩
 ·injection h with h;subst h
  exact⟨by simp[f47],zn rfl (by simp[binA,qy,f47,OwnR,zh,zV,AM.view,maxLen,zt,zj])⟩
 ·rename_i es
  split at h
  ·rename_i hc
   obtain⟨rfl,hne,hl⟩:=hc
   injection h with h;subst h
   cases es with
   | nil=>exact absurd rfl hne
   | cons c es =>
     unfold lim at hl
     simp at hl
     have m1:es.length+1≤maxLen:=by unfold maxLen;omega
     have m2:(es.length+1)*24≤140737488355328:=by omega
     refine⟨by simp[f47],zn rfl ?_⟩
     simp[binA,qy,f47,OwnR,zh,zV,AM.view,zt,zj,m1,m2]
  ·cases h
 ·cases h
theorem cloR_sound:za prog 47 (hClo 97 3) :=
 yA (qw (fn:=f47) (code:=_) q7 ⟨func47,by kernel_rfl,rfl,by kernel_rfl⟩ [] _ cloneR_eval)
theorem clonePh_eval (args:List PV) (r:Option Blk) (h:qx 58 2 args=some r):args.length≤f73.ntmps∧∃x hp nx,qq C0 f73 args (fun _=>none) 0=some (x,hp,nx)∧OwnR r x hp nx:=by
 unfold qx at h
 split at h
 ·injection h with h;subst h
  exact⟨by simp[f73],zn rfl (by simp[binA,qy,f73,OwnR])⟩
 ·injection h with h;subst h
  exact⟨by simp[f73],zn rfl (by simp[binA,qy,f73,OwnR,zh,zV,AM.view,maxLen,zt,zj])⟩
 ·rename_i es
  split at h
  ·rename_i hc
   obtain⟨rfl,hne,hl⟩:=hc
   injection h with h;subst h
   cases es with
   | nil=>exact absurd rfl hne
   | cons c es =>
     unfold lim at hl
     simp at hl
     have m1:es.length+1≤maxLen:=by unfold maxLen;omega
     have m2:(es.length+1)*32≤140737488355328:=by omega
     refine⟨by simp[f73],zn rfl ?_⟩
     simp[binA,qy,f73,OwnR,zh,zV,AM.view,zt,zj,m1,m2]
  ·cases h
 ·cases h
theorem cloPh_sound:za prog 73 (hClo 58 2) :=
 yA (qw (fn:=f73) (code:=_) q7 ⟨func73,by kernel_rfl,rfl,by kernel_rfl⟩ [] _ clonePh_eval)
end Go.Proofs.YtglppmnehgjolaaGreatDoor
namespace Go.AM
open Go.RowKit
def CopyS (hp:Hp) (lo hi e s:Nat) (r:PV) (es:List (List PV)):Prop:=(es=[]∧r=.sl s [])∨(es≠[]∧∃id,lo≤id∧id<hi∧r=.own id 0 es.length∧hp id=some ⟨e,s,true,es⟩)
theorem CopyS.same {hp hp':Hp} {lo hi lo' hi' e s:Nat} {r:PV} {es:List (List PV)} (h:CopyS hp lo hi e s r es) (hl:lo'≤lo) (hh:hi≤hi') (hs:∀j,lo≤j→j<hi→hp' j=hp j):CopyS hp' lo' hi' e s r es:=by
 rcases h with h | ⟨h0,id,h1,h2,h3,h4⟩
 ·exact .inl h
 ·exact .inr ⟨h0,id,by omega,by omega,h3,by rw[hs id h1 h2];exact h4⟩
theorem CopyS.freeze {hp:Hp} {lo hi e s:Nat} {r:PV} {es:List (List PV)} (h:CopyS hp lo hi e s r es):∃hp',zP hp r=some (.sl s es,hp')∧∀j,j<lo∨hi≤j→hp' j=hp j:=by
 rcases h with⟨rfl,rfl⟩ | ⟨h0,id,h1,h2,rfl,h4⟩
 ·exact⟨hp,rfl,fun _ _=>rfl⟩
 ·refine⟨upd hp id none,?_,fun j hj=>zH _ _ _ _ (by omega)⟩
  simp[zP,h4]
theorem CopyS.freezeV {hp:Hp} {lo hi e s:Nat} {r:PV} {es:List (List PV)} (h:CopyS hp lo hi e s r es):∃hp',zC hp r=some (.sl s es,hp')∧∀j,j<lo∨hi≤j→hp' j=hp j:=by
 have hf:=h.freeze
 rcases h with⟨rfl,rfl⟩ | ⟨_,_,_,_,rfl,_⟩<;>exact hf
theorem CopyS.cell {hp:Hp} {lo hi e s:Nat} {r:PV} {es:List (List PV)} (h:CopyS hp lo hi e s r es):r.isCell=true:=by
 rcases h with⟨rfl,rfl⟩ | ⟨_,_,_,_,rfl,_⟩<;>rfl
end Go.AM
namespace Go.Proofs.YtglppmnehgjolaaGreatDoor
open Go.Proofs.Tryz
open Go.RowKit Go.AM Go.SpanLaw
theorem xd (e s:Nat) (es:List (List PV)) (hp:Hp) (nx:Nat) (h:es.length≤lim):∃r hp',hClo e s [.sl s es] hp nx=some (r,hp',nx+1)∧CopyS hp' nx (nx+1) e s r es∧∀j,j≠nx→hp' j=hp j:=by
 by_cases he:es=[]
 ·subst he
  exact⟨.sl s [],hp,by simp[hClo],.inl ⟨rfl,rfl⟩,fun _ _=>rfl⟩
 ·refine⟨.own nx 0 es.length,upd hp nx (some ⟨e,s,true,es⟩),by simp[hClo,h,he],.inr ⟨he,nx,Nat.le_refl _,Nat.lt_succ_self _,rfl,by simp⟩,fun j hj=>zH _ _ _ _ hj⟩
theorem cloS_sound:za prog 25 (hClo 67 2):=yA vx
def XRow (hp:Hp) (lo hi:Nat) (x:Xp) (row:List PV):Prop:=∃mid ra rp,row=[str x.name,str x.layer,str x.flag]++x.cond.enc++[str x.salt,ra,rp]∧lo≤mid∧mid≤hi∧CopyS hp lo mid 97 3 ra (x.arms.map encG)∧CopyS hp mid hi 58 2 rp (x.phases.map Phs.enc)
theorem XRow.same {hp hp':Hp} {lo hi:Nat} {x:Xp} {row:List PV} (h:XRow hp lo hi x row) (hs:∀j,lo≤j→j<hi→hp' j=hp j):XRow hp' lo hi x row:=by
 obtain⟨mid,ra,rp,e,h1,h2,h3,h4⟩:=h
 exact⟨mid,ra,rp,e,h1,h2,h3.same (Nat.le_refl _) (Nat.le_refl _) fun j a b=>hs j a (by omega),h4.same (Nat.le_refl _) (Nat.le_refl _) fun j a b=>hs j (by omega) b⟩
theorem wl:∀(a b:List PV) (hp:Hp),zE hp (a++b)=(zE hp a).bind fun p=>(zE p.2 b).map fun q=>(p.1++q.1,q.2)
 | [],b,hp=>by simp only[List.nil_append,zE,Option.bind_some];cases zE hp b<;>rfl
 | x::a,b,hp=>by
   simp only[List.cons_append,zE]
   cases zP hp x with
   | none=>rfl
   | some p =>
     obtain⟨y,h1⟩:=p
     simp only
     rw[wl a b h1]
     cases zE h1 a with
     | none=>rfl
     | some q =>
       obtain⟨r,h2⟩:=q
       simp only[Option.bind_some]
       cases zE h2 b<;>rfl
theorem XRow.freeze {hp:Hp} {lo hi:Nat} {x:Xp} {row:List PV} (h:XRow hp lo hi x row):∃hp',zE hp row=some (x.enc,hp')∧∀j,j<lo∨hi≤j→hp' j=hp j:=by
 obtain⟨mid,ra,rp,rfl,h1,h2,h3,h4⟩:=h
 obtain⟨hpa,f1,g1⟩:=h3.freeze
 obtain⟨hpb,f2,g2⟩:=(h4.same (hp':=hpa) (Nat.le_refl _) (Nat.le_refl _) fun j a b=>g1 j (.inr a)).freeze
 refine⟨hpb,?_,fun j hj=>by rw[g2 j (by omega),g1 j (by omega)]⟩
 rw[wl,wl]
 have fv:∀(h:Hp) (x:Value),zP h (.v x)=some (.v x,h):=fun _ _=>rfl
 simp only[zE,fv,kE,Option.bind_some,Option.map_some,f1,f2,Xp.enc]
def XRows (hp:Hp):Nat→Nat→List Xp→List (List PV)→Prop
 | lo,hi,[],rows=>lo≤hi∧rows=[]
 | lo,hi,x::xs,rows=>∃mid row rest,rows=row::rest∧lo≤mid∧XRow hp lo mid x row∧XRows hp mid hi xs rest
theorem XRows.le {hp:Hp}:∀{lo hi:Nat} {xs:List Xp} {rows:List (List PV)},XRows hp lo hi xs rows→lo≤hi
 | lo,hi,[],rows,h=>h.1
 | lo,hi,x::xs,rows,⟨mid,row,rest,_,h1,_,h2⟩=>Nat.le_trans h1 h2.le
theorem XRows.len {hp:Hp}:∀{lo hi:Nat} {xs:List Xp} {rows:List (List PV)},XRows hp lo hi xs rows→rows.length=xs.length
 | lo,hi,[],rows,h=>by rw[h.2];rfl
 | lo,hi,x::xs,rows,⟨mid,row,rest,e,h1,_,h2⟩=>by rw[e,List.length_cons,h2.len,List.length_cons]
theorem XRows.same {hp hp':Hp}:∀{lo hi:Nat} {xs:List Xp} {rows:List (List PV)},XRows hp lo hi xs rows→(∀j,lo≤j→j<hi→hp' j=hp j)→XRows hp' lo hi xs rows
 | lo,hi,[],rows,h,_=>h
 | lo,hi,x::xs,rows,⟨mid,row,rest,e,h1,h2,h3⟩,hs=>⟨mid,row,rest,e,h1,h2.same fun j a b=>hs j a (by have:=h3.le;omega),h3.same fun j a b=>hs j (by omega) b⟩
theorem XRows.snoc {hp:Hp}:∀{lo hi hi':Nat} {xs:List Xp} {rows:List (List PV)} {x:Xp} {row:List PV},XRows hp lo hi xs rows→hi≤hi'→XRow hp hi hi' x row→XRows hp lo hi' (xs++[x]) (rows++[row])
 | lo,hi,hi',[],rows,x,row,h,hl,hr=>by
   obtain⟨h1,rfl⟩:=h
   obtain⟨mid,ra,rp,e,g1,g2,g3,g4⟩:=hr
   exact⟨hi',row,[],rfl,by omega,⟨mid,ra,rp,e,by omega,g2,g3.same h1 (Nat.le_refl _) fun _ _ _=>rfl,g4⟩,Nat.le_refl _,rfl⟩
 | lo,hi,hi',y::xs,rows,x,row,⟨mid,r0,rest,e,h1,h2,h3⟩,hl,hr=>⟨mid,r0,rest++[row],by rw[e];rfl,h1,h2,h3.snoc hl hr⟩
theorem XRows.freeze {hp:Hp}:∀{lo hi:Nat} {xs:List Xp} {rows:List (List PV)},XRows hp lo hi xs rows→∃hp',rowsA hp rows=some (xs.map Xp.enc,hp')∧∀j,j<lo∨hi≤j→hp' j=hp j:=by
 intro lo hi xs
 induction xs generalizing hp lo with
 | nil=>intro rows h;rw[h.2];exact⟨hp,rfl,fun _ _=>rfl⟩
 | cons x xs ih =>
   intro rows h
   obtain⟨mid,row,rest,rfl,h1,h2,h3⟩:=h
   obtain⟨hpa,f1,g1⟩:=h2.freeze
   obtain⟨hpb,f2,g2⟩:=ih (h3.same (hp':=hpa) fun j a b=>g1 j (.inr a))
   have:=h3.le
   refine⟨hpb,?_,fun j hj=>by rw[g2 j (by omega),g1 j (by omega)]⟩
   simp only[rowsA,f1,f2,Option.bind_some,Option.map_some,List.map_cons]
def Xp.withP (x:Xp) (ps:List Phs):Xp:=⟨x.name,x.layer,x.flag,x.cond,x.salt,x.arms,ps⟩
theorem XRows.grown {hp:Hp}:∀{lo hi:Nat} {xs:List Xp} {rows:List (List PV)} {i:Nat} {x:Xp},XRows hp lo hi xs rows→xs[i]?=some x→x.phases≠[] →
  ∃idp cells,rows[i]?=some (cells++[.own idp 0 x.phases.length])∧cells.length=12∧lo≤idp∧idp<hi∧hp idp=some ⟨58,2,true,x.phases.map Phs.enc⟩ ∧
   ∀(h:Hp) (id':Nat) (ps:List Phs),(∀j,lo≤j→j<hi→j≠idp→h j=hp j)→hi≤id'→h id'=some ⟨58,2,true,ps.map Phs.enc⟩ →
    ∃hp',rowsA h (rows.set i (cells++[.own id' 0 ps.length]))=some ((xs.set i (x.withP ps)).map Xp.enc,hp')∧∀j,j<lo→hp' j=h j:=by
 intro lo hi xs
 induction xs generalizing lo with
 | nil=>intro rows i x _ hx;simp at hx
 | cons y xs ih =>
   intro rows i x h hx hne
   obtain⟨mid,row,rest,rfl,h1,h2,h3⟩:=h
   have hle:=h3.le
   cases i with
   | zero =>
     simp at hx
     subst hx
     obtain⟨m,ra,rp,e,a1,a2,a3,a4⟩:=h2
     rcases a4 with⟨b1,_⟩ | ⟨b0,idp,b1,b2,rfl,b4⟩
     ·exact (hne (by simpa using b1)).elim
     refine⟨idp,[str y.name,str y.layer,str y.flag]++y.cond.enc++[str y.salt,ra],?_,by simp,by omega,by omega,by simpa using b4,fun h id' ps g1 g2 g3=>?_⟩
     ·simp[e]
     ·obtain⟨hpa,f1,k1⟩:=(a3.same (hp':=h) (Nat.le_refl _) (Nat.le_refl _) fun j c d=>g1 j c (by omega) (by omega)).freeze
      obtain⟨hpb,f2,k2⟩:=(h3.same (hp':=upd hpa id' none) fun j c d=>by rw[zH _ _ _ _ (by omega),k1 j (by omega),g1 j (by omega) d (by omega)]).freeze
      refine⟨hpb,?_,fun j hj=>by rw[k2 j (by omega),zH _ _ _ _ (by omega),k1 j (by omega)]⟩
      have hid:hpa id'=some ⟨58,2,true,ps.map Phs.enc⟩:=by rw[k1 id' (by omega),g3]
      have hrow:zE h ([str y.name,str y.layer,str y.flag]++y.cond.enc++[str y.salt,ra]++[.own id' 0 ps.length])=some ((y.withP ps).enc,upd hpa id' none):=by
       rw[wl,wl,wl]
       have fv:∀(h:Hp) (x:Value),zP h (.v x)=some (.v x,h):=fun _ _=>rfl
       have fo:zP hpa (.own id' 0 ps.length)=some (.sl 2 (ps.map Phs.enc),upd hpa id' none):=by simp[zP,hid,List.take_of_length_le]
       simp only[zE,fv,fo,kE,Option.bind_some,Option.map_some,f1,Xp.enc,Xp.withP,List.append_assoc,List.cons_append,List.nil_append]
      simp only[List.set_cons_zero,rowsA,hrow,Option.bind_some,f2,Option.map_some,List.map_cons]
   | succ i =>
     obtain⟨idp,cells,c1,c2,c3,c4,c5,c6⟩:=ih h3 (by simpa using hx) hne
     refine⟨idp,cells,by simpa using c1,c2,by omega,c4,c5,fun h id' ps g1 g2 g3=>?_⟩
     obtain⟨hpa,f1,k1⟩:=(h2.same (hp':=h) fun j c d=>g1 j c (by omega) (by omega)).freeze
     obtain⟨hpb,f2,k2⟩:=c6 hpa id' ps (fun j c d e=>by rw[k1 j (by omega),g1 j (by omega) d e]) g2 (by rw[k1 id' (by omega),g3])
     refine⟨hpb,?_,fun j hj=>by rw[k2 j (by omega),k1 j (by omega)]⟩
     simp only[List.set_cons_succ,rowsA,f1,Option.bind_some,f2,Option.map_some,List.map_cons]
end Go.Proofs.YtglppmnehgjolaaGreatDoor
namespace Go.AM
open Go.RowKit
variable {dr:Prop}
def Keeps (hp:Hp) (nx:Nat) (hp':Hp) (nx':Nat):Prop:=nx≤nx'∧∀id blk,id<nx→hp id=some blk→blk.arr=false→hp' id=some blk
open Classical in
noncomputable def hKeep (σ:AM.Spec):AM.Spec:=fun args hp nx=>(σ args hp nx).bind fun q=>if Keeps hp nx q.2.1 q.2.2 then some q else none
theorem hKeep_sound {P:Program} {f:FuncId} {σ:AM.Spec} (h:ya dr P f σ):ya dr P f (hKeep σ):=by
 refine⟨h.1,fun args hp nx r hp' nx' e w S G vs hi hz=>?_⟩
 unfold hKeep at e
 obtain⟨⟨r0,h1,n1⟩,hs,e⟩:=Option.bind_eq_some_iff.1 e
 split at e
 ·injection e with e
  injection e with e1 e
  injection e with e2 e3
  subst e1;subst e2;subst e3
  exact h.2 args hp nx _ _ _ hs w S G vs hi hz
 ·cases e
theorem hKeep_box (σ:AM.Spec):yb (hKeep σ):=by
 intro args hp nx r hp' nx' e
 unfold hKeep at e
 obtain⟨⟨r0,h1,n1⟩,hs,e⟩:=Option.bind_eq_some_iff.1 e
 split at e
 ·rename_i hk
  injection e with e
  injection e with e1 e
  injection e with e2 e3
  subst e1;subst e2;subst e3
  exact hk
 ·cases e
theorem hKeep_eq {σ:AM.Spec} {args:List PV} {hp:Hp} {nx:Nat} {r:PV} {hp':Hp} {nx':Nat} (h:σ args hp nx=some (r,hp',nx')) (hk:Keeps hp nx hp' nx'):hKeep σ args hp nx=some (r,hp',nx'):=by
 unfold hKeep
 rw[h]
 simp only[Option.bind_some,if_pos hk]
theorem keeps_of {hp hp':Hp} {nx nx':Nat} (h1:nx≤nx') (h2:∀j,j<nx→hp' j=hp j):Keeps hp nx hp' nx':=⟨h1,fun id blk hid hb _=>by rw[h2 id hid];exact hb⟩
theorem w7 (kill:Bool) (ns:List Nat) (F:List PV→Option PV):yb (zd kill ns F):=by
 intro args hp nx r hp' nx' h
 unfold zd at h
 split at h
 ·rename_i ys hp1 hf
  split at h
  ·split at h
   ·injection h with h;injection h with _ h;injection h with h1 h2;subst h1;subst h2
    exact⟨Nat.le_refl _,fun id blk _ h1 _=>h1⟩
   ·split at h
    ·injection h with h;injection h with _ h;injection h with h1 h2;subst h1;subst h2
     exact⟨Nat.le_refl _,fun id blk _ h1 h2=>wY hf h1 h2⟩
    ·cases h
  ·cases h
 ·cases h
theorem hOpen_box {σ:AM.Spec} (h:yb σ):yb (hOpen σ):=by
 intro args hp nx r hp' nx' e
 unfold hOpen at e
 obtain⟨⟨r0,h1,n1⟩,hs,e⟩:=zs e
 injection e with e1 e
 injection e with e2 e3
 subst e1;subst e2;subst e3
 obtain⟨k1,k2⟩:=h args hp nx r0 h1 n1 hs
 refine⟨k1,fun id blk hid hb ha=>?_⟩
 have hb1:=k2 id blk hid hb ha
 simp only
 unfold openB
 split
 ·rename_i id' n
  cases hb':h1 id' with
  | none=>exact hb1
  | some b =>
    simp only
    by_cases he:id=id'
    ·subst he
     rw[hb1] at hb'
     injection hb' with hb'
     subst hb'
     rw[qg]
     obtain⟨e,s,a,es⟩:=blk
     simp only at ha ⊢
     rw[ha]
    ·rw[zH _ _ _ _ he];exact hb1
 ·exact hb1
def vJ (P:Program) (l:Tab) (L:Nat→List Tmp) (b:List Nat):Ctx:=⟨P,lookup l,fun _=>[],L,fun g=>b.contains g,fun _=>[],fun _=>none⟩
@[simp] theorem mkCtxV_P (P:Program) (l:Tab) (L:Nat→List Tmp) (b:List Nat):(vJ P l L b).P=P:=rfl
@[simp] theorem call_mkV (P:Program) (l:Tab) (L:Nat→List Tmp) (b:List Nat) (hp:Hp) (nx g:Nat) (x y xs:List PV):qN (vJ P l L b) hp nx (some (.fn (.func g) x y)) xs=(lookup l g).bind fun s=>s (x++xs++y) hp nx:=by
 unfold qN vJ
 simp only
 cases lookup l g<;>rfl
@[simp] theorem EvC_region_mkV (P:Program) (l:Tab) (L:Nat→List Tmp) (b:List Nat) (i:Nat) (ops:Array Oper) (d:Bool) (st:St) (K:Exit→St→Prop) (h:L i=[]):EvC (vJ P l L b) (.region i ops d) st K=EvL (vJ P l L b) ops ops.toList st (xS K) :=
 jc _ i ops d st K rfl h
theorem wz {P:Program} {l:Tab} {L:Nat→List Tmp} {b:List Nat} {k:Nat} {ops:Array Oper} {d:Bool} {st:St} {K:Exit→St→Prop} (h:RefsA (L k) st):EvC (vJ P l L b) (.region k ops d) st K=EvL (vJ P l L b) ops ops.toList st (xS K) :=
 yq _ k ops d st K (fun _ h=>by cases h) h
theorem good_ofV {P:Program} {l:Tab} {q:List Nat} {L:Nat→List Tmp} {b:List Nat} (hm:P.follows .mixedOrders=true) (h:AllD dr P q l) (hb:AllBox b l):GoodD dr (vJ P l L b) (fun g=>q.contains g) :=
 let g:=good_ofL (k:=0) (L:=[]) hm h hb
 ⟨g.spec,g.quiet,g.mixed,g.box,fun _ _ h=>by cases h⟩
end Go.AM
namespace Go.Proofs.YtglppmnehgjolaaGreatDoor
open Go.Proofs.Tryz
open Go.RowKit Go.AM Go.SpanLaw
theorem hClo_box (e s:Nat):yb (hClo e s):=by
 intro args hp nx r hp' nx' h
 unfold hClo at h
 split at h
 ·split at h
  ·split at h
   ·injection h with h;injection h with _ h;injection h with h1 h2;subst h1;subst h2
    exact⟨by omega,fun id blk _ h1 _=>h1⟩
   ·injection h with h;injection h with _ h;injection h with h1 h2;subst h1;subst h2
    exact⟨by omega,fun id blk hid h1 _=>by rw[zc _ _ _ _ (by omega)];exact h1⟩
  ·cases h
 ·injection h with h;injection h with _ h;injection h with h1 h2;subst h1;subst h2
  exact⟨Nat.le_refl _,fun id blk _ h1 _=>h1⟩
 ·injection h with h;injection h with _ h;injection h with h1 h2;subst h1;subst h2
  exact⟨by omega,fun id blk hid h1 _=>by rw[zc _ _ _ _ (by omega)];exact h1⟩
 ·cases h
theorem clo_open {e s:Nat} {es:List (List PV)} {y:PV} (hy:SlOf s es y) (hp:Hp) (nx:Nat) (h:es.length≤lim):∃r hp' nx',hOpen (hClo e s) [y] hp nx=some (r,hp',nx')∧nx≤nx'∧((es=[]∧r=.nil)∨(r=.own nx 0 es.length∧nx<nx'∧hp' nx=some ⟨e,s,false,es⟩))∧∀j,j≠nx→hp' j=hp j:=by
 cases hy with
 | nil=>exact⟨.nil,hp,nx,rfl,Nat.le_refl _,.inl ⟨rfl,rfl⟩,fun _ _=>rfl⟩
 | em=>exact⟨.own nx 0 0,upd (upd hp nx (some ⟨e,s,true,[]⟩)) nx (some ⟨e,s,false,[]⟩),nx+1,by simp[hOpen,hClo,AM.openB],by omega,.inr ⟨rfl,by omega,by simp⟩,fun j hj=>by rw[zH _ _ _ _ hj,zH _ _ _ _ hj]⟩
 | @sl c es =>
   refine⟨.own nx 0 (c::es).length,upd (upd hp nx (some ⟨e,s,true,c::es⟩)) nx (some ⟨e,s,false,c::es⟩),nx+1,?_,by omega,.inr ⟨rfl,by omega,by simp⟩,fun j hj=>by rw[zH _ _ _ _ hj,zH _ _ _ _ hj]⟩
   have h1:hClo e s [.sl s (c::es)] hp nx=some (.own nx 0 (c::es).length,upd hp nx (some ⟨e,s,true,c::es⟩),nx+1):=by
    unfold hClo
    simp only
    rw[if_pos ⟨trivial,h⟩,if_neg (by simp)]
   unfold hOpen
   rw[h1]
   simp[AM.openB]
end Go.Proofs.YtglppmnehgjolaaGreatDoor
namespace Go.Proofs.YtglppmnehgjolaaGreatDoor
open Go.Proofs.Tryz
open Go.RowKit Go.AM
theorem wS (st:St):RefsA [] st:=fun t ht=>by cases ht
theorem wA {s:Tmp} {L:List Tmp} {st:St} {id i j:Nat} {blk:Blk} (h:st.σ s=.ref id i j) (hn:id<st.nx) (hb:st.hp id=some blk) (ha:blk.arr=false) (hL:RefsA L st):RefsA (s::L) st:=fun t ht=>by
 rcases List.mem_cons.1 ht with rfl | ht
 ·refine⟨fun id' o n he=>(by rw[h] at he;cases he),fun id' i' j' he=>?_⟩
  rw[h] at he
  injection he with he _ _
  subst he
  exact⟨hn,blk,hb,ha⟩
 ·exact hL t ht
theorem wn {s:Tmp} {L:List Tmp} {st:St} {x:List PV} (h:st.σ s=.tup x) (hL:RefsA L st):RefsA (s::L) st:=fun t ht=>by
 rcases List.mem_cons.1 ht with rfl | ht
 ·exact⟨fun id' o n he=>(by rw[h] at he;cases he),fun id' i' j' he=>by rw[h] at he;cases he⟩
 ·exact hL t ht
structure XS (v:Val) (o3 o4:PV) (hp:Hp) (nx:Nat):Prop where
 b0:hp 0=some ⟨128,5,false,[[int v.kind,int v.n,str v.s,o3,o4]]⟩
 b1:hp 1=some ⟨128,5,false,[[int 0,int 0,.v (.string ⟨#[]⟩),.nil,.nil]]⟩
 s3:OwnS hp nx 128 5 o3 (v.items.map Val.enc)
 s4:OwnS hp nx 158 6 o4 (v.fields.map encF)
 d3:∀id m,id<2→o3≠.own id 0 m
 d4:∀id m,id<2→o4≠.own id 0 m
 d:∀id m m',o3=.own id 0 m→o4≠.own id 0 m'
 nx2:2≤nx
theorem XS.more {v:Val} {o3 o4:PV} {hp:Hp} {nx:Nat} (h:XS v o3 o4 hp nx) (b:Option Blk):XS v o3 o4 (upd hp nx b) (nx+1):=by
 have:=h.nx2
 exact⟨by rw[zc _ _ _ _ (by omega)];exact h.b0,by rw[zc _ _ _ _ (by omega)];exact h.b1,h.s3.more b,h.s4.more b,h.d3,h.d4,h.d,by omega⟩
theorem upd_self {α:Type} (f:Nat→α) (k:Nat) (x:α) (h:f k=x):upd f k x=f:=by
 funext i
 simp only[upd]
 split
 ·rename_i e;subst e;exact h.symm
 ·rfl
noncomputable abbrev Cxc (n:Nat):Ctx:=kF prog [(72,zd false [] (FV (fun v=>.agg v.enc) n)),(70,qD [] (qx 128 5)),(100,qD [] (qx 158 6))] 1 [1,7,10] [70,100]
theorem xknown (n:Nat):KnownF (Cxc n) (fun g=>[72].contains g) 72 f72:=⟨_,func72,by kernel_rfl,rfl,by kernel_rfl⟩
theorem xcopy_eval (n:Nat) (v:Val) (h:v.vb≤lim∧v.vb≤n+1) (y3 y4:PV) (hy3:SlOf 5 (v.items.map Val.enc) y3) (hy4:SlOf 6 (v.fields.map encF) y4) :
  ∃r0,zl (Cxc n) f72 [.agg [int v.kind,int v.n,str v.s,y3,y4]]=some r0∧Stands r0 (.agg v.enc):=by
 have hvb:=vb_eq v
 have hl1:=wC v.items
 have hl2:=yd v.fields
 obtain⟨ha,hb⟩:=h
 have hcl3:=fun hp nx=>kd (e:=128) hy3 (by simp;omega) hp nx
 have hcl4:=fun hp nx=>kd (e:=158) hy4 (by simp;omega) hp nx
 unfold lim at ha
 refine qF rfl ?_
 simp[hy3.cell,hy4.cell]
 rw[vg (wA (id:=0) (i:=0) (j:=0) (by simp) (by simp) (by simp;rfl) rfl (wn (by simp;rfl) (wn (by simp;rfl) (wS _))))]
 obtain⟨o3,f3,n3,e3⟩:∃o f m,jr 128 5 (v.items.map Val.enc) y3 2=(o,f,m):=⟨_,_,_,rfl⟩
 have hn3:2≤n3:=by have:=ownOr_nx 128 5 (v.items.map Val.enc) y3 2;rw[e3] at this;exact this
 obtain⟨o4,f4,n4,e4⟩:∃o f m,jr 158 6 (v.fields.map encF) y4 n3=(o,f,m):=⟨_,_,_,rfl⟩
 have hn4:n3≤n4:=by have:=ownOr_nx 158 6 (v.fields.map encF) y4 n3;rw[e4] at this;exact this
 have q3:o3=.nil∨o3=.own 2 0 (v.items.map Val.enc).length:=by have:=Zf 128 5 (v.items.map Val.enc) y3 2;rw[e3] at this;exact this
 have q4:o4=.nil∨o4=.own n3 0 (v.fields.map encF).length:=by have:=Zf 158 6 (v.fields.map encF) y4 n3;rw[e4] at this;exact this
 have ho3:∀hp id,id<2→f3 hp id=hp id:=fun hp id hid=>by have:=kw (e:=128) (s:=5) (es:=v.items.map Val.enc) (y:=y3) (nx:=2) hp hid;rw[e3] at this;exact this
 have ho4:∀hp id,id<n3→f4 hp id=hp id:=fun hp id hid=>by have:=kw (e:=158) (s:=6) (es:=v.fields.map encF) (y:=y4) (nx:=n3) hp hid;rw[e4] at this;exact this
 have hO3:∀hp,OwnS (f3 hp) n3 128 5 o3 (v.items.map Val.enc)∧∀m,o3≠.own 0 0 m∧o3≠.own 1 0 m:=fun hp=>by
  have:=ke (e:=128) hy3 hp 2
  rw[e3] at this
  exact⟨this,fun m=>by rcases q3 with rfl | rfl<;>simp⟩
 have hO4:∀hp,OwnS (f4 hp) n4 158 6 o4 (v.fields.map encF)∧∀m id,id<n3→o4≠.own id 0 m:=fun hp=>by
  have:=ke (e:=158) hy4 hp n3
  rw[e4] at this
  exact⟨this,fun m id hid=>by rcases q4 with rfl | rfl<;>simp<;>omega⟩
 have h30:=fun hp=>ho3 hp 0 (by omega)
 have h40:=fun hp=>ho4 hp 0 (by omega)
 have c3:o3.isCell=true:=by rcases q3 with rfl | rfl<;>rfl
 have c4:o4.isCell=true:=by rcases q4 with rfl | rfl<;>rfl
 have hcs3:o3.cells=[o3]:=by rcases q3 with rfl | rfl<;>rfl
 have hcs4:o4.cells=[o4]:=by rcases q4 with rfl | rfl<;>rfl
 have len3:lenA prog 27 o3=some (int v.items.length):=by have:=(hO3 fun _=>none).1.len (P:=prog) el27;simpa using this
 have h31:=fun hp=>ho3 hp 1 (by omega)
 have h41:=fun hp=>ho4 hp 1 (by omega)
 have hlt3:∀id m,o3=.own id 0 m→id<n3:=fun id m hid=>by
  rcases (hO3 fun _=>none).1 with⟨h,_⟩ | ⟨id',h1,h2,_⟩
  ·rw[h] at hid;cases hid
  ·rw[h2] at hid;injection hid with hid _ _;omega
 have hX:∀hp0:Hp,hp0 1=some ⟨128,5,false,[[int 0,int 0,.v (.string ⟨#[]⟩),.nil,.nil]]⟩→XS v o3 o4 (upd (f4 (f3 hp0)) 0 (some ⟨128,5,false,[[int v.kind,int v.n,str v.s,o3,o4]]⟩)) n4:=by
  intro hp0 h1
  refine⟨by simp,by rw[zc _ _ _ _ (by omega),h41,h31,h1],?_,?_,fun id m hid he=>?_,fun id m hid=>(hO4 hp0).2 m id (by omega),fun id m m' he=>(hO4 hp0).2 m' id (hlt3 id m he),by omega⟩
  ·refine (hO3 hp0).1.same hn4 fun id m hid=>?_
   have hne:¬id=0:=by rintro rfl;exact ((hO3 hp0).2 m).1 hid
   rw[zc _ _ _ _ hne,ho4 _ _ (hlt3 id m hid)]
  ·refine (hO4 (f3 hp0)).1.same (Nat.le_refl _) fun id m hid=>?_
   have hne:¬id=0:=by rintro rfl;exact (hO4 hp0).2 m 0 (by omega) hid
   rw[zc _ _ _ _ hne]
  ·have:=(hO3 hp0).2 m
   match id,hid with
   | 0,_=>exact this.1 he
   | 1,_=>exact this.2 he
 simp[hcl3,e3,h30,hcl4,e4,h40,hcs3,hcs4,c3,c4,len3]
 refine zD (fun k σ hp nx=>σ 1=.ref 0 0 0∧σ 2=.ref 1 0 0∧σ 16=o3∧σ 17=int v.items.length∧σ 18=int k∧XS v o3 o4 hp nx) v.items.length
  ⟨by simp,by simp,by simp,by simp,by simp,by simpa using hX _ (by simp)⟩ ?_
 clear hX hlt3 h31 h41 hcl3 hcl4 hO3 hO4 ho3 ho4 h30 h40 len3
 rintro k σ hp nx hk ⟨h1,h2,h16,h17,h18,hX⟩
 by_cases hlt:k<v.items.length
 ·have hm:=jm (List.getElem_mem hlt)
  have hw:IntKind.i64.wrap ((k:Int)+1)=(k:Int)+1:=zi (by omega) (by omega)
  have hcall:=fun hp nx=>xz (fun v=>.agg v.enc) n v.items[k] hp nx ⟨by unfold lim;omega,by omega⟩
  obtain⟨id,i1,i2,i3⟩:=hX.s3.at_ (by simp;omega)
  have n0:¬id=0:=by rintro rfl;exact hX.d3 0 _ (by omega) i2
  have n1:¬id=1:=by rintro rfl;exact hX.d3 1 _ (by omega) i2
  have n2:¬id=nx:=by omega
  have n3:¬0=nx:=by have:=hX.nx2;omega
  have hset:(v.items.map Val.enc).set k v.items[k].enc=v.items.map Val.enc:=by
   apply List.ext_getElem?
   intro j
   rw[List.getElem?_set]
   split
   ·rename_i e;subst e;simp[hlt]
   ·rfl
  have hf:∀hp,zC hp (.agg v.items[k].enc)=some (.agg v.items[k].enc,hp):=fun hp=>j6 hp _
  have b0:=hX.b0
  rw[i2] at h16 b0
  simp[h1,h2,h16,h17,h18,hlt,i3,hw,n0,n2,n3,b0,hcall,hset]
  refine⟨hlt,by rw[i2];simp,?_⟩
  have h5:=hX.more (some ⟨128,5,false,[v.items[k].enc]⟩)
  rw[upd_self _ id _ (by rw[zc _ _ _ _ n2];exact i3)]
  exact h5
 ·obtain rfl:k=v.items.length:=by omega
  have b0:=hX.b0
  have len4:lenA prog 126 o4=some (int v.fields.length):=by have:=hX.s4.len (P:=prog) el126;simpa using this
  simp[h1,h2,h16,h17,h18,b0,len4]
  refine zD (fun k σ hp nx=>σ 1=.ref 0 0 0∧σ 2=.ref 1 0 0∧σ 31=o4∧σ 32=int v.fields.length∧σ 33=int k∧XS v o3 o4 hp nx) v.fields.length
   ⟨by simp[h1],by simp[h2],by simp,by simp,by simp,by simpa using hX⟩ ?_
  clear h1 h2 h16 h17 h18 hX b0 len4 hlt hk σ hp nx
  rintro k σ hp nx hk ⟨h1,h2,h16,h17,h18,hX⟩
  by_cases hlt:k<v.fields.length
  ·have hm:=vf (List.getElem_mem hlt)
   have hw:IntKind.i64.wrap ((k:Int)+1)=(k:Int)+1:=zi (by omega) (by omega)
   have hcall:=fun hp nx=>xz (fun v=>.agg v.enc) n v.fields[k].2 hp nx ⟨by unfold lim;omega,by omega⟩
   obtain⟨id,i1,i2,i3⟩:=hX.s4.at_ (by simp;omega)
   have n0:¬id=0:=by rintro rfl;exact hX.d4 0 _ (by omega) i2
   have n2:¬id=nx:=by omega
   have n3:¬0=nx:=by have:=hX.nx2;omega
   have hset:(v.fields.map encF).set k (str v.fields[k].1::v.fields[k].2.enc)=v.fields.map encF:=by
    apply List.ext_getElem?
    intro j
    rw[List.getElem?_set]
    split
    ·rename_i e;subst e;simp[hlt]
    ·rfl
   have b0:=hX.b0
   rw[i2] at h16 b0
   simp[h1,h2,h16,h17,h18,hlt,i3,hw,n0,n2,n3,b0,hcall,hset]
   refine⟨hlt,by rw[i2];simp,?_⟩
   have h5:=hX.more (some ⟨158,6,false,[str v.fields[k].1::v.fields[k].2.enc]⟩)
   rw[upd_self _ id _ (by rw[zc _ _ _ _ n2];exact i3)]
   exact h5
  ·obtain rfl:k=v.fields.length:=by omega
   have b0:=hX.b0
   have b1:=hX.b1
   simp[h1,h2,h16,h17,h18,b0,b1,f72,c3,c4]
   have s3:=hX.s3.same (hp':=upd hp 1 (some ⟨128,5,false,[[int v.kind,int v.n,str v.s,o3,o4]]⟩)) (Nat.le_refl nx) fun id m hid=>zc _ _ _ _ (by rintro rfl;exact hX.d3 1 m (by omega) hid)
   obtain⟨z3,hpA,g1,g2,g3⟩:=s3.gone
   have s4:=hX.s4.same (hp':=hpA) (Nat.le_refl nx) fun id m hid=>by rw[g3 id (fun m' he=>hX.d id m' m he hid),zc _ _ _ _ (by rintro rfl;exact hX.d4 1 m (by omega) hid)]
   obtain⟨z4,hpB,k1,k2,_⟩:=s4.gone
   refine⟨.agg [int v.kind,int v.n,str v.s,z3,z4],?_,?_⟩
   ·simp only[AM.freeze,zC,zE]
    have f1:∀(hp:Hp) (x:Value),zP hp (.v x)=some (.v x,hp):=fun _ _=>rfl
    simp only[f1,g1,k1]
    rfl
   ·rw[jI]
    exact StandsL.agg (.cons (.refl _) (.cons (.refl _) (.cons (.refl _) (.cons (.nilOr g2) (.cons (.nilOr k2) .nil)))))
theorem xcopy_sound:∀n,za prog 72 (zd false [] (FV (fun v=>.agg v.enc) n)):=by
 intro n
 induction n with
 | zero=>exact FV_zero ⟨_,func72,by kernel_rfl,by kernel_rfl⟩
 | succ n ih =>
   have hg:AM.Good (Cxc n) (fun g=>[72].contains g):=good_ofL mixed ⟨ih,fun _=>zf _ _,cloneV_sound,by simp,cloneF_sound,by simp,trivial⟩ ⟨by simp,fun _=>vT _ _,fun _=>vT _ _,trivial⟩
   exact yK (fn:=f72) hg (xknown n) false [] _ fun args r h w S vs hz=>by
    obtain⟨v,rfl,hv,rfl⟩:=FV_inv h
    obtain⟨u,hu,hr⟩:=jk hz
    subst hu
    obtain⟨y3,hy3,hr2⟩:=yt hr (j:=3) (s:=5) (es:=v.items.map Val.enc) (by simp)
    obtain⟨y4,hy4,hr3⟩:=yt hr2 (j:=4) (s:=6) (es:=v.fields.map encF) (by rw[List.getElem?_set_ne (by omega)];simp)
    have henc:(v.enc.set 3 y3).set 4 y4=[int v.kind,int v.n,str v.s,y3,y4]:=by rw[jI];rfl
    rw[henc] at hr3
    obtain⟨r0,h1,h2⟩:=xcopy_eval n v hv y3 y4 hy3 hy4
    exact⟨_,r0,.cons hr3 .nil,Nat.le_trans (Nat.le_refl 1) (by decide),h1,h2⟩
end Go.Proofs.YtglppmnehgjolaaGreatDoor
