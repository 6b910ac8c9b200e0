/-
The abstract machine, part 8: slices, literals, make, append, copy.
-/
import Derived.Test.YtjcofiomfmebkaaGreatDoorG3
import Derived.Maps.AppendAt
import Derived.Lib.AppendStr
import Derived.MapKept
set_option maxRecDepth 8000
namespace Go.AM
open Go.RowKit
variable {dr:Prop}
section
variable {P:Program} {w:World} {S:Nat→Prop} {G:Nat→GI} {hp:Hp} {nx:Nat}
theorem J6 {o:Option (Option PV)} {v:Option Value} {dflt n y:Nat} (code:BoundsCode) (h:yx dflt o=some n) (hy:n≤y) (hd:o=none→v=none) (hs:∀p,o=some (some p)→∃u,v=some u∧RepO w S G nx p u) (hn:o≠some none) :
  (v=none∧n=dflt)∨∃k i,v=some (.int k i)∧(Instr.sliceBound (.int k i) y code).run P w=.ok n w:=by
 unfold yx at h
 split at h
 ·injection h with h
  exact .inl ⟨hd rfl,h.symm⟩
 ·rename_i k i
  split at h
  ·rename_i h0
   injection h with h
   subst h
   obtain⟨u,rfl,hu⟩:=hs _ rfl
   obtain⟨rfl,_⟩:=hu.v_inv
   refine .inr ⟨k,i,rfl,?_⟩
   have:i≤y:=by omega
   simp[Instr.sliceBound,asIntOf,h0,this]
  ·cases h
 ·cases h
theorem vM {isS:Bool} {len cap l h:Nat} {lo hi:Option (Option PV)} {vl vh:Option Value} (hl:yx 0 lo=some l) (hh:yx len hi=some h) (hlh:l≤h) (hhc:h≤cap)
  (d1:lo=none→vl=none) (s1:∀p,lo=some (some p)→∃u,vl=some u∧RepO w S G nx p u) (n1:lo≠some none)
  (d2:hi=none→vh=none) (s2:∀p,hi=some (some p)→∃u,vh=some u∧RepO w S G nx p u) (n2:hi≠some none) :
  (Instr.sliceBounds isS len cap vl vh none).run P w=.ok (l,h,cap) w:=by
 rcases J6 (P:=P) (if isS then .sliceAcap else .sliceAlen) hh hhc d2 s2 n2 with⟨rfl,rfl⟩ | ⟨k,i,rfl,r2⟩
 ·rcases J6 (P:=P) .sliceB hl hlh d1 s1 n1 with⟨rfl,rfl⟩ | ⟨k',i',rfl,r1⟩
  ·simp[Instr.sliceBounds]
  ·simp[Instr.sliceBounds,r1]
 ·rcases J6 (P:=P) .sliceB hl hlh d1 s1 n1 with⟨rfl,rfl⟩ | ⟨k',i',rfl,r1⟩
  ·cases isS<;>simp_all[Instr.sliceBounds]
  ·cases isS<;>simp_all[Instr.sliceBounds]
theorem ziq (hi:Inv P w S G hp nx) {t:TypeId} {p x:PV} {lo hh:Option (Option PV)} {vl vh:Option Value} {u:Value} (h:wB P hp t p lo hh=some x) (hp':RepO w S G nx p u)
  (d1:lo=none→vl=none) (s1:∀p,lo=some (some p)→∃u,vl=some u∧RepO w S G nx p u)
  (d2:hh=none→vh=none) (s2:∀p,hh=some (some p)→∃u,vh=some u∧RepO w S G nx p u):Done dr P w hp nx S G x hp nx ((Instr.sliceAt t u vl vh none).run P w):=by
 have nn:∀{d n:Nat} {o:Option (Option PV)},yx d o=some n→o≠some none:=by
  rintro d n o h rfl
  simp[yx] at h
 unfold wB at h
 split at h
 ·rename_i s hu
  obtain⟨rfl,_⟩:=hp'.v_inv
  split at h
  ·rename_i l h' e1 e2
   split at h
   ·rename_i hc
    injection h with h
    subst h
    have hb:=vM (P:=P) (isS:=false) (cap:=s.size) e1 e2 hc.1 hc.2 d1 s1 (nn e1) d2 s2 (nn e2)
    exact zA (v:=.string (s.extract l h')) hi (by simp[Instr.sliceAt,run_underlying hu,Instr.slice,hb]) (j8 _ rfl)
   ·cases h
  ·cases h
 ·rename_i e s es hu
  split at h
  ·rename_i n l h' es1 e1 e2
   split at h
   ·rename_i hc
    obtain⟨rfl,hc⟩:=hc
    injection h with h
    subst h
    cases hp'.sl_inv with
    | sl us h0 h1 h2 h3 h4 h5 =>
      rename_i A cap
      have hb:=vM (P:=P) (isS:=true) (cap:=cap) e1 e2 hc.1 (by omega) d1 s1 (nn e1) d2 s2 (nn e2)
      have hlen:((es.drop l).take (h' - l)).length=h' - l:=by simp;omega
      have hget:∀(i:Nat) (c:List PV),((es.drop l).take (h' - l))[i]?=some c→i<h' - l∧es[l+i]?=some c:=by
       intro i c hi
       rw[List.getElem?_take] at hi
       split at hi
       ·rw[List.getElem?_drop] at hi;exact⟨by assumption,hi⟩
       ·cases hi
      have key:RepC w S (.sl s ((es.drop l).take (h' - l))) (.slice (if cap=l then A else A.map (·.add (l*s))) ((es.drop l).take (h' - l)).length (cap - l)):=by
       refine .sl (fun i j=>us (l+i) j) (fun ha=>by have:A=none:=(by split at ha<;>simp_all);have:=h0 this;omega) (by omega) (by omega) (fun c hc=>h3 c (List.drop_subset _ _ (List.take_subset _ _ hc))) (fun i j c pv hi hj=>?_) (fun i j c pv hi hj=>h5 _ j c pv (hget i c hi).2 hj)
       obtain⟨hil,hi'⟩:=hget i c hi
       obtain⟨ad,rfl,g1,g2,g3⟩:=h4 (l+i) j c pv hi' hj
       rw[if_neg (by omega)]
       refine⟨ad.add (l*s),rfl,by rw[kw];exact g1,?_,g3⟩
       rw[J3]
       have:l*s+(i*s+j)=(l+i)*s+j:=by rw[Nat.add_mul];omega
       rw[this]
       exact g2
      rw[hlen] at key
      exact zA (v:=_) hi (by simp[Instr.sliceAt,run_underlying hu,Instr.slice,hb,ql es1]) (.c key)
   ·cases h
  ·cases h
 ·rename_i e hu
  have:=hp'.nil_inv
  subst this
  split at h
  ·rename_i n l h' es1 e1 e2
   split at h
   ·rename_i hc
    obtain⟨rfl,rfl⟩:=hc
    injection h with h
    subst h
    have hb:=vM (P:=P) (isS:=true) (len:=0) (cap:=0) e1 e2 (Nat.le_refl _) (Nat.le_refl _) d1 s1 (nn e1) d2 s2 (nn e2)
    exact zA (v:=.slice none 0 0) hi (by simp[Instr.sliceAt,run_underlying hu,Instr.slice,hb,ql es1]) (.c .nil)
   ·cases h
  ·cases h
 ·rename_i e id off n hu
  have hop:=hp'.own_pos
  obtain⟨cap,g1,g2,g3,g4,rfl⟩:=hp'.own_inv
  split at h
  ·rename_i m l h' es1 e1 e2
   split at h
   rename_i b hbl
   split at h
   ·rename_i hc
    obtain⟨hbm,hc⟩:=hc
    injection h with h
    have hb:=vM (P:=P) (isS:=true) (cap:=cap) e1 e2 hc.1 (by omega) d1 s1 (nn e1) d2 s2 (nn e2)
    by_cases hl0:l=0
    ·subst hl0
     simp only[if_true] at h
     subst h
     refine zA (v:=.slice (some ⟨(G id).g,off*(G id).s,none⟩) h' cap) hi ?_ (.own g1 (by omega) g3 g4 hop)
     by_cases hc0:cap=0
     ·subst hc0
      simp[Instr.sliceAt,run_underlying hu,Instr.slice,hb,ql es1]
     ·simp[Instr.sliceAt,run_underlying hu,Instr.slice,hb,ql es1,hc0,Addr.add_lit]
    ·rw[if_neg hl0] at h
     by_cases hhl:h'=l
     ·subst hhl
      simp only[if_true] at h
      subst h
      refine zA (v:=_) hi (by simp[Instr.sliceAt,run_underlying hu,Instr.slice,hb,ql es1];rfl) (.c ?_)
      exact .sl (es:=[]) (fun _ _=>undef) (fun ha=>by split at ha<;>simp_all) (by simp) (by omega) (by simp) (by simp) (by simp)
     ·rw[if_neg hhl] at h
      subst h
      have hcl:¬cap=l:=by omega
      refine zA (v:=.slice (some ⟨(G id).g,(off+l)*(G id).s,none⟩) (h' - l) (cap - l)) hi ?_ (.own g1 (by omega) (by omega) ?_ hop)
      ·have hgs:(G id).s=m:=by rw[←(hi.live id b hbl).bs,hbm]
       simp[Instr.sliceAt,run_underlying hu,Instr.slice,hb,ql es1,hcl,Addr.add_lit,hgs,Nat.add_mul]
      ·rw[show off+l+(cap - l)=off+cap from by omega]
       exact g4
   ·cases h
   ·cases h
  ·cases h
 ·cases h
theorem zaG (hi:Inv P w S G hp nx) {f:Fn} {xs ys:List PV} {us ts:Array Value} (h1:Zip (RepO w S G nx) xs us.toList) (h2:Zip (RepO w S G nx) ys ts.toList) :
  Done dr P w hp nx S G (.fn f xs ys) hp nx ((Instr.makeFunc f us ts).run P w) :=
 zA (v:=.func f us ts) hi rfl (.fn (by simpa using h1.1) (by simpa using h2.1) (fun j pv x a b=>h1.2 j pv x a (by simpa using b)) (fun j pv x a b=>h2.2 j pv x a (by simpa using b)))
theorem zgZ {z:Array Value} {n s i j:Nat} (hs:z.size=s) (hi:i<n) (hj:j<s):(madeCells z (n*s))[i*s+j]?=z[j]?:=by
 have hlt:i*s+j<n*s:=yh hi hj
 unfold madeCells
 rw[Array.getElem?_map,Array.getElem?_range,if_pos hlt]
 have hm:(i*s+j) % s=j:=by rw[Nat.add_comm,Nat.add_mul_mod_self_right];exact Nat.mod_eq_of_lt hj
 simp only[Option.map_some,hs,hm]
 rw[Array.getElem?_eq_getElem (by omega)]
 simp only[Option.some.injEq]
 exact (getElem!_pos z j (by omega))
theorem V0 (hi:Inv P w S G hp nx) {t:TypeId} {p q x:PV} {hp':Hp} {nx':Nat} {u v:Value} (h:yV P hp nx t p q=some (x,hp',nx')) (hu:RepO w S G nx p u) (hv:RepO w S G nx q v) :
  Done dr P w hp nx S G x hp' nx' ((Instr.makeSlice t u v).run P w):=by
 unfold yV at h
 split at h
 ·rename_i kl l kc c
  obtain⟨rfl,_⟩:=hu.v_inv
  obtain⟨rfl,_⟩:=hv.v_inv
  split at h
  ·rename_i e he
   split at h
   ·rename_i n by_ z h1 h2 h3
    split at h
    ·rename_i hc
     obtain⟨c1,c2,c3,c4,c5,c6⟩:=hc
     injection h with h
     injection h with ex h
     injection h with eh en
     subst ex;subst eh;subst en
     obtain⟨i,vz,i1,i2,i3⟩:=ky h3
     obtain⟨z1,z2⟩:=qL (w:=w) (S:=S) i3
     have hsz:i.size=n:=by simpa[zS,i1] using h1
     have hby:i.bytes=by_:=by simpa[wL,i1] using h2
     have hzc:vz.cells.size=n:=by rw[←c2,z1];simp
     have hm:c.toNat≤9223372036854775807:=by simpa[maxLen] using c5
     have hbytes:(i.bytes:Int)*c≤281474976710656:=by
      have:((c.toNat*by_:Nat):Int)≤140737488355328:=by omega
      rw[Int.natCast_mul,Int.toNat_of_nonneg (by omega)] at this
      rw[hby,Int.mul_comm]
      omega
     have hr:=run_make (P:=P) w t e i vz (wU he) i1 i2 kl kc l c c3 c4 hbytes (by omega)
     have hlc:l.toNat≤c.toNat:=by omega
     have k:=Stp.alloc (dr:=dr) hi (madeCells vz.cells (c.toNat*i.size)) e true (List.replicate l.toNat z) n c1 (by simpa[zS] using h1) (fun c' hc'=>by rw[(List.mem_replicate.1 hc').2];exact c2)
      (by rw[size_madeCells,hsz,List.length_replicate];exact Nat.mul_le_mul_right _ hlc) (fun i' j c' pv hi' hj=>by
       have hil:i'<l.toNat:=by have:=(List.getElem?_eq_some_iff.1 hi').1;simpa using this
       rw[List.getElem?_replicate,if_pos hil] at hi'
       injection hi' with hi'
       subst hi'
       have hjn:j<n:=by rw[←c2];exact (List.getElem?_eq_some_iff.1 hj).1
       have hjz:j<vz.cells.size:=by omega
       rw[hsz,zgZ hzc (by omega) hjn]
       have h6:=z2 j pv vz.cells[j] hj (by simp[hjz])
       exact⟨vz.cells[j],by simp[hjz],fun _=>h6.1,.c h6.1,h6.2.1⟩)
     refine⟨_,_,_,_,hr,k,?_⟩
     have:=RepO.own (w:=w.alloc (.cells (madeCells vz.cells (c.toNat*i.size)) e)) (S:=S) (G:=upd G nx ⟨w.heap.size,(madeCells vz.cells (c.toNat*i.size)).size,n⟩) (nx:=nx+1) (id:=nx) (off:=0) (n:=l.toNat) (cap:=c.toNat) (by omega) hlc c5 (by simp[size_madeCells,hsz]) (by simpa using c1)
     simpa using this
    ·cases h
   ·cases h
  ·cases h
 ·cases h
end
variable {dr:Prop}
section
variable {P:Program} {w:World} {S:Nat→Prop} {G:Nat→GI} {hp:Hp} {nx:Nat}
theorem Stp.adopt {hp1:Hp} {w':World} (hi:Inv P w S G hp nx) (hsub:∀id b,hp1 id=some b→hp id=some b) (gi:GI) (e:TypeId) (arr:Bool) (es:List (List PV)) (cur:Array Value)
  (os:w'.os=w.os) (tape:w'.tape=w.tape) (output:w'.output=w.output) (size:w.heap.size≤w'.heap.size) (drawn:w.drawn≤w'.drawn)
  (D:Nat→Prop) (hD:∀b,D b→yg hp G b∧¬S b∧∀id b',hp1 id=some b'→(G id).g≠b)
  (hsame:∀b,b<w.heap.size→b≠gi.g→¬D b→w'.heap[b]?=w.heap[b]?) (hnl:∀id b,hp1 id=some b→(G id).g≠gi.g) (hnS:¬S gi.g) (hlv:yg hp G gi.g∨w.heap.size≤gi.g)
  (hs0:0<gi.s) (hsz:(P.info? e).map (·.size)=some gi.s) (hlen:∀c∈es,c.length=gi.s) (hfit:es.length*gi.s≤gi.z) (hcur:w'.heap[gi.g]?=some (.cells cur e (0,0))) (hcz:cur.size=gi.z)
  (hrow:∀(i j:Nat) (c:List PV) (pv:PV),es[i]?=some c→c[j]?=some pv→∃u,cur[i*gi.s+j]?=some u∧CellRep w S G nx arr pv u) :
  Stp dr P hp nx S G w (upd hp1 nx (some ⟨e,gi.s,arr,es⟩)) (nx+1) S (upd G nx gi) w':=by
 have hS:∀b,S b→S b∧w'.heap[b]?=w.heap[b]?:=fun b hb=>⟨hb,hsame b (hi.st b hb) (fun e=>hnS (e ▸ hb)) fun h=>(hD b h).2.1 hb⟩
 have hG:∀id,id<nx→upd G nx gi id=G id:=fun id hid=>zT _ _ _ _ (by omega)
 have hpo:∀id,id≠nx→upd hp1 nx (some ⟨e,gi.s,arr,es⟩) id=hp1 id:=fun id hid=>zT _ _ _ _ hid
 refine⟨⟨fun b hb=>Nat.lt_of_lt_of_le (hi.st b hb) size,fun id b hb=>?_,fun id b hb=>?_,fun id b hb=>?_,fun id id' b b' hb hb' he=>?_,hi.glo.mono hS⟩,by omega,hG,fun _ hb=>hb,fun _ hb=>.inl hb,fun id b hb=>?_,⟨os,tape,output,size,fun _=>drawn,fun k hk hn=>hsame k hk (fun e=>?_) fun h=>hn (hD k h).1⟩⟩
 ·by_cases hid:id=nx
  ·omega
  ·rw[hpo id hid] at hb;have:=hi.top id b (hsub id b hb);omega
 ·by_cases hid:id=nx
  ·subst hid
   simp only[qd] at hb ⊢
   injection hb with hb
   subst hb
   refine .ofCells hs0 rfl ⟨hsz,hlen,hfit,cur,hcur,hcz,fun i j c pv hi' hj=>?_⟩
   obtain⟨u,h1,h2⟩:=hrow i j c pv hi' hj
   exact⟨u,h1,h2.mono hS (by omega) hG⟩
  ·rw[hpo id hid] at hb
   have ht:=hi.top id b (hsub id b hb)
   rw[hG id ht]
   have hl:=hi.live id b (hsub id b hb)
   exact hl.mono hS (by omega) hG (hsame _ hl.lt (hnl id b hb) fun h=>(hD _ h).2.2 id b hb rfl)
 ·by_cases hid:id=nx
  ·subst hid;simpa using hnS
  ·rw[hpo id hid] at hb
   rw[hG id (hi.top id b (hsub id b hb))]
   exact hi.apart id b (hsub id b hb)
 ·by_cases hid:id=nx<;>by_cases hid':id'=nx
  ·omega
  ·subst hid
   rw[hpo id' hid'] at hb'
   rw[hG id' (hi.top id' b' (hsub id' b' hb'))] at he
   simp only[qd] at he
   exact (hnl id' b' hb' he.symm).elim
  ·subst hid'
   rw[hpo id hid] at hb
   rw[hG id (hi.top id b (hsub id b hb))] at he
   simp only[qd] at he
   exact (hnl id b hb he).elim
  ·rw[hpo id hid] at hb
   rw[hpo id' hid'] at hb'
   rw[hG id (hi.top id b (hsub id b hb)),hG id' (hi.top id' b' (hsub id' b' hb'))] at he
   exact hi.inj id id' b b' (hsub id b hb) (hsub id' b' hb') he
 ·by_cases hid:id=nx
  ·subst hid;simpa using hlv
  ·rw[hpo id hid] at hb
   rw[hG id (hi.top id b (hsub id b hb))]
   exact .inl ⟨id,b,hsub id b hb,rfl⟩
 ·subst e
  rcases hlv with h | h
  ·exact hn h
  ·omega
theorem ZQ (hi:Inv P w S G hp nx) {n:Nat} {x:PV} {xs:List (List PV)} {u:Value} (h:view hp n x=some xs) (hx:RepO w S G nx x u) :
  ∃(A:Option Addr) (c:Nat) (f:Nat→Value),u=.slice A xs.length c∧(∀c'∈xs,c'.length=n) ∧
   ∀(i j:Nat) (c':List PV) (pv:PV),xs[i]?=some c'→c'[j]?=some pv→∃ad,A=some ad∧w.cell? (ad.add (i*n+j))=some (f (i*n+j))∧CellRep w S G nx true pv (f (i*n+j)):=by
 have key:∀(A:Option Addr) (xs:List (List PV)) (c:Nat),RepC w S (.sl n xs) (.slice A xs.length c)→(∃us:Nat→Nat→Value,(∀c'∈xs,c'.length=n) ∧
   (∀(i j:Nat) (c:List PV) (pv:PV),xs[i]?=some c→c[j]?=some pv→∃ad,A=some ad∧w.cell? (ad.add (i*n+j))=some (us i j)∧(us i j).oneCell'=true∧RepC w S pv (us i j))):=by
  intro A xs c h
  cases h with
  | sl us h0 h1 h2 h3 h4 h5 =>
    refine⟨us,h3,fun i j c pv a b=>?_⟩
    obtain⟨ad,e,_,g1,g2⟩:=h4 i j c pv a b
    exact⟨ad,e,g1,g2,h5 i j c pv a b⟩
 have fin:∀(A:Option Addr) (c:Nat) (us:Nat→Nat→Value),(∀c'∈xs,c'.length=n) →
   (∀(i j:Nat) (c:List PV) (pv:PV),xs[i]?=some c→c[j]?=some pv→∃ad,A=some ad∧w.cell? (ad.add (i*n+j))=some (us i j)∧CellRep w S G nx true pv (us i j))→u=.slice A xs.length c →
   ∃(A:Option Addr) (c:Nat) (f:Nat→Value),u=.slice A xs.length c∧(∀c'∈xs,c'.length=n) ∧
    ∀(i j:Nat) (c':List PV) (pv:PV),xs[i]?=some c'→c'[j]?=some pv→∃ad,A=some ad∧w.cell? (ad.add (i*n+j))=some (f (i*n+j))∧CellRep w S G nx true pv (f (i*n+j)):=by
  intro A c us h1 h2 h3
  refine⟨A,c,fun k=>match A with | some ad=>(w.cell? (ad.add k)).getD undef | none=>undef,h3,h1,fun i j c' pv hi' hj=>?_⟩
  obtain⟨ad,rfl,g1,g2⟩:=h2 i j c' pv hi' hj
  exact⟨ad,rfl,by simp[g1],by simpa[g1] using g2⟩
 unfold view at h
 split at h
 ·injection h with h
  subst h
  have:=hx.nil_inv
  subst this
  exact⟨none,0,fun _=>undef,rfl,by simp,by simp⟩
 ·injection h with h
  subst h
  obtain⟨ad,cap,rfl,_⟩:=hx.em_inv
  exact⟨some ad,cap,fun _=>undef,rfl,by simp,by simp⟩
 ·rename_i s es
  split at h
  ·rename_i hs
   subst hs
   injection h with h
   subst h
   have hc:=hx.sl_inv
   cases hc with
   | sl us h0 h1 h2 h3 h4 h5 =>
     refine fin _ _ us h3 (fun i j c pv a b=>?_) rfl
     obtain⟨ad,e,_,g1,g2⟩:=h4 i j c pv a b
     exact⟨ad,e,g1,fun _=>h5 i j c pv a b,.c (h5 i j c pv a b),g2⟩
  ·cases h
 ·rename_i id off k
  split at h
  ·rename_i b hb
   split at h
   ·rename_i hc
    injection h with h
    obtain⟨c1,c2,c3⟩:=hc
    have hop:=hx.own_pos
    obtain⟨cap,g1,g2,g3,g4,rfl⟩:=hx.own_inv
    have hbr:=hi.live id b hb
    obtain⟨cur,r1,r2,r3⟩:=hbr.row hop
    have hs:(G id).s=n:=by rw[←hbr.bs,c2]
    have hl:xs.length=k:=by rw[←h];simp;omega
    have hget:∀(i:Nat) (c:List PV),xs[i]?=some c→b.es[off+i]?=some c:=by
     intro i c hi'
     rw[←h,List.getElem?_take] at hi'
     split at hi'
     ·rwa [List.getElem?_drop] at hi'
     ·cases hi'
    refine fin (some ⟨(G id).g,off*(G id).s,none⟩) cap (fun i j=>(cur[(off+i)*n+j]?).getD undef) (fun c' hc'=>?_) (fun i j c pv hi' hj=>?_) (by rw[hl])
    ·rw[←h] at hc'
     rw[←hs]
     exact hbr.len hop c' (List.drop_subset _ _ (List.take_subset _ _ hc'))
    ·obtain⟨v,v1,v2⟩:=r3 (off+i) j c pv (hget i c hi') hj
     refine⟨_,rfl,?_,?_⟩
     ·rw[Addr.add_lit,cell_of_row w _ _ cur _ _ r1,hs]
      rw[hs] at v1
      rw[show off*n+(i*n+j)=(off+i)*n+j from by rw[Nat.add_mul];omega,v1]
      rfl
     ·rw[hs] at v1
      simp only[v1,Option.getD_some]
      rw[c1] at v2
      exact v2
   ·cases h
  ·cases h
 ·cases h
theorem znE {n k m:Nat} (hn:0<n) (hk:k<m*n):k / n<m∧k % n<n∧k / n*n+k % n=k:=by
 refine⟨(Nat.div_lt_iff_lt_mul hn).2 hk,Nat.mod_lt _ hn,?_⟩
 rw[Nat.mul_comm]
 exact Nat.div_add_mod k n
theorem Q1 {n:Nat} {xs:List (List PV)} {A:Option Addr} {f:Nat→Value} (hn:0<n) (hl:∀c'∈xs,c'.length=n)
  (h:∀(i j:Nat) (c':List PV) (pv:PV),xs[i]?=some c'→c'[j]?=some pv→∃ad,A=some ad∧w.cell? (ad.add (i*n+j))=some (f (i*n+j))∧CellRep w S G nx true pv (f (i*n+j))) :
  ∀k,k<xs.length*n→∃ad,A=some ad∧w.cell? (ad.add k)=some (f k)∧(f k).oneCell'=true:=by
 intro k hk
 obtain⟨h1,h2,h3⟩:=znE hn hk
 have hc:xs[k / n]?=some xs[k / n]:=List.getElem?_eq_getElem h1
 have hcl:xs[k / n].length=n:=hl _ (List.getElem_mem h1)
 obtain⟨ad,e,g1,g2⟩:=h (k / n) (k % n) _ (xs[k / n][k % n]'(by omega)) hc (List.getElem?_eq_getElem (by omega))
 rw[h3] at g1 g2
 exact⟨ad,e,g1,g2.2.2⟩
theorem zcy (t ty e:TypeId) (i:TypeInfo) (z:Value) (ht:P.underlying t=some (.slice e)) (hi:P.info? e=some i) (hz:i.zero=some z) (hsz:0<i.size)
  (v:Value) (n:Nat) (xs:List Value) (hown:w.ownsRow 0 e i.size v n xs) (a:Addr) (m c:Nat) (news:List Value) (hl:news.length=m*i.size) (hnews:∀j u,news[j]?=some u→w.cell? (a.add j)=some u) (h1:∀u∈news,u.oneCell'=true)
  (h63:n+m≤maxLen) (hbytes:(n+m)*i.bytes≤140737488355328) {v':Value} {w':World} (r:(Builtin.append_ #[t,t] ty #[v,.slice (some a) m c]).run P w=.ok v' w'):w.drawn≤w'.drawn:=by
 have hsmall:n+m≤9223372036854775807:=by simp only[maxLen] at h63;omega
 rcases hown.2 with⟨rfl,rfl⟩ | ⟨g,cap,cur,rfl,hbg,hg,hnc,hcm,hcs,htake⟩
 ·by_cases hm:m=0
  ·subst hm
   have hn:news=[]:=List.eq_nil_of_length_eq_zero (by simpa using hl)
   subst hn
   have hr:(Builtin.append_ #[t,t] ty #[.slice none 0 0,.slice (some a) 0 c]).run P w=.ok (.slice none 0 0) w:=by
    simp[Builtin.append_,run_underlying ht,sizeOf,typeInfo,hi,Builtin.lenOf,Builtin.firstCells,loadCells,loadCellsFrom]
   rw[hr] at r
   injection r with _ r
   rw[←r]
   exact Nat.le_refl _
  ·have hr:=run_append_nil (P:=P) w t ty e i z ht hi hz a m c news hl hnews (by omega) (by omega) (by have hb:=hbytes;simp only[Nat.zero_add] at hb;omega)
   rw[hr] at r
   injection r with _ r
   rw[←r]
   exact Nat.le_succ _
 ·by_cases hroom:n+m≤cap
  ·have hfit:n*i.size+news.length≤cur.size:=by rw[hl,hcs,←Nat.add_mul];exact Nat.mul_le_mul_right _ hroom
   have hr:=run_append_room (P:=P) w t ty e i ht hi g n cap cur hg a m c news hl hnews h1 hroom hfit
   rw[hr] at r
   injection r with _ r
   rw[←r]
   exact Nat.le_refl _
  ·have holds:∀j u,xs[j]?=some u→w.cell? ((⟨g,0,none⟩:Addr).add j)=some u:=hown.cells (g:=g) rfl
   have hr:=run_append_grow (P:=P) w t ty e i z ht hi hz ⟨g,0,none⟩ n cap xs hown.1 holds a m c news hl hnews (by omega) (by omega) (growslice_fits (by omega) hbytes)
   rw[hr] at r
   injection r with _ r
   rw[←r]
   exact Nat.le_succ _
def zkp (P:Program) (w:World) (t t' ty e:TypeId) (n by_ m:Nat) (x:Value) (news:List Value):Prop :=
 ∀(base:Nat) (v:Value) (k:Nat) (olds:List Value),w.ownsRow base e n v k olds→base≤w.heap.size→k+m≤maxLen→(k+m)*by_≤140737488355328 →
  ∃v' w',(Builtin.append_ #[t,t'] ty #[v,x]).run P w=.ok v' w'∧w'.ownsRow base e n v' (k+m) (olds++news)∧w.grownBy w' v.ownBlock∧(v'.ownBlock=v.ownBlock∨v'.ownBlock=some w.heap.size)∧w.drawn≤w'.drawn∧(m=0→v'=v∧w'=w)
theorem zkq {t ty e:TypeId} {n by_:Nat} {i:TypeInfo} {vz:Value} (hu:P.underlying t=some (.slice e)) (i1:P.info? e=some i) (i2:i.zero=some vz) (hsz:i.size=n) (hby:i.bytes=by_) (hzc:vz.cells.size=n) (hn:0<n)
  {A:Option Addr} {m c:Nat} {f:Nat→Value} (hf:∀k,k<m*n→∃ad,A=some ad∧w.cell? (ad.add k)=some (f k)∧(f k).oneCell'=true):zkp P w t t ty e n by_ m (.slice A m c) ((List.range (m*n)).map f):=by
 intro base v k olds hown hbase h63 hb
 by_cases hm:m=0
 ·subst hm
  refine⟨v,w,?_,by simpa using hown,World.grownBy.refl w _,.inl rfl,Nat.le_refl _,fun _=>⟨rfl,rfl⟩⟩
  rcases hown.2 with⟨rfl,_⟩ | ⟨g,cap,cur,rfl,_,_,g2,_⟩
  ·cases A<;>simp[Builtin.append_,run_underlying hu,sizeOf,typeInfo,i1,Builtin.lenOf,Builtin.firstCells,loadCells,loadCellsFrom]
  ·cases A<;>simp[Builtin.append_,run_underlying hu,sizeOf,typeInfo,i1,Builtin.lenOf,Builtin.firstCells,loadCells,loadCellsFrom,g2,storeCells]
 ·obtain⟨ad,rfl,_,_⟩:=hf 0 (Nat.mul_pos (by omega) hn)
  have a1:∀j u,((List.range (m*n)).map f)[j]?=some u→w.cell? (ad.add j)=some u:=fun j u hj=>by
   have hjl:j<m*n:=by have:=(List.getElem?_eq_some_iff.1 hj).1;simpa using this
   obtain⟨ad',e1,e2,_⟩:=hf j hjl
   injection e1 with e1
   subst e1
   rw[List.getElem?_map,List.getElem?_range hjl] at hj
   simp at hj
   rw[e2,hj]
  have a2:∀u∈(List.range (m*n)).map f,u.oneCell'=true:=fun u hu=>by
   obtain⟨k,hk,rfl⟩:=List.mem_map.1 hu
   exact (hf k (List.mem_range.1 hk)).choose_spec.2.2
  obtain⟨v',w',r1,r2,r3,r4,r5⟩:=run_append_own_at (P:=P) w base t ty e i vz n by_ hu i1 i2 hsz hby hzc hn v k olds hown ad m c ((List.range (m*n)).map f) (by simp) a1 a2 h63 hb hbase
  refine⟨v',w',r1,r2,r3,r5,?_,fun h=>(hm h).elim⟩
  exact zcy t ty e i vz hu i1 i2 (by omega) v k olds (by rw[hsz];exact⟨hown.1,hown.2.imp (fun h=>h) fun⟨g,cap,cur,q1,_,q2⟩=>⟨g,cap,cur,q1,Nat.zero_le _,q2⟩⟩) ad m c ((List.range (m*n)).map f) (by simp[hsz]) a1 a2 h63 (by rw[hby];exact hb) r1
theorem zqx {t u ty e:TypeId} {i:TypeInfo} (hu:P.underlying t=some (.slice e)) (hs:P.underlying u=some .string) (i1:P.info? e=some i) (i2:i.zero=some (.int .u8 0)) (hsz:i.size=1) (hby:i.bytes=1) (s:ByteArray) :
  zkp P w t u ty e 1 1 s.size (.string s) (Lib.strCells s):=by
 intro base v k olds hown hbase h63 hb
 rw[Nat.mul_one] at hb
 have hxl:olds.length=k:=by simpa using hown.1
 have hsmall:k+s.size≤9223372036854775807:=by simp only[maxLen] at h63;omega
 obtain⟨v',w',r1,r2,r3,r4⟩:=Lib.run_append_own_string (P:=P) w base t u ty e i hu hs i1 i2 hsz hby v k olds hown s h63 hb hbase
 refine⟨v',w',r1,r2,r3,?_⟩
 by_cases hm:s.size=0
 ·have hr:(Builtin.append_ #[t,u] ty #[v,.string s]).run P w=.ok v w:=by
   have hc:Lib.strCells s=[]:=List.eq_nil_of_length_eq_zero (by rw[Lib.strCells_length];exact hm)
   have hf:=Lib.run_firstCells_string (P:=P) w 1 s
   rw[hm,hc] at hf
   rcases hown.2 with⟨rfl,_⟩ | ⟨g,cap,cur,rfl,_,_,g2,_⟩
   ·simp[Builtin.append_,run_underlying hu,run_underlying hs,sizeOf,typeInfo,i1,hsz,Builtin.lenOf,hm,hf]
   ·simp[Builtin.append_,run_underlying hu,run_underlying hs,sizeOf,typeInfo,i1,hsz,Builtin.lenOf,hm,hf,g2,storeCells]
  rw[hr] at r1
  injection r1 with e1 e2
  subst e1;subst e2
  exact⟨.inl rfl,Nat.le_refl _,fun _=>⟨rfl,rfl⟩⟩
 ·rcases hown.2 with⟨rfl,rfl⟩ | ⟨g,cap,cur,rfl,hbg,hg,hnc,hcm,hcs,htake⟩
  ·have hr:=run_append_nil_string (P:=P) w t u ty e i (.int .u8 0) hu hs i1 i2 s (by omega) (by omega) (by rw[hby];omega)
   rw[hr] at r1
   injection r1 with e1 e2
   subst e1;subst e2
   exact⟨.inr rfl,Nat.le_succ _,fun h=>(hm h).elim⟩
  ·have hcs':cur.size=cap:=by simpa using hcs
   by_cases hroom:k+s.size≤cap
   ·have hr:=Lib.run_append_room_string (P:=P) w t u ty e i hu hs i1 hsz g k cap cur hg s hroom (by omega)
    rw[hr] at r1
    injection r1 with e1 e2
    subst e1;subst e2
    exact⟨.inl rfl,Nat.le_refl _,fun h=>(hm h).elim⟩
   ·have hr:=Lib.run_append_grow_string (P:=P) w t u ty e i (.int .u8 0) hu hs i1 i2 ⟨g,0,none⟩ k cap olds (by rw[hsz];omega) (hown.cells (g:=g) rfl) s (by omega) (by omega) (growslice_fits (by omega) (by rw[hby];omega))
    rw[hr] at r1
    injection r1 with e1 e2
    subst e1;subst e2
    exact⟨.inr rfl,Nat.le_succ _,fun h=>(hm h).elim⟩
theorem zkr {e:TypeId} (h:znx P e=true):∃i,P.info? e=some i∧i.zero=some (.int .u8 0)∧i.size=1∧i.bytes=1:=by
 unfold znx at h
 split at h
 ·rename_i i hi
  split at h
  ·rename_i z hz
   simp only[Bool.and_eq_true,beq_iff_eq] at h
   obtain⟨⟨rfl,h1⟩,h2⟩:=h
   exact⟨i,hi,hz,h1,h2⟩
  ·cases h
 ·cases h
theorem znF {u:TypeId} (h:zuC P u=true):P.underlying u=some .string:=by
 unfold zuC at h
 split at h
 ·assumption
 ·cases h
theorem zeT (hi:Inv P w S G hp nx) {t t' ty:TypeId} {s x y:PV} {hp':Hp} {nx':Nat} {u v:Value} (h:qY P hp nx t t' s x=some (y,hp',nx')) (hs:RepO w S G nx s u) (hx:RepO w S G nx x v) :
  Done dr P w hp nx S G y hp' nx' ((Builtin.append_ #[t,t'] ty #[u,v]).run P w):=by
 unfold qY at h
 split at h
 ·rename_i e he
  split at h
  ·rename_i n by_ z h1 h2 h3
   split at h
   ·rename_i xs hv
    obtain⟨i,vz,i1,i2,i3⟩:=ky h3
    have hsz:i.size=n:=by simpa[zS,i1] using h1
    have hby:i.bytes=by_:=by simpa[wL,i1] using h2
    have hzl:=(qL (w:=w) (S:=S) i3).1
    have hu:=wU he
    have hsrc:0<n→z.length=n→∃news,zkp P w t t' ty e n by_ xs.length v news∧news.length=xs.length*n∧(∀c'∈xs,c'.length=n) ∧
      ∀(i j:Nat) (c':List PV) (pv:PV),xs[i]?=some c'→c'[j]?=some pv→∃u',news[i*n+j]?=some u'∧CellRep w S G nx true pv u':=by
     intro hn hzl'
     unfold zeS at hv
     split at hv
     ·rename_i b
      split at hv
      ·rename_i hc
       injection hv with hv
       subst hv
       obtain⟨i',j1,j2,j3,j4⟩:=zkr hc.2
       rw[i1] at j1
       injection j1 with j1
       subst j1
       have hn1:n=1:=by omega
       have hb1:by_=1:=by omega
       subst hn1;subst hb1
       have hvs:v=.string b:=by
        cases hx with
        | c h=>cases h;rfl
       subst hvs
       have hl:(b.data.toList.map fun c=>[PV.v (.int .u8 c.toNat)]).length=b.size:=by rw[List.length_map,Array.length_toList];rfl
       refine⟨Lib.strCells b,by rw[hl];exact zqx hu (znF hc.1) i1 j2 j3 j4 b,by rw[hl,Lib.strCells_length,Nat.mul_one],fun c' hc'=>?_,fun i j c' pv hi' hj=>?_⟩
       ·obtain⟨x,_,rfl⟩:=List.mem_map.1 hc';rfl
       ·rw[List.getElem?_map] at hi'
        obtain⟨x,hx1,rfl⟩:=Option.map_eq_some_iff.1 hi'
        obtain rfl:j=0:=by
         have:=(List.getElem?_eq_some_iff.1 hj).1
         simpa using this
        simp only[List.getElem?_cons_zero,Option.some.injEq] at hj
        subst hj
        refine⟨.int .u8 x.toNat,?_,fun _=>.v rfl,.c (.v rfl),rfl⟩
        unfold Lib.strCells
        rw[List.getElem?_map,Nat.mul_one,Nat.add_zero,hx1]
        rfl
      ·cases hv
     ·split at hv
      ·rename_i he'
       subst he'
       obtain⟨A,c,f,rfl,f1,f2⟩:=ZQ hi hv hx
       have hzc:vz.cells.size=n:=by rw[←hzl',hzl];simp
       refine⟨(List.range (xs.length*n)).map f,zkq hu i1 i2 hsz hby hzc hn (Q1 hn f1 f2),by simp,f1,fun i j c' pv hi' hj=>?_⟩
       obtain⟨ad',a1,a2,a3⟩:=f2 i j c' pv hi' hj
       have hjn:j<n:=by rw[←f1 c' (List.mem_of_getElem? hi')];exact (List.getElem?_eq_some_iff.1 hj).1
       have hil:i<xs.length:=(List.getElem?_eq_some_iff.1 hi').1
       have hlt:=yh (n:=xs.length) hil hjn
       exact⟨f (i*n+j),by rw[List.getElem?_map,List.getElem?_range hlt];rfl,a3⟩
      ·cases hv
    split at h
    ·split at h
     ·rename_i hc
      obtain⟨c1,c2,c3,c4⟩:=hc
      have:=hs.nil_inv
      subst this
      obtain⟨news,hA,_,f1,f2⟩:=hsrc c1 c2
      split at h
      ·rename_i hm
       injection h with h
       injection h with ey h
       injection h with eh en
       subst ey;subst eh;subst en
       obtain⟨v',w',r1,_,_,_,_,r6⟩:=hA w.heap.size (.slice none 0 0) 0 [] (World.ownsRow_nil w _ e n) (Nat.le_refl _) (by simpa using c3) (by simpa using c4)
       obtain⟨rfl,rfl⟩:=r6 hm
       exact zA (v:=.slice none 0 0) hi r1 (.c .nil)
      ·rename_i hm
       injection h with h
       injection h with ey h
       injection h with eh en
       subst ey;subst eh;subst en
       obtain⟨v',w',r1,r2,r3,r5,rd,_⟩:=hA w.heap.size (.slice none 0 0) 0 [] (World.ownsRow_nil w _ e n) (Nat.le_refl _) (by simpa using c3) (by simpa using c4)
       simp only[Nat.zero_add,List.nil_append] at r2
       rcases r2.2 with⟨e1,e2⟩ | ⟨g,cap,cur,rfl,e2,e3,e4,e5,e6,e7⟩
       ·exact (hm e2).elim
       ·have hg:g=w.heap.size:=by
         rcases r5 with h5 | h5<;>simp[Value.ownBlock] at h5
         exact h5
        subst hg
        have k:=Stp.adopt (dr:=dr) (hp1:=hp) hi (fun _ _ h=>h) ⟨w.heap.size,cur.size,n⟩ e true xs cur r3.os r3.tape r3.output r3.size rd (fun _=>False) (fun _ h=>h.elim) (fun b hb hne _=>r3.block b hb (by simp[Value.ownBlock])) (fun id b hb=>Nat.ne_of_lt (hi.live id b hb).lt)
         (fun hS=>by have:=hi.st _ hS;simp at this) (.inr (Nat.le_refl _)) c1 (by simpa[zS] using h1) f1 (by rw[e6];exact Nat.mul_le_mul_right _ e4) e3 rfl (fun i' j c' pv hi' hj=>by
          obtain⟨u',a1,a3⟩:=f2 i' j c' pv hi' hj
          have hjn:j<n:=by rw[←f1 c' (List.mem_of_getElem? hi')];exact (List.getElem?_eq_some_iff.1 hj).1
          have hil:i'<xs.length:=(List.getElem?_eq_some_iff.1 hi').1
          have hlt:=yh (n:=xs.length) hil hjn
          refine⟨u',?_,a3⟩
          have h7:(cur.toList.take (xs.length*n))[i'*n+j]?=some u':=by rw[e7];exact a1
          rw[List.getElem?_take,if_pos hlt] at h7
          simpa using h7)
        refine⟨_,_,_,_,r1,k,?_⟩
        have:=RepO.own (w:=w') (S:=S) (G:=upd G nx ⟨w.heap.size,cur.size,n⟩) (nx:=nx+1) (id:=nx) (off:=0) (n:=xs.length) (cap:=cap) (by omega) e4 e5 (by simp[e6]) (by simpa using c1)
        simpa using this
     ·cases h
    ·rename_i id k
     split at h
     ·rename_i b hb
      split at h
      ·rename_i hc
       obtain⟨c0,c1,c2,c3,c4,c5,c6⟩:=hc
       injection h with h
       injection h with ey h
       injection h with eh en
       subst ey;subst eh;subst en
       have hop:=hs.own_pos
       obtain⟨cap,g1,g2,g3,g4,rfl⟩:=hs.own_inv
       have hzc:vz.cells.size=n:=by rw[←c4,hzl];simp
       have hbr:=hi.live id b hb
       obtain⟨cur,q1,q2,q3⟩:=hbr.row hop
       have hsb:(G id).s=n:=by
        have h5:=hbr.size hop
        rw[c1] at h5
        have h6:(P.info? e).map (·.size)=some n:=by simpa[zS] using h1
        rw[h6] at h5
        injection h5 with h5
        exact h5.symm
       have hg0:(⟨(G id).g,0*(G id).s,none⟩:Addr)=⟨(G id).g,0,none⟩:=by simp
       rw[hg0]
       have hcz:cur.size=cap*n:=by rw[q2,←g4,hsb];simp
       have hown:w.ownsRow 0 e n (.slice (some ⟨(G id).g,0,none⟩) k cap) k (cur.toList.take (k*n)):=by
        refine⟨?_,.inr ⟨(G id).g,cap,cur,rfl,Nat.zero_le _,by rw[←c1];exact q1,g2,g3,hcz,rfl⟩⟩
        simp only[List.length_take,Array.length_toList,hcz]
        exact Nat.min_eq_left (Nat.mul_le_mul_right _ g2)
       have hsub:∀id' b',upd hp id none id'=some b'→hp id'=some b':=fun id' b' h=>kU h
       have hnl:∀id' b',upd hp id none id'=some b'→(G id').g≠(G id).g:=fun id' b' h he=>by
        have hne:id'≠id:=by rintro rfl;simp at h
        exact hne (hi.inj id' id b' b (kU h) hb he)
       obtain⟨news,hA,_,f1,f2⟩:=hsrc c3 c4
       obtain⟨v',w',r1,r2,r3,r5,rd,_⟩:=hA 0 _ k _ hown (Nat.zero_le _) c5 c6
       simp only[Value.ownBlock] at r3 r5
       rcases r2.2 with⟨e1,e2⟩ | ⟨g,cap',cur',rfl,e2,e3,e4,e5,e6,e7⟩
       ·subst e1;simp[Value.ownBlock] at r5
       ·have hg:g=(G id).g∨g=w.heap.size:=by simpa[Value.ownBlock] using r5
        have hgl:=hbr.lt
        have hrow:∀(i' j:Nat) (c':List PV) (pv:PV),(b.es++xs)[i']?=some c'→c'[j]?=some pv→∃u,cur'[i'*n+j]?=some u∧CellRep w S G nx true pv u:=by
         intro i' j c' pv hi' hj
         have hcl:c'.length=n:=by
          rcases List.mem_append.1 (List.mem_of_getElem? hi') with h | h
          ·rw[←hsb];exact hbr.len hop c' h
          ·exact f1 c' h
         have hjn:j<n:=by rw[←hcl];exact (List.getElem?_eq_some_iff.1 hj).1
         have hil:i'<k+xs.length:=by have:=(List.getElem?_eq_some_iff.1 hi').1;simp at this;omega
         have hlt:=yh (n:=k+xs.length) hil hjn
         have h7:(cur'.toList.take ((k+xs.length)*n))[i'*n+j]?=cur'[i'*n+j]?:=by rw[List.getElem?_take,if_pos hlt];simp
         rw[←h7,e7]
         have hkl:(cur.toList.take (k*n)).length=k*n:=hown.1
         by_cases hik:i'<k
         ·have hlt':=yh (n:=k) hik hjn
          rw[List.getElem?_append_left (by rw[c2] at hik;exact hik)] at hi'
          rw[List.getElem?_append_left (by omega),List.getElem?_take,if_pos hlt']
          obtain⟨u',u1,u2⟩:=q3 i' j c' pv hi' hj
          rw[hsb] at u1
          rw[c0] at u2
          exact⟨u',by simpa using u1,u2⟩
         ·rw[List.getElem?_append_right (by omega),←c2] at hi'
          have hge:k*n≤i'*n:=Nat.mul_le_mul_right _ (by omega)
          rw[List.getElem?_append_right (by omega),hkl]
          have hkk:i'*n+j - k*n=(i' - k)*n+j:=by rw[Nat.sub_mul];omega
          rw[hkk]
          exact f2 (i' - k) j c' pv hi' hj
        have k2:=Stp.adopt (dr:=dr) (hp1:=upd hp id none) hi hsub ⟨g,cur'.size,n⟩ e true (b.es++xs) cur' r3.os r3.tape r3.output r3.size rd
         (fun b'=>b'=(G id).g) (fun b' hb'=>by subst hb';exact⟨⟨id,b,hb,rfl⟩,hi.apart id b hb,hnl⟩)
         (fun b' hb' hne hbg=>r3.block b' hb' (by simpa using hbg))
         (fun id' b' h=>by
          rcases hg with h' | h'
          ·simp only[h'];exact hnl id' b' h
          ·simp only[h'];exact Nat.ne_of_lt (hi.live id' b' (kU h)).lt)
         (by
          rcases hg with h' | h'
          ·simp only[h'];exact hi.apart id b hb
          ·simp only[h'];intro hS;have:=hi.st _ hS;simp at this)
         (by
          rcases hg with h' | h'
          ·simp only[h'];exact .inl ⟨id,b,hb,rfl⟩
          ·simp only[h'];exact .inr (Nat.le_refl _))
         c3 (by simpa[zS] using h1)
         (fun c' hc'=>by
          rcases List.mem_append.1 hc' with h | h
          ·simp only[←hsb];exact hbr.len hop c' h
          ·exact f1 c' h)
         (by rw[List.length_append,←c2,e6];exact Nat.mul_le_mul_right _ e4) e3 rfl hrow
        refine⟨_,_,_,_,r1,k2,?_⟩
        have:=RepO.own (w:=w') (S:=S) (G:=upd G nx ⟨g,cur'.size,n⟩) (nx:=nx+1) (id:=nx) (off:=0) (n:=k+xs.length) (cap:=cap') (by omega) e4 e5 (by simp[e6]) (by simpa using c3)
        simpa using this
      ·cases h
     ·cases h
    ·cases h
   ·cases h
  ·cases h
 ·cases h
end
variable {dr:Prop}
section
variable {P:Program} {w:World} {S:Nat→Prop} {G:Nat→GI} {hp:Hp} {nx:Nat}
theorem Stp.allocMap (h:Inv P w S G hp nx) (t:TypeId):Stp dr P hp nx S G w (upd hp nx (some ⟨t,0,false,[]⟩)) (nx+1) S (upd G nx ⟨w.heap.size,0,0⟩) (w.alloc (.map #[] 0)):=by
 have hold:∀b,b<w.heap.size→(w.alloc (.map #[] 0)).heap[b]?=w.heap[b]?:=fun b hb=>Below.heap_alloc w _ b hb
 have hS:∀b,S b→S b∧(w.alloc (.map #[] 0)).heap[b]?=w.heap[b]?:=fun b hb=>⟨hb,hold b (h.st b hb)⟩
 have hG:∀id,id<nx→upd G nx ⟨w.heap.size,0,0⟩ id=G id:=fun id hid=>zT _ _ _ _ (by omega)
 have hpo:∀id,id≠nx→upd hp nx (some (⟨t,0,false,[]⟩:Blk)) id=hp id:=fun id hid=>zT _ _ _ _ hid
 have hsize:(w.alloc (.map #[] 0)).heap.size=w.heap.size+1:=by show (w.heap.push _).size=_;simp
 have hlv:∀id b,hp id=some b→(G id).g<w.heap.size:=fun id b hb=>(h.live id b hb).lt
 refine⟨⟨fun b hb=>by rw[hsize];have:=h.st b hb;omega,fun id b hb=>?_,fun id b hb=>?_,fun id b hb=>?_,fun id id' b b' hb hb' he=>?_,h.glo.mono hS⟩,by omega,hG,fun _ hb=>hb,fun _ hb=>.inl hb,fun id b hb=>?_,⟨rfl,rfl,rfl,by rw[hsize];omega,fun _=>Nat.le_refl _,fun k hk _=>hold k hk⟩⟩
 ·by_cases hid:id=nx
  ·omega
  ·rw[hpo id hid] at hb;have:=h.top id b hb;omega
 ·by_cases hid:id=nx
  ·subst hid
   simp only[qd] at hb ⊢
   injection hb with hb
   subst hb
   exact⟨rfl,fun h0=>absurd h0 (by simp),fun _=>⟨#[],0,heap_alloc_new w _,rfl,fun i c e hi _=>by simp at hi⟩⟩
  ·rw[hpo id hid] at hb
   have ht:=h.top id b hb
   rw[hG id ht]
   exact (h.live id b hb).mono hS (by omega) hG (hold _ (hlv id b hb))
 ·by_cases hid:id=nx
  ·subst hid
   simp only[qd]
   intro hs
   have:=h.st _ hs
   omega
  ·rw[hpo id hid] at hb
   rw[hG id (h.top id b hb)]
   exact h.apart id b hb
 ·by_cases hid:id=nx<;>by_cases hid':id'=nx
  ·omega
  ·subst hid
   rw[hpo id' hid'] at hb'
   rw[hG id' (h.top id' b' hb')] at he
   have:=hlv id' b' hb'
   simp at he
   omega
  ·subst hid'
   rw[hpo id hid] at hb
   rw[hG id (h.top id b hb)] at he
   have:=hlv id b hb
   simp at he
   omega
  ·rw[hpo id hid] at hb
   rw[hpo id' hid'] at hb'
   rw[hG id (h.top id b hb),hG id' (h.top id' b' hb')] at he
   exact h.inj id id' b b' hb hb' he
 ·by_cases hid:id=nx
  ·subst hid
   simp
  ·rw[hpo id hid] at hb
   rw[hG id (h.top id b hb)]
   exact .inl ⟨id,b,hb,rfl⟩
theorem Stp.setMap (h:Inv P w S G hp nx) {id:Nat} {b:Blk} (hid:hp id=some b) (hs0:(G id).s=0) (en:Array MapEntry) (clock:Nat) (es:List (List PV)) (hl:en.size=es.length)
  (hrow:∀(i:Nat) (c:List PV) (e:MapEntry),es[i]?=some c→en[i]?=some e→zgW w S c e) :
  Stp dr P hp nx S G w (upd hp id (some ⟨b.e,b.s,b.arr,es⟩)) nx S G { w with heap:=w.heap.setIfInBounds (G id).g (.map en clock) }:=by
 obtain⟨en0,clock0,hcur,_⟩:=((h.live id b hid).ent hs0).row
 have hset:=MapKept.heap_set (o':=Obj.map en clock) hcur
 have hother:∀k,k≠(G id).g→(w.heap.setIfInBounds (G id).g (.map en clock))[k]?=w.heap[k]?:=hset.2
 have hS:∀b,S b→S b∧(w.heap.setIfInBounds (G id).g (.map en clock))[b]?=w.heap[b]?:=fun k hk=>⟨hk,hother k fun e=>h.apart id b hid (e ▸ hk)⟩
 have hpo:∀k,k≠id→upd hp id (some (⟨b.e,b.s,b.arr,es⟩:Blk)) k=hp k:=fun k hk=>zT _ _ _ _ hk
 refine⟨⟨fun k hk=>by show k<(w.heap.setIfInBounds _ _).size;simpa using h.st k hk,fun k c hk=>?_,fun k c hk=>?_,fun k c hk=>?_,fun k k' c c' hk hk' he=>?_,h.glo.mono hS⟩,Nat.le_refl _,fun _ _=>rfl,fun _ hb=>hb,fun _ hb=>.inl hb,fun k c hk=>?_,⟨rfl,rfl,rfl,by simp,fun _=>Nat.le_refl _,fun k _ hn=>hother k fun e=>hn ⟨id,b,hid,e.symm⟩⟩⟩
 ·by_cases hki:k=id
  ·subst hki;exact h.top _ b hid
  ·rw[hpo k hki] at hk;exact h.top k c hk
 ·by_cases hki:k=id
  ·subst hki
   simp only[qd] at hk
   injection hk with hk
   subst hk
   refine⟨(h.live _ b hid).bs,fun h0=>by omega,fun _=>⟨en,clock,hset.1,hl,fun i c e hi he=>?_⟩⟩
   obtain⟨k',pv,e1,e2,e3,e4⟩:=hrow i c e hi he
   exact⟨k',pv,e1,e2,e3,e4.mono hS⟩
  ·rw[hpo k hki] at hk
   exact (h.live k c hk).mono hS (Nat.le_refl _) (fun _ _=>rfl) (hother _ fun e=>hki (h.inj k id c b hk hid e))
 ·by_cases hki:k=id
  ·subst hki;exact h.apart _ b hid
  ·rw[hpo k hki] at hk;exact h.apart k c hk
 ·have hx:∀k c,upd hp id (some (⟨b.e,b.s,b.arr,es⟩:Blk)) k=some c→∃c',hp k=some c':=by
   intro k c hk
   by_cases hki:k=id
   ·subst hki;exact⟨b,hid⟩
   ·rw[hpo k hki] at hk;exact⟨c,hk⟩
  obtain⟨c1,h1⟩:=hx k c hk
  obtain⟨c2,h2⟩:=hx k' c' hk'
  exact h.inj k k' c1 c2 h1 h2 he
 ·by_cases hki:k=id
  ·subst hki;exact .inl ⟨_,b,hid,rfl⟩
  ·rw[hpo k hki] at hk;exact .inl ⟨k,c,hk,rfl⟩
theorem zcz (hi:Inv P w S G hp nx) (t:TypeId):Done dr P w hp nx S G (.mp nx) (upd hp nx (some ⟨t,0,false,[]⟩)) (nx+1) ((Instr.makeMap t none).run P w):=by
 refine⟨.map (some w.heap.size),w.alloc (.map #[] 0),S,upd G nx ⟨w.heap.size,0,0⟩,by simp[Instr.makeMap],Stp.allocMap hi t,?_⟩
 have:=RepO.mp (w:=w.alloc (.map #[] 0)) (S:=S) (G:=upd G nx ⟨w.heap.size,0,0⟩) (nx:=nx+1) (id:=nx) (by omega) (by simp)
 simpa using this
theorem XL {t:TypeId} {kk:Option IntKind} {et:TypeId} (h:zaC P t=some (kk,et)):∃kt d,P.underlying t=some (.map kt et)∧P.underlying kt=some d∧(∀k,zaD kk k=true→MapKept.IsKey d k)∧(d=.string∨∃i,d=.int i):=by
 unfold zaC at h
 split at h
 ·rename_i kt et' hu
  split at h
  ·rename_i i hk
   injection h with h
   injection h with e1 e2
   subst e1;subst e2
   exact⟨kt,.int i,hu,hk,fun k hk=>by cases k<;>simp_all[zaD,MapKept.IsKey],.inr ⟨i,rfl⟩⟩
  ·rename_i hk
   injection h with h
   injection h with e1 e2
   subst e1;subst e2
   exact⟨kt,.string,hu,hk,fun k hk=>by cases k<;>simp_all[zaD,MapKept.IsKey],.inl rfl⟩
  ·cases h
 ·cases h
theorem J7 {d:TypeDesc} {a b:Value} {r:Bool} (hd:d=.string∨∃i,d=.int i) (ha:MapKept.IsKey d a) (h:xj a b=some r):Instr.sameNow d a b=some r:=by
 unfold xj at h
 split at h
 ·rename_i k x k' y
  rcases hd with rfl | ⟨i,rfl⟩
  ·simp[MapKept.IsKey] at ha
  ·split at h
   ·rename_i e;simpa[Instr.sameNow,e] using h
   ·cases h
 ·rename_i x y
  rcases hd with rfl | ⟨i,rfl⟩
  ·injection h with h
   simp only[Instr.sameNow,Option.some.injEq]
   rw[←h,Bool.eq_iff_iff,MapKept.bytes_beq,beq_iff_eq]
   exact⟨fun e=>by rw[e],fun e=>by
    obtain⟨x⟩:=x;obtain⟨y⟩:=y
    congr 1
    exact (by rw[ByteArray.toList_eq,ByteArray.toList_eq] at e;exact Array.toList_inj.1 e)⟩
  ·simp[MapKept.IsKey] at ha
 ·cases h
theorem Zf {d:TypeDesc} {k:Value} (hd:d=.string∨∃i,d=.int i) (hk:MapKept.IsKey d k):∀{es:List (List PV)} {en:List MapEntry} {i:Nat} {r:Option (Nat×PV)},es.length=en.length→(∀(j:Nat) (c:List PV) (e:MapEntry),es[j]?=some c→en[j]?=some e→zgW w S c e)→Yg k es i=some r →
  (r=none∧Instr.findNow d k en i=some none)∨∃j v e,r=some (i+j,v)∧Instr.findNow d k en i=some (some (i+j,e.val))∧en[j]?=some e∧RepC w S v e.val∧xj k e.key=some true∧j<es.length
 | [],[],i,r,_,_,h=>by
   simp only[Yg] at h
   injection h with h
   exact .inl ⟨h.symm,rfl⟩
 | [],e::en,_,_,hl,_,_=>by simp at hl
 | c::es,[],_,_,hl,_,_=>by simp at hl
 | c::es,e::en,i,r,hl,hr,h=>by
   obtain⟨k',v,rfl,e1,_,e3⟩:=hr 0 c e rfl rfl
   simp only[Yg] at h
   subst e1
   split at h
   ·rename_i hs
    injection h with h
    subst h
    refine .inr ⟨0,v,e,rfl,?_,rfl,e3,hs,by simp⟩
    simp[Instr.findNow,J7 hd hk hs]
   ·rename_i hs
    have hn:=J7 hd hk hs
    rcases Zf hd hk (es:=es) (en:=en) (i:=i+1) (r:=r) (by simpa using hl) (fun j c e hj he=>hr (j+1) c e (by simpa using hj) (by simpa using he)) h with⟨g1,g2⟩ | ⟨j,v',e',g1,g2,g3,g4,g5,g6⟩
    ·exact .inl ⟨g1,by simp[Instr.findNow,hn,g2]⟩
    ·refine .inr ⟨j+1,v',e',by rw[g1];congr 2;omega,?_,by simpa using g3,g4,g5,by simp;omega⟩
     simp only[Instr.findNow,hn,g2]
     congr 3
     omega
   ·cases h
theorem zcA {t:TypeId} {z:PV} (h:zaE P t=some z):∃v,(zeroValue t).run P w=.ok v w∧RepC w S z v:=by
 unfold zaE at h
 cases hi:P.info? t with
 | none=>rw[hi] at h;cases h
 | some i =>
   rw[hi] at h
   simp only[Option.bind_some] at h
   cases hz:i.zero with
   | none=>rw[hz] at h;cases h
   | some v =>
     rw[hz] at h
     exact⟨v,j6 hi hz w,J4 h⟩
theorem znG (hi:Inv P w S G hp nx) {x:PV} {u:Value} {es:List (List PV)} (h:zkk hp x=some es) (hx:RepO w S G nx x u) :
  (u=.map none∧es=[])∨∃r en clock,u=.map (some r)∧w.heap[r]?=some (.map en clock)∧en.size=es.length∧∀(i:Nat) (c:List PV) (e:MapEntry),es[i]?=some c→en[i]?=some e→zgW w S c e:=by
 unfold zkk at h
 split at h
 ·rename_i id
  obtain⟨h1,h2,rfl⟩:=hx.mp_inv
  split at h
  ·rename_i b hb
   split at h
   ·injection h with h
    subst h
    obtain⟨en,clock,g1,g2,g3⟩:=((hi.live id b hb).ent h2).row
    exact .inr ⟨_,en,clock,rfl,g1,g2,g3⟩
   ·cases h
  ·cases h
 ·injection h with h
  obtain⟨rfl,_⟩:=hx.v_inv
  exact .inl ⟨rfl,h.symm⟩
 ·cases h
theorem zeU (hi:Inv P w S G hp nx) {t:TypeId} {p q x:PV} {u v:Value} {ok:Bool} (h:xk P hp t p q ok=some x) (hp':RepO w S G nx p u) (hq:RepO w S G nx q v):Done dr P w hp nx S G x hp nx ((Instr.lookup t u v ok).run P w):=by
 unfold xk at h
 split at h
 ·rename_i kk et es k hkt hes
  obtain⟨kt,d,hu,hk,hok,hd⟩:=XL hkt
  obtain⟨rfl,_⟩:=hq.v_inv
  split at h
  ·rename_i hc
   have hkey:=hok v hc
   rcases znG hi hes hp' with⟨rfl,rfl⟩ | ⟨r,en,clock,rfl,g1,g2,g3⟩
   ·simp only[Yg] at h
    obtain⟨z,h1,h2⟩:∃z,zaE P et=some z∧(if ok=true then PV.tup [z,.v (.bool false)] else z)=x:=by
     cases hz:zaE P et with
     | none=>rw[hz] at h;cases h
     | some z=>rw[hz] at h;injection h with h;exact⟨z,rfl,h⟩
    obtain⟨zv,e1,e2⟩:=zcA (w:=w) (S:=S) h1
    have hn:Instr.findNow d v [] 0=some none:=rfl
    cases ok with
    | true =>
      simp only[if_true] at h2
      subst h2
      refine zA (v:=.tuple #[zv,.bool false]) hi ?_ (.c (.tup rfl fun j pv y a b=>?_))
      ·simp[Instr.lookup,run_underlying hu,MapKept.run_checkKey hk hkey,MapKept.run_findKey hk hn,e1,Result.andThen]
      ·match j,a,b with
       | 0,a,b=>simp at a b;subst a;subst b;exact e2
       | 1,a,b=>simp at a b;subst a;subst b;exact .v rfl
       | j+2,a,b=>simp at a
    | false =>
      simp only[Bool.false_eq_true,if_false] at h2
      subst h2
      refine zA (v:=zv) hi ?_ (.c e2)
      simp[Instr.lookup,run_underlying hu,MapKept.run_checkKey hk hkey,MapKept.run_findKey hk hn,e1,Result.andThen]
   ·split at h
    ·rename_i i pv hf
     rcases Zf hd hkey (en:=en.toList) (by simpa using g2.symm) (fun j c e hj he=>g3 j c e hj (by simpa using he)) hf with⟨e0,_⟩ | ⟨j,y,e,e1,e2,e3,e4,e5,e6⟩
     ·cases e0
     ·injection e1 with e1
      injection e1 with e1 e1'
      subst e1'
      injection h with h
      cases ok with
      | true =>
        simp only[if_true] at h
        subst h
        refine zA (v:=.tuple #[e.val,.bool true]) hi ?_ (.c (.tup rfl fun j pv y a b=>?_))
        ·simp[Instr.lookup,run_underlying hu,MapKept.run_getObj_map g1,MapKept.run_checkKey hk hkey,MapKept.run_findKey hk e2,Result.andThen]
        ·match j,a,b with
         | 0,a,b=>simp at a b;subst a;subst b;exact e4
         | 1,a,b=>simp at a b;subst a;subst b;exact .v rfl
         | j+2,a,b=>simp at a
      | false =>
        simp only[Bool.false_eq_true,if_false] at h
        subst h
        refine zA (v:=e.val) hi ?_ (.c e4)
        simp[Instr.lookup,run_underlying hu,MapKept.run_getObj_map g1,MapKept.run_checkKey hk hkey,MapKept.run_findKey hk e2,Result.andThen]
    ·rename_i hf
     obtain⟨z,h1,h2⟩:∃z,zaE P et=some z∧(if ok=true then PV.tup [z,.v (.bool false)] else z)=x:=by
      cases hz:zaE P et with
      | none=>rw[hz] at h;cases h
      | some z=>rw[hz] at h;injection h with h;exact⟨z,rfl,h⟩
     obtain⟨zv,e1,e2⟩:=zcA (w:=w) (S:=S) h1
     rcases Zf hd hkey (en:=en.toList) (by simpa using g2.symm) (fun j c e hj he=>g3 j c e hj (by simpa using he)) hf with⟨_,hn⟩ | ⟨j,y,e,e0,_⟩
     ·cases ok with
      | true =>
        simp only[if_true] at h2
        subst h2
        refine zA (v:=.tuple #[zv,.bool false]) hi ?_ (.c (.tup rfl fun j pv y a b=>?_))
        ·simp[Instr.lookup,run_underlying hu,MapKept.run_getObj_map g1,MapKept.run_checkKey hk hkey,MapKept.run_findKey hk hn,e1,Result.andThen]
        ·match j,a,b with
         | 0,a,b=>simp at a b;subst a;subst b;exact e2
         | 1,a,b=>simp at a b;subst a;subst b;exact .v rfl
         | j+2,a,b=>simp at a
      | false =>
        simp only[Bool.false_eq_true,if_false] at h2
        subst h2
        refine zA (v:=zv) hi ?_ (.c e2)
        simp[Instr.lookup,run_underlying hu,MapKept.run_getObj_map g1,MapKept.run_checkKey hk hkey,MapKept.run_findKey hk hn,e1,Result.andThen]
     ·cases e0
    ·cases h
  ·cases h
 ·cases h
theorem zir {a b:Value} (h:xj a b=some true):b=a:=by
 unfold xj at h
 split at h
 ·rename_i k x k' y
  split at h
  ·rename_i e
   subst e
   injection h with h
   rw[beq_iff_eq] at h
   rw[h]
  ·cases h
 ·rename_i x y
  injection h with h
  rw[beq_iff_eq] at h
  obtain⟨x⟩:=x;obtain⟨y⟩:=y
  congr 2
  (rw[ByteArray.toList_eq,ByteArray.toList_eq] at h;exact Array.toList_inj.1 h.symm)
 ·cases h
theorem J8 (hi:Inv P w S G hp nx) {t:TypeId} {p q y:PV} {hp':Hp} {u v z:Value} (h:xl P hp t p q y=some hp') (hu:RepO w S G nx p u) (hq:RepO w S G nx q v) (hy:RepO w S G nx y z) :
  ∃w' S' G',(Instr.mapUpdate t u v z).run P w=.ok () w'∧Stp dr P hp nx S G w hp' nx S' G' w':=by
 unfold xl at h
 split at h
 ·rename_i kk et id k hkt
  obtain⟨kt,d,hut,hk,hok,hd⟩:=XL hkt
  obtain⟨rfl,hlit⟩:=hq.v_inv
  obtain⟨m1,m2,rfl⟩:=hu.mp_inv
  split at h
  ·rename_i hc
   have hkey:=hok v hc
   split at h
   ·rename_i y1 hp1 hf
    obtain⟨S1,k1,hr,_,_⟩:=wH hi hf hy
    split at h
    ·rename_i b hb
     split at h
     ·obtain⟨en,clock,g1,g2,g3⟩:=((k1.inv.live id b hb).ent m2).row
      split at h
      ·rename_i i pv hfe
       injection h with h
       subst h
       rcases Zf hd hkey (en:=en.toList) (by simpa using g2.symm) (fun j c e hj he=>g3 j c e hj (by simpa using he)) hfe with⟨e0,_⟩ | ⟨j,x,e,e1,e2,e3,e4,e5,e6⟩
       ·cases e0
       ·injection e1 with e1
        injection e1 with e1 e1'
        have hij:i=j:=by omega
        subst hij
        have hej:en[i]?=some e:=by simpa using e3
        have hek:e.key=v:=zir e5
        have k2:=Stp.setMap (dr:=dr) k1.inv hb m2 (en.modify i fun e=>{ e with key:=v,val:=z }) clock (b.es.set i [.v v,y1]) (by simpa using g2) (fun i' c e' hi' he'=>by
         rw[Array.getElem?_modify] at he'
         by_cases hii:i=i'
         ·subst hii
          rw[if_pos rfl,hej] at he'
          rw[List.getElem?_set_self e6] at hi'
          injection hi' with hi'
          simp only[Option.map_some,Option.some.injEq] at he'
          subst he';subst hi'
          exact⟨v,y1,rfl,rfl,hlit,hr⟩
         ·rw[if_neg hii] at he'
          rw[List.getElem?_set_ne hii] at hi'
          exact g3 i' c e' hi' he')
        refine⟨_,S1,G,?_,k1.trans k2⟩
        simp[Instr.mapUpdate,run_underlying hut,MapKept.run_getObj_map g1,MapKept.run_checkKey hk hkey,MapKept.run_findKey hk e2,hej,hek,MapKept.run_keyThatStays hkey,MapKept.run_setObj_map _ g1,Result.andThen]
      ·rename_i hfe
       injection h with h
       subst h
       rcases Zf hd hkey (en:=en.toList) (by simpa using g2.symm) (fun j c e hj he=>g3 j c e hj (by simpa using he)) hfe with⟨_,hn⟩ | ⟨j,x,e,e0,_⟩
       ·have k2:=Stp.setMap (dr:=dr) k1.inv hb m2 (en.push { key:=v,val:=z,born:=clock }) (clock+1) (b.es++[[.v v,y1]]) (by simp[g2]) (fun i' c e' hi' he'=>by
         rw[Array.getElem?_push] at he'
         split at he'
         ·rename_i hil
          injection he' with he'
          subst he'
          rw[List.getElem?_append_right (by omega)] at hi'
          have:i' - b.es.length=0:=by omega
          rw[this] at hi'
          simp at hi'
          exact⟨v,y1,hi'.symm,rfl,hlit,hr⟩
         ·rename_i hil
          have hlt:i'<en.size:=(Array.getElem?_eq_some_iff.1 he').1
          rw[List.getElem?_append_left (by omega)] at hi'
          exact g3 i' c e' hi' he')
        refine⟨_,S1,G,?_,k1.trans k2⟩
        simp[Instr.mapUpdate,run_underlying hut,MapKept.run_getObj_map g1,MapKept.run_checkKey hk hkey,MapKept.run_findKey hk hn,MapKept.run_setObj_map _ g1,Result.andThen]
       ·cases e0
      ·cases h
     ·cases h
    ·cases h
   ·cases h
  ·cases h
 ·cases h
end
end Go.AM
