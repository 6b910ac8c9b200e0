/- Lemmas. -/
import Derived.Maps.AppendAt
import Derived.Lib.AppendStr
import Derived.MapKept
import Derived.Test.YtnbicamkimignaaGreatDoorG3
set_option maxRecDepth 8000
open Go Proofs Proofs.YtnbicamkimignaaGreatDoor Proofs.Tryz RowKit AM SpanLaw Q Zz
namespace Go.AM
variable{dr:Prop}
section
variable{P:Program}{w:World}{S:Nat→Prop}{G:Nat→GI}{Y:Hp}{Z:Nat}
theorem e8{o:Option (Option O)}{v:Option Value}{a n y:Nat}(code:BoundsCode)(h:vq a o=some n)(d:n≤y)(hd:o=none→v=none)(hs:∀p,o=some (some p)→∃u,v=some u∧qK w S G Z p u)(e:o≠some none) :
  (v=none∧n=a)∨∃k i,v=some (.int k i)∧(Instr.sliceBound (.int k i) y code).run P w=.ok n w:=by
 unfold vq at h;split at h
 ·injection h with h;exact .inl ⟨hd rfl,h.symm⟩
 ·rename_i k i;split at h
  ·rename_i b;injection h with h
   subst h;obtain⟨u,rfl,c⟩:=hs _ rfl;obtain⟨rfl,_⟩:=c.yH;refine .inr ⟨k,i,rfl,?_⟩;have:i≤y:=by omega
   simp[Instr.sliceBound,asIntOf,b,this]
  ·cases h
 ·cases h
theorem K3{isS:Bool}{len cap l h:Nat}{lo b:Option (Option O)}{c d:Option Value}(f:vq 0 lo=some l)(n:vq len b=some h)(a:l≤h)(e:h≤cap)
  (g:lo=none→c=none) (j:∀p,lo=some (some p)→∃u,c=some u∧qK w S G Z p u) (n1:lo≠some none)
  (o:b=none→d=none) (q:∀p,b=some (some p)→∃u,d=some u∧qK w S G Z p u) (r:b≠some none) :
  (Instr.sliceBounds isS len cap c d none).run P w=.ok (l,h,cap) w:=by
 rcases e8 (P:=P) (if isS then .sliceAcap else .sliceAlen) n e o q r with⟨rfl,rfl⟩|⟨k,i,rfl,t⟩
 ·rcases e8 (P:=P) .sliceB f a g j n1 with⟨rfl,rfl⟩|⟨s,i',rfl,m⟩
  ·simp[Instr.sliceBounds]
  ·simp[Instr.sliceBounds,m]
 ·rcases e8 (P:=P) .sliceB f a g j n1 with⟨rfl,rfl⟩|⟨s,i',rfl,m⟩
  ·cases isS<;>simp_all[Instr.sliceBounds]
  ·cases isS<;>simp_all[Instr.sliceBounds]
theorem FO(a:Inv P w S G Y Z){t:TypeId}{p x:O}{lo T:Option (Option O)}{U W:Option Value}{u:Value}(h:js P Y t p lo T=some x)(Y':qK w S G Z p u)
  (L:lo=none→U=none) (M:∀p,lo=some (some p)→∃u,U=some u∧qK w S G Z p u)
  (N:T=none→W=none) (Q:∀p,T=some (some p)→∃u,W=some u∧qK w S G Z p u):QT dr P w Y Z S G x Y Z ((Instr.sliceAt t u U W none).run P w):=by
 have C:∀{d n:Nat} {o:Option (Option O)},vq d o=some n→o≠some none:=by rintro d n o h rfl;simp[vq]at h
 unfold js at h;split at h
 ·rename_i s z;obtain⟨rfl,_⟩:=Y'.yH;split at h
  ·rename_i l q r y;split at h
   ·rename_i k;injection h with h
    subst h;have B:=K3 (P:=P) (isS:=false) (cap:=s.size) r y k.1 k.2 L M (C r) N Q (C y);exact qR (v:=.string (s.extract l q)) a (by simp[Instr.sliceAt,zP z,Instr.slice,B]) (Zh _ rfl)
   ·cases h
  ·cases h
 ·rename_i e s es z;split at h
  ·rename_i n l q f r y;split at h
   ·rename_i k;obtain⟨rfl,k⟩:=k;injection h with h
    subst h;cases Y'.af with
    |sl us h0 h1 h2 h3 h4 h5=>
     rename_i A cap;have B:=K3 (P:=P) (isS:=true) (cap:=cap) r y k.1 (by omega) L M (C r) N Q (C y);have E:((es.drop l).take (q-l)).length=q-l:=by simp;omega
     have D:∀(i:Nat) (c:zc),((es.drop l).take (q-l))[i]?=some c→i<q-l∧es[l+i]?=some c:=by
      intro i c a;rw[qG]at a;split at a
      ·rw[wF]at a;exact⟨by assumption,a⟩
      ·cases a
     have F:wT w S (.sl s ((es.drop l).take (q-l))) (.slice (if cap=l then A else A.map (·.add (l*s))) ((es.drop l).take (q-l)).length (cap-l)):=by
      refine .sl (fun i j=>us (l+i) j) (fun X=>by have:A=none:=(by split at X<;>simp_all);have:=h0 this;omega) (by omega) (by omega) (fun c k=>h3 c (Tf _ _ (lv _ _ k))) (fun i j c pv a hj=>?_) (fun i j c pv a hj=>h5 _ j c pv (D i c a).2 hj);obtain⟨hil,hi'⟩:=D i c a;obtain⟨ad,rfl,R,g2,g3⟩:=h4 (l+i) j c pv hi' hj;rw[zj (by omega)];refine⟨ad.add (l*s),rfl,by rw[Q1];exact R,?_,g3⟩;rw[cR];have:l*s+(i*s+j)=(l+i)*s+j:=by rw[yL];omega
      rw[this];exact g2
     rw[E]at F;exact qR (v:=_) a (by simp[Instr.sliceAt,zP z,Instr.slice,B,yT f]) (.c F)
   ·cases h
  ·cases h
 ·rename_i e z;have:=Y'.xc;subst this;split at h
  ·rename_i n l q f r y;split at h
   ·rename_i k;obtain⟨rfl,rfl⟩:=k;injection h with h
    subst h;have B:=K3 (P:=P) (isS:=true) (len:=0) (cap:=0) r y (ze _) (ze _) L M (C r) N Q (C y);exact qR (v:=.slice none 0 0) a (by simp[Instr.sliceAt,zP z,Instr.slice,B,yT f]) (.c .nil)
   ·cases h
  ·cases h
 ·rename_i e id off n z;have H:=Y'.Zb;obtain⟨cap,R,g2,g3,g4,rfl⟩:=Y'.xd;split at h
  ·rename_i m l q f r y;split at h;rename_i b hbl;split at h
   ·rename_i k;obtain⟨hbm,k⟩:=k;injection h with h
    have B:=K3 (P:=P) (isS:=true) (cap:=cap) r y k.1 (by omega) L M (C r) N Q (C y);by_cases I:l=0
    ·subst I;simp only[wi]at h;subst h;refine qR (v:=.slice (some ⟨(G id).g,off*(G id).s,none⟩) q cap) a ?_ (.own R (by omega) g3 g4 H);by_cases J:cap=0
     ·subst J;simp[Instr.sliceAt,zP z,Instr.slice,B,yT f]
     ·simp[Instr.sliceAt,zP z,Instr.slice,B,yT f,J,jH]
    ·rw[zj I]at h;by_cases K:q=l
     ·subst K;simp only[wi]at h;subst h;refine qR (v:=_) a (by simp[Instr.sliceAt,zP z,Instr.slice,B,yT f];rfl) (.c ?_);exact .sl (es:=[]) (fun _ _=>undef) (fun X=>by split at X<;>simp_all) (by simp) (by omega) (by simp) (by simp) (by simp)
     ·rw[zj K]at h;subst h;have hcl:¬cap=l:=by omega
      refine qR (v:=.slice (some ⟨(G id).g,(off+l)*(G id).s,none⟩) (q-l) (cap-l)) a ?_ (.own R (by omega) (by omega) ?_ H)
      ·have hgs:(G id).s=m:=by rw[←(a.live id b hbl).bs,hbm]
       simp[Instr.sliceAt,zP z,Instr.slice,B,yT f,hcl,jH,hgs,yL]
      ·rw[show off+l+(cap-l)=off+cap from by omega];exact g4
   ·cases h
   ·cases h
  ·cases h
 ·cases h
theorem pI(g:Inv P w S G Y Z){f:Fn}{xs ys:zc}{us ts:Array Value}(d:Zip (qK w S G Z) xs us.toList)(e:Zip (qK w S G Z) ys ts.toList) :
  QT dr P w Y Z S G (.fn f xs ys) Y Z ((Instr.makeFunc f us ts).run P w):=
 qR (v:=.func f us ts) g rfl (.fn (by simpa using d.1) (by simpa using e.1) (fun j c x a b=>d.2 j c x a (by simpa using b)) (fun j c x a b=>e.2 j c x a (by simpa using b)))
theorem B4{z:Array Value}{n s i j:Nat}(hs:z.size=s)(c:i<n)(b:j<s):(madeCells z (n*s))[i*s+j]?=z[j]?:=by
 have a:i*s+j<n*s:=Qu c b;unfold madeCells;rw[Array.getElem?_map,Array.getElem?_range,zf a];have d:(i*s+j) % s=j:=by rw[eL,Nat.add_mul_mod_self_right];exact Nat.mod_eq_of_lt b
 simp only[zH,hs,d];rw[V3 (by omega)];simp only[qw];exact(getElem!_pos z j (by omega))
theorem l8(L:Inv P w S G Y Z){t:TypeId}{p q x:O}{Y':Hp}{F:Nat}{u v:Value}(h:YN P Y Z t p q=some (x,Y',F))(M:qK w S G Z p u)(N:qK w S G Z q v) :
  QT dr P w Y Z S G x Y' F ((Instr.makeSlice t u v).run P w):=by
 unfold YN at h;split at h
 ·rename_i Q l R c;obtain⟨rfl,_⟩:=M.yH;obtain⟨rfl,_⟩:=N.yH;split at h
  ·rename_i e T;split at h
   ·rename_i n g z H U W;split at h
    ·rename_i X;obtain⟨I,r,c3,c4,J,c6⟩:=X;injection h with h
     injection h with ex h;injection h with eh en;subst ex;subst eh;subst en;obtain⟨i,d,s,i2,i3⟩:=Ym W;obtain⟨z1,z2⟩:=ku (w:=w) (S:=S) i3;have f:i.size=n:=by simpa[q8,s]using H
     have y:i.bytes=g:=by simpa[kr,s]using U
     have A:d.cells.size=n:=by rw[←r,z1];simp
     have hm:c.toNat≤9223372036854775807:=by simpa[maxLen]using J
     have b:(i.bytes:Int)*c≤281474976710656:=by
      have:((c.toNat*g:Nat):Int)≤140737488355328:=by omega
      rw[Int.natCast_mul,Int.toNat_of_nonneg (by omega)]at this;rw[y,Int.mul_comm];omega
     have hr:=run_make (P:=P) w t e i d (xJ T) s i2 Q R l c c3 c4 b (by omega);have m:l.toNat≤c.toNat:=by omega
     have k:=kJ.alloc (dr:=dr) L (madeCells d.cells (c.toNat*i.size)) e true (List.replicate l.toNat z) n I (by simpa[q8]using H) (fun c' B=>by rw[(List.mem_replicate.1 B).2];exact r)
      (by rw[size_madeCells,f,List.length_replicate];exact qB _ m) (fun i' j c' pv a K=>by
       have C:i'<l.toNat:=by have:=(zq.1 a).1;simpa using this
       rw[Tg,zf C]at a;injection a with a
       subst a;have D:j<n:=by rw[←r];exact(zq.1 K).1
       have o:j<d.cells.size:=by omega
       rw[f,B4 A (by omega) D];have E:=z2 j pv d.cells[j] K (by simp[o]);exact⟨d.cells[j],by simp[o],fun _=>E.1,.c E.1,E.2.1⟩)
     refine⟨_,_,_,_,hr,k,?_⟩;have:=qK.own (w:=w.alloc (.cells (madeCells d.cells (c.toNat*i.size)) e)) (S:=S) (G:=qZ G Z ⟨w.heap.size,(madeCells d.cells (c.toNat*i.size)).size,n⟩) (Z:=Z+1) (id:=Z) (off:=0) (n:=l.toNat) (cap:=c.toNat) (by omega) m J (by simp[size_madeCells,f]) (by simpa using I);simpa using this
    ·cases h
   ·cases h
  ·cases h
 ·cases h
end
variable{dr:Prop}
section
variable{P:Program}{w:World}{S:Nat→Prop}{G:Nat→GI}{Y:Hp}{Z:Nat}
theorem kJ.Tm{Y1:Hp}{r:World}(n:Inv P w S G Y Z)(a:∀id b,Y1 id=some b→Y id=some b)(f:GI)(e:TypeId)(B:Bool)(es:List zc)(t:Array Value)
  (os:r.os=w.os) (F:r.tape=w.tape) (v:r.output=w.output) (y:w.heap.size≤r.heap.size) (C:w.drawn≤r.drawn)
  (D:Nat→Prop) (Q:∀b,D b→kN Y G b∧¬S b∧∀id x,Y1 id=some x→(G id).g≠b)
  (m:∀b,b<w.heap.size→b≠f.g→¬D b→r.heap[b]?=w.heap[b]?) (E:∀id b,Y1 id=some b→(G id).g≠f.g) (H:¬S f.g) (I:kN Y G f.g∨w.heap.size≤f.g)
  (R:0<f.s) (T:(P.info? e).map (·.size)=some f.s) (J:∀c∈es,c.length=f.s) (K:es.length*f.s≤f.z) (L:r.heap[f.g]?=some (.cells t e (0,0))) (U:t.size=f.z)
  (M:∀(i j:Nat) (c:zc) (N:O),es[i]?=some c→c[j]?=some N→∃u,t[i*f.s+j]?=some u∧kq w S G Z B N u) :
  kJ dr P Y Z S G w (qZ Y1 Z (some ⟨e,f.s,B,es⟩)) (Z+1) S (qZ G Z f) r:=by
 have W:∀b,S b→S b∧r.heap[b]?=w.heap[b]?:=fun b d=>⟨d,m b (n.st b d) (fun e=>H (e ▸ d)) fun h=>(Q b h).2.1 d⟩
 have q:∀id,id<Z→qZ G Z f id=G id:=fun id hid=>qY _ _ _ _ (by omega)
 have l:∀id,id≠Z→qZ Y1 Z (some ⟨e,f.s,B,es⟩) id=Y1 id:=fun id hid=>qY _ _ _ _ hid
 refine⟨⟨fun b d=>zlO (n.st b d) y,fun id b d=>?_,fun id b d=>?_,fun id b d=>?_,fun id id' b x d o A=>?_,n.eR.mono W⟩,by omega,q,fun _ d=>d,fun _ d=>.inl d,fun id b d=>?_,⟨os,F,v,y,fun _=>C,fun k hk hn=>m k hk (fun e=>?_) fun h=>hn (Q k h).1⟩⟩
 ·by_cases hid:id=Z
  ·omega
  ·rw[l id hid]at d;have:=n.top id b (a id b d);omega
 ·by_cases hid:id=Z
  ·subst hid;simp only[w9]at d⊢;injection d with d
   subst d;refine .xb R rfl ⟨T,J,K,t,L,U,fun i j c N X hj=>?_⟩;obtain⟨u,h1,h2⟩:=M i j c N X hj;exact⟨u,h1,h2.mono W (by omega) q⟩
  ·rw[l id hid]at d;have ht:=n.top id b (a id b d);rw[q id ht];have hl:=n.live id b (a id b d);exact hl.mono W (by omega) q (m _ hl.lt (E id b d) fun h=>(Q _ h).2.2 id b d rfl)
 ·by_cases hid:id=Z
  ·subst hid;simpa using H
  ·rw[l id hid]at d;rw[q id (n.top id b (a id b d))];exact n.apart id b (a id b d)
 ·by_cases hid:id=Z<;>by_cases p:id'=Z
  ·omega
  ·subst hid;rw[l id' p]at o;rw[q id' (n.top id' x (a id' x o))]at A;simp only[w9]at A;exact(E id' x o A.symm).elim
  ·subst p;rw[l id hid]at d;rw[q id (n.top id b (a id b d))]at A;simp only[w9]at A;exact(E id b d A).elim
  ·rw[l id hid]at d;rw[l id' p]at o;rw[q id (n.top id b (a id b d)),q id' (n.top id' x (a id' x o))]at A;exact n.inj id id' b x (a id b d) (a id' x o) A
 ·by_cases hid:id=Z
  ·subst hid;simpa using I
  ·rw[l id hid]at d;rw[q id (n.top id b (a id b d))];exact .inl ⟨id,b,a id b d,rfl⟩
 ·subst e;rcases I with h|h
  ·exact hn h
  ·omega
theorem l9(Q:Inv P w S G Y Z){n:Nat}{x:O}{xs:List zc}{u:Value}(h:view Y n x=some xs)(t:qK w S G Z x u) :
  ∃(A:Option Addr) (c:Nat) (f:Nat→Value),u=.slice A xs.length c∧(∀m∈xs,m.length=n) ∧
   ∀(i j:Nat) (m:zc) (d:O),xs[i]?=some m→m[j]?=some d→∃l,A=some l∧w.cell? (l.add (i*n+j))=some (f (i*n+j))∧kq w S G Z true d (f (i*n+j)):=by
 have R:∀(A:Option Addr) (xs:List zc) (c:Nat),wT w S (.sl n xs) (.slice A xs.length c)→(∃us:Nat→Nat→Value,(∀m∈xs,m.length=n) ∧
   (∀(i j:Nat) (c:zc) (d:O),xs[i]?=some c→c[j]?=some d→∃l,A=some l∧w.cell? (l.add (i*n+j))=some (us i j)∧(us i j).oneCell'=true∧wT w S d (us i j))):=by
  intro A xs c h;cases h with
  |sl us T I J y K F=>refine⟨us,y,fun i j c d a b=>?_⟩;obtain⟨l,e,_,p,r⟩:=K i j c d a b;exact⟨l,e,p,r,F i j c d a b⟩
 have z:∀(A:Option Addr) (c:Nat) (us:Nat→Nat→Value),(∀m∈xs,m.length=n) →
   (∀(i j:Nat) (c:zc) (d:O),xs[i]?=some c→c[j]?=some d→∃l,A=some l∧w.cell? (l.add (i*n+j))=some (us i j)∧kq w S G Z true d (us i j))→u=.slice A xs.length c →
   ∃(A:Option Addr) (c:Nat) (f:Nat→Value),u=.slice A xs.length c∧(∀m∈xs,m.length=n) ∧
    ∀(i j:Nat) (m:zc) (d:O),xs[i]?=some m→m[j]?=some d→∃l,A=some l∧w.cell? (l.add (i*n+j))=some (f (i*n+j))∧kq w S G Z true d (f (i*n+j)):=by
  intro A c us I J y;refine⟨A,c,fun k=>match A with|some l=>(w.cell? (l.add k)).getD undef|none=>undef,y,I,fun i j m d o L=>?_⟩;obtain⟨l,rfl,p,r⟩:=J i j m d o L;exact⟨l,rfl,by simp[p],by simpa[p]using r⟩
 unfold view at h;split at h
 ·injection h with h;subst h;have:=t.xc;subst this;exact⟨none,0,fun _=>undef,rfl,by simp,by simp⟩
 ·injection h with h;subst h;obtain⟨l,cap,rfl,_⟩:=t.pw;exact⟨some l,cap,fun _=>undef,rfl,by simp,by simp⟩
 ·rename_i s es;split at h
  ·rename_i hs;subst hs;injection h with h
   subst h;have M:=t.af;cases M with
   |sl us T I J y K F=>refine z _ _ us y (fun i j c d a b=>?_) rfl;obtain⟨l,e,_,p,r⟩:=K i j c d a b;exact⟨l,e,p,fun _=>F i j c d a b,.c (F i j c d a b),r⟩
  ·cases h
 ·rename_i id off k;split at h
  ·rename_i b U;split at h
   ·rename_i M;injection h with h
    obtain⟨W,X,c3⟩:=M;have B:=t.Zb;obtain⟨cap,p,r,g3,g4,rfl⟩:=t.xd;have q:=Q.live id b U;obtain⟨C,r1,r2,r3⟩:=q.row B;have hs:(G id).s=n:=by rw[←q.bs,X]
    have hl:xs.length=k:=by rw[←h];simp;omega
    have D:∀(i:Nat) (c:zc),xs[i]?=some c→b.es[off+i]?=some c:=by
     intro i c o;rw[←h,qG]at o;split at o
     ·rwa [wF]at o
     ·cases o
    refine z (some ⟨(G id).g,off*(G id).s,none⟩) cap (fun i j=>(C[(off+i)*n+j]?).getD undef) (fun m E=>?_) (fun i j c d o L=>?_) (by rw[hl])
    ·rw[←h]at E;rw[←hs];exact q.len B m (Tf _ _ (lv _ _ E))
    ·obtain⟨v,H,N⟩:=r3 (off+i) j c d (D i c o) L;refine⟨_,rfl,?_,?_⟩
     ·rw[jH,cell_of_row w _ _ C _ _ r1,hs];rw[hs]at H;rw[show off*n+(i*n+j)=(off+i)*n+j from by rw[yL];omega,H];rfl
     ·rw[hs]at H;simp only[H,WS];rw[W]at N;exact N
   ·cases h
  ·cases h
 ·cases h
theorem OA{n k m:Nat}(a:0<n)(b:k<m*n):k/n<m∧k % n<n∧k/n*n+k % n=k:=by refine⟨(Nat.div_lt_iff_lt_mul a).2 b,Nat.mod_lt _ a,?_⟩;rw[zb8];exact Nat.div_add_mod k n
theorem se{n:Nat}{xs:List zc}{A:Option Addr}{f:Nat→Value}(m:0<n)(o:∀b∈xs,b.length=n)
  (h:∀(i j:Nat) (b:zc) (c:O),xs[i]?=some b→b[j]?=some c→∃a,A=some a∧w.cell? (a.add (i*n+j))=some (f (i*n+j))∧kq w S G Z true c (f (i*n+j))) :
  ∀k,k<xs.length*n→∃a,A=some a∧w.cell? (a.add k)=some (f k)∧(f k).oneCell'=true:=by
 intro k p;obtain⟨d,t,q⟩:=OA m p;have r:xs[k/n]?=some xs[k/n]:=zu d;have s:xs[k/n].length=n:=o _ (zm d);obtain⟨a,e,g,l⟩:=h (k/n) (k % n) _ (xs[k/n][k % n]'(by omega)) r (zu (by omega));rw[q]at g l;exact⟨a,e,g,l.2.2⟩
theorem uu(t ty e:TypeId)(i:TypeInfo)(z:Value)(x:P.underlying t=some (.slice e))(y:P.info? e=some i)(E:i.zero=some z)(G:0<i.size)
  (v:Value) (n:Nat) (xs:List Value) (h:w.ownsRow 0 e i.size v n xs) (a:Addr) (m c:Nat) (b:List Value) (p:b.length=m*i.size) (d:∀j u,b[j]?=some u→w.cell? (a.add j)=some u) (H:∀u∈b,u.oneCell'=true)
  (B:n+m≤maxLen) (f:(n+m)*i.bytes≤140737488355328) {I:Value} {F:World} (r:(Builtin.append_ #[t,t] ty #[v,.slice (some a) m c]).run P w=.ok I F):w.drawn≤F.drawn:=by
 have A:n+m≤9223372036854775807:=by simp only[maxLen]at B;omega
 rcases h.2 with⟨rfl,rfl⟩|⟨g,cap,q,rfl,J,K,L,M,C,D⟩
 ·by_cases N:m=0
  ·subst N;have Q:b=[]:=Yg (by simpa using p);subst Q;have l:(Builtin.append_ #[t,t] ty #[.slice none 0 0,.slice (some a) 0 c]).run P w=.ok (.slice none 0 0) w:=by simp[Builtin.append_,zP x,sizeOf,typeInfo,y,Builtin.lenOf,Builtin.firstCells,loadCells,loadCellsFrom]
   rw[l]at r;injection r with _ r
   rw[←r];exact ze _
  ·have l:=run_append_nil (P:=P) w t ty e i z x y E a m c b p d (by omega) (by omega) (by have R:=f;simp only[wD]at R;omega);rw[l]at r;injection r with _ r
   rw[←r];exact ja _
 ·by_cases k:n+m≤cap
  ·have s:n*i.size+b.length≤q.size:=by rw[p,C,←yL];exact qB _ k
   have l:=run_append_room (P:=P) w t ty e i x y g n cap q K a m c b p d H k s;rw[l]at r;injection r with _ r
   rw[←r];exact ze _
  ·have o:∀j u,xs[j]?=some u→w.cell? ((⟨g,0,none⟩:Addr).add j)=some u:=h.cells (g:=g) rfl;have l:=run_append_grow (P:=P) w t ty e i z x y E ⟨g,0,none⟩ n cap xs h.1 o a m c b p d (by omega) (by omega) (growslice_fits (by omega) f);rw[l]at r;injection r with _ r
   rw[←r];exact ja _
def FQ(P:Program)(w:World)(t t' ty e:TypeId)(n d m:Nat)(x:Value)(a:List Value):Prop:=
 ∀(base:Nat) (v:Value) (k:Nat) (olds:List Value),w.ownsRow base e n v k olds→base≤w.heap.size→k+m≤maxLen→(k+m)*d≤140737488355328 →
  ∃b c,(Builtin.append_ #[t,t'] ty #[v,x]).run P w=.ok b c∧c.ownsRow base e n b (k+m) (olds++a)∧w.grownBy c v.ownBlock∧(b.ownBlock=v.ownBlock∨b.ownBlock=some w.heap.size)∧w.drawn≤c.drawn∧(m=0→b=v∧c=w)
theorem LA{t ty e:TypeId}{n b:Nat}{i:TypeInfo}{y:Value}(o:P.underlying t=some (.slice e))(z:P.info? e=some i)(F:i.zero=some y)(d:i.size=n)(q:i.bytes=b)(C:y.cells.size=n)(G:0<n)
  {A:Option Addr} {m c:Nat} {f:Nat→Value} (D:∀k,k<m*n→∃p,A=some p∧w.cell? (p.add k)=some (f k)∧(f k).oneCell'=true):FQ P w t t ty e n b m (.slice A m c) ((List.range (m*n)).map f):=by
 intro base v k olds a l r H;by_cases I:m=0
 ·subst I;refine⟨v,w,?_,by simpa using a,World.grownBy.refl w _,.inl rfl,ze _,fun _=>⟨rfl,rfl⟩⟩;rcases a.2 with⟨rfl,_⟩|⟨g,cap,s,rfl,_,_,M,_⟩
  ·cases A<;>simp[Builtin.append_,zP o,sizeOf,typeInfo,z,Builtin.lenOf,Builtin.firstCells,loadCells,loadCellsFrom]
  ·cases A<;>simp[Builtin.append_,zP o,sizeOf,typeInfo,z,Builtin.lenOf,Builtin.firstCells,loadCells,loadCellsFrom,M,storeCells]
 ·obtain⟨p,rfl,_,_⟩:=D 0 (Nat.mul_pos (by omega) G);have J:∀j u,((List.range (m*n)).map f)[j]?=some u→w.cell? (p.add j)=some u:=fun j u B=>by
   have x:j<m*n:=by have:=(zq.1 B).1;simpa using this
   obtain⟨N,E,Q,_⟩:=D j x;injection E with E;subst E;rw[wy,V9 x]at B;simp at B;rw[Q,B]
  have K:∀u∈(List.range (m*n)).map f,u.oneCell'=true:=fun u o=>by obtain⟨k,R,rfl⟩:=qX.1 o;exact(D k (ZV.1 R)).choose_spec.2.2
  obtain⟨S,T,L,U,W,r4,X⟩:=run_append_own_at (P:=P) w base t ty e i y n b o z F d q C G v k olds a p m c ((List.range (m*n)).map f) (by simp) J K r H l;refine⟨S,T,L,U,W,X,?_,fun h=>(I h).elim⟩;exact uu t ty e i y o z F (by omega) v k olds (by rw[d];exact⟨a.1,a.2.imp (fun h=>h) fun⟨g,cap,s,q1,_,q2⟩=>⟨g,cap,s,q1,kD _,q2⟩⟩) p m c ((List.range (m*n)).map f) (by simp[d]) J K r (by rw[q];exact H) L
theorem Ug{t u ty e:TypeId}{i:TypeInfo}(q:P.underlying t=some (.slice e))(hs:P.underlying u=some .string)(r:P.info? e=some i)(z:i.zero=some (.int .u8 0))(b:i.size=1)(d:i.bytes=1)(s:ByteArray) :
  FQ P w t u ty e 1 1 s.size (.string s) (Lib.strCells s):=by
 intro base v k olds a f x D;rw[Nat.mul_one]at D;have F:olds.length=k:=by simpa using a.1
 have y:k+s.size≤9223372036854775807:=by simp only[maxLen]at x;omega
 obtain⟨G,H,c,I,J,S⟩:=Lib.run_append_own_string (P:=P) w base t u ty e i q hs r z b d v k olds a s x D f;refine⟨G,H,c,I,J,?_⟩;by_cases j:s.size=0
 ·have l:(Builtin.append_ #[t,u] ty #[v,.string s]).run P w=.ok v w:=by
   have K:Lib.strCells s=[]:=Yg (by rw[Lib.strCells_length];exact j);have A:=Lib.run_firstCells_string (P:=P) w 1 s;rw[j,K]at A;rcases a.2 with⟨rfl,_⟩|⟨g,cap,m,rfl,_,_,L,_⟩
   ·simp[Builtin.append_,zP q,zP hs,sizeOf,typeInfo,r,b,Builtin.lenOf,j,A]
   ·simp[Builtin.append_,zP q,zP hs,sizeOf,typeInfo,r,b,Builtin.lenOf,j,A,L,storeCells]
  rw[l]at c;injection c with n o
  subst n;subst o;exact⟨.inl rfl,ze _,fun _=>⟨rfl,rfl⟩⟩
 ·rcases a.2 with⟨rfl,rfl⟩|⟨g,cap,m,rfl,M,N,Q,R,B,C⟩
  ·have l:=run_append_nil_string (P:=P) w t u ty e i (.int .u8 0) q hs r z s (by omega) (by omega) (by rw[d];omega);rw[l]at c;injection c with n o
   subst n;subst o;exact⟨.inr rfl,ja _,fun h=>(j h).elim⟩
  ·have E:m.size=cap:=by simpa using B
   by_cases p:k+s.size≤cap
   ·have l:=Lib.run_append_room_string (P:=P) w t u ty e i q hs r b g k cap m N s p (by omega);rw[l]at c;injection c with n o
    subst n;subst o;exact⟨.inl rfl,ze _,fun h=>(j h).elim⟩
   ·have l:=Lib.run_append_grow_string (P:=P) w t u ty e i (.int .u8 0) q hs r z ⟨g,0,none⟩ k cap olds (by rw[b];omega) (a.cells (g:=g) rfl) s (by omega) (by omega) (growslice_fits (by omega) (by rw[d];omega));rw[l]at c;injection c with n o
    subst n;subst o;exact⟨.inr rfl,ja _,fun h=>(j h).elim⟩
theorem LB{e:TypeId}(h:Ie P e=true):∃i,P.info? e=some i∧i.zero=some (.int .u8 0)∧i.size=1∧i.bytes=1:=by
 unfold Ie at h;split at h
 ·rename_i i a;split at h
  ·rename_i z b;simp only[zF,eO]at h;obtain⟨⟨rfl,c⟩,d⟩:=h;exact⟨i,a,b,c,d⟩
  ·cases h
 ·cases h
theorem OB{u:TypeId}(h:Uf P u=true):P.underlying u=some .string:=by
 unfold Uf at h;split at h
 ·assumption
 ·cases h
theorem B5(C:Inv P w S G Y Z){t t' ty:TypeId}{s x y:O}{Y':Hp}{Z':Nat}{u v:Value}(h:wU P Y Z t t' s x=some (y,Y',Z'))(hs:qK w S G Z s u)(hx:qK w S G Z x v) :
  QT dr P w Y Z S G y Y' Z' ((Builtin.append_ #[t,t'] ty #[u,v]).run P w):=by
 unfold wU at h;split at h
 ·rename_i e he;split at h
  ·rename_i n R z h1 h2 h3;split at h
   ·rename_i xs I;obtain⟨i,vz,i1,i2,i3⟩:=Ym h3;have hsz:i.size=n:=by simpa[q8,i1]using h1
    have hby:i.bytes=R:=by simpa[kr,i1]using h2
    have hzl:=(ku (w:=w) (S:=S) i3).1;have hu:=xJ he;have N:0<n→z.length=n→∃o,FQ P w t t' ty e n R xs.length v o∧o.length=xs.length*n∧(∀d∈xs,d.length=n) ∧
      ∀(i j:Nat) (d:zc) (q:O),xs[i]?=some d→d[j]?=some q→∃T,o[i*n+j]?=some T∧kq w S G Z true q T:=by
     intro hn hzl';unfold Xb at I;split at I
     ·rename_i b;split at I
      ·rename_i hc;injection I with I
       subst I;obtain⟨i',j1,j2,j3,j4⟩:=LB hc.2;rw[i1]at j1;injection j1 with j1
       subst j1;have hn1:n=1:=by omega
       have hb1:R=1:=by omega
       subst hn1;subst hb1;have hvs:v=.string b:=by
        cases hx with
        |c h=>cases h;rfl
       subst hvs;have hl:(b.data.toList.map fun c=>[O.v (.int .u8 c.toNat)]).length=b.size:=by rw[qO,qT];rfl
       refine⟨Lib.strCells b,by rw[hl];exact Ug hu (OB hc.1) i1 j2 j3 j4 b,by rw[hl,Lib.strCells_length,Nat.mul_one],fun d U=>?_,fun i j d q a r=>?_⟩
       ·obtain⟨x,_,rfl⟩:=qX.1 U;rfl
       ·rw[wy]at a;obtain⟨x,hx1,rfl⟩:=Option.map_eq_some_iff.1 a;obtain rfl:j=0:=by have:=(zq.1 r).1;simpa using this
        simp only[List.getElem?_cons_zero,qw]at r;subst r;refine⟨.int .u8 x.toNat,?_,fun _=>.v rfl,.c (.v rfl),rfl⟩;unfold Lib.strCells;rw[wy,Nat.mul_one,BO,hx1];rfl
      ·cases I
     ·split at I
      ·rename_i he';subst he';obtain⟨A,c,f,rfl,K,f2⟩:=l9 C I hx;have hzc:vz.cells.size=n:=by rw[←hzl',hzl];simp
       refine⟨(List.range (xs.length*n)).map f,LA hu i1 i2 hsz hby hzc hn (se hn K f2),by simp,K,fun i j d q a r=>?_⟩;obtain⟨ad',a1,a2,a3⟩:=f2 i j d q a r;have B:j<n:=by rw[←K d (zO a)];exact(zq.1 r).1
       have E:i<xs.length:=(zq.1 a).1;have F:=Qu (n:=xs.length) E B;exact⟨f (i*n+j),by rw[wy,V9 F];rfl,a3⟩
      ·cases I
    split at h
    ·split at h
     ·rename_i hc;obtain⟨c1,c2,c3,c4⟩:=hc;have:=hs.xc;subst this;obtain⟨o,hA,_,K,f2⟩:=N c1 c2;split at h
      ·rename_i hm;injection h with h
       injection h with ey h;injection h with eh en;subst ey;subst eh;subst en;obtain⟨v',w',r1,_,_,_,_,r6⟩:=hA w.heap.size (.slice none 0 0) 0 [] (World.ownsRow_nil w _ e n) (ze _) (by simpa using c3) (by simpa using c4);obtain⟨rfl,rfl⟩:=r6 hm;exact qR (v:=.slice none 0 0) C r1 (.c .nil)
      ·rename_i hm;injection h with h
       injection h with ey h;injection h with eh en;subst ey;subst eh;subst en;obtain⟨v',w',r1,r2,D,r5,rd,_⟩:=hA w.heap.size (.slice none 0 0) 0 [] (World.ownsRow_nil w _ e n) (ze _) (by simpa using c3) (by simpa using c4);simp only[wD,wN]at r2;rcases r2.2 with⟨e1,e2⟩|⟨g,cap,m,rfl,e2,e3,e4,e5,e6,e7⟩
       ·exact(hm e2).elim
       ·have hg:g=w.heap.size:=by rcases r5 with h5|h5<;>simp[Value.ownBlock]at h5;exact h5
        subst hg;have k:=kJ.Tm (dr:=dr) (Y1:=Y) C (fun _ _ h=>h) ⟨w.heap.size,m.size,n⟩ e true xs m D.os D.tape D.output D.size rd (fun _=>False) (fun _ h=>h.elim) (fun b J W _=>D.block b J (by simp[Value.ownBlock])) (fun id b J=>Nat.ne_of_lt (C.live id b J).lt)
         (fun hS=>by have:=C.st _ hS;simp at this) (.inr (ze _)) c1 (by simpa[q8]using h1) K (by rw[e6];exact qB _ e4) e3 rfl (fun i' j d q a r=>by
          obtain⟨T,a1,a3⟩:=f2 i' j d q a r;have B:j<n:=by rw[←K d (zO a)];exact(zq.1 r).1
          have E:i'<xs.length:=(zq.1 a).1;have F:=Qu (n:=xs.length) E B;refine⟨T,?_,a3⟩;have h7:(m.toList.take (xs.length*n))[i'*n+j]?=some T:=by rw[e7];exact a1
          rw[qG,zf F]at h7;simpa using h7)
        refine⟨_,_,_,_,r1,k,?_⟩;have:=qK.own (w:=w') (S:=S) (G:=qZ G Z ⟨w.heap.size,m.size,n⟩) (Z:=Z+1) (id:=Z) (off:=0) (n:=xs.length) (cap:=cap) (by omega) e4 e5 (by simp[e6]) (by simpa using c1);simpa using this
     ·cases h
    ·rename_i id k;split at h
     ·rename_i b J;split at h
      ·rename_i hc;obtain⟨c0,c1,c2,c3,c4,c5,c6⟩:=hc;injection h with h
       injection h with ey h;injection h with eh en;subst ey;subst eh;subst en;have L:=hs.Zb;obtain⟨cap,g1,g2,g3,g4,rfl⟩:=hs.xd;have hzc:vz.cells.size=n:=by rw[←c4,hzl];simp
       have H:=C.live id b J;obtain⟨m,q1,q2,q3⟩:=H.row L;have M:(G id).s=n:=by
        have h5:=H.size L;rw[c1]at h5;have h6:(P.info? e).map (·.size)=some n:=by simpa[q8]using h1
        rw[h6]at h5;injection h5 with h5
        exact h5.symm
       have hg0:(⟨(G id).g,0*(G id).s,none⟩:Addr)=⟨(G id).g,0,none⟩:=by simp
       rw[hg0];have hcz:m.size=cap*n:=by rw[q2,←g4,M];simp
       have Q:w.ownsRow 0 e n (.slice (some ⟨(G id).g,0,none⟩) k cap) k (m.toList.take (k*n)):=by refine⟨?_,.inr ⟨(G id).g,cap,m,rfl,kD _,by rw[←c1];exact q1,g2,g3,hcz,rfl⟩⟩;simp only[yM,qT,hcz];exact rV (qB _ g2)
       have hsub:∀id' p,qZ Y id none id'=some p→Y id'=some p:=fun id' p h=>YO h
       have hnl:∀id' p,qZ Y id none id'=some p→(G id').g≠(G id).g:=fun id' p h he=>by
        have W:id'≠id:=by rintro rfl;simp at h
        exact W (C.inj id' id p b (YO h) J he)
       obtain⟨o,hA,_,K,f2⟩:=N c3 c4;obtain⟨v',w',r1,r2,D,r5,rd,_⟩:=hA 0 _ k _ Q (kD _) c5 c6;simp only[Value.ownBlock]at D r5;rcases r2.2 with⟨e1,e2⟩|⟨g,cap',l,rfl,e2,e3,e4,e5,e6,e7⟩
       ·subst e1;simp[Value.ownBlock]at r5
       ·have hg:g=(G id).g∨g=w.heap.size:=by simpa[Value.ownBlock]using r5
        have hgl:=H.lt;have To:∀(i' j:Nat) (d:zc) (q:O),(b.es++xs)[i']?=some d→d[j]?=some q→∃u,l[i'*n+j]?=some u∧kq w S G Z true q u:=by
         intro i' j d q a r;have hcl:d.length=n:=by
          rcases qP.1 (zO a)with h|h
          ·rw[←M];exact H.len L d h
          ·exact K d h
         have B:j<n:=by rw[←hcl];exact(zq.1 r).1
         have E:i'<k+xs.length:=by have:=(zq.1 a).1;simp at this;omega
         have F:=Qu (n:=k+xs.length) E B;have h7:(l.toList.take ((k+xs.length)*n))[i'*n+j]?=l[i'*n+j]?:=by rw[qG,zf F];simp
         rw[←h7,e7];have hkl:(m.toList.take (k*n)).length=k*n:=Q.1;by_cases X:i'<k
         ·have hlt':=Qu (n:=k) X B;rw[qV (by rw[c2]at X;exact X)]at a;rw[qV (by omega),qG,zf hlt'];obtain⟨T,u1,u2⟩:=q3 i' j d q a r;rw[M]at u1;rw[c0]at u2;exact⟨T,by simpa using u1,u2⟩
         ·rw[qg (by omega),←c2]at a;have hge:k*n≤i'*n:=qB _ (by omega);rw[qg (by omega),hkl];have hkk:i'*n+j-k*n=(i'-k)*n+j:=by rw[Nat.sub_mul];omega
          rw[hkk];exact f2 (i'-k) j d q a r
        have k2:=kJ.Tm (dr:=dr) (Y1:=qZ Y id none) C hsub ⟨g,l.size,n⟩ e true (b.es++xs) l D.os D.tape D.output D.size rd
         (fun p=>p=(G id).g) (fun p hb'=>by subst hb';exact⟨⟨id,b,J,rfl⟩,C.apart id b J,hnl⟩)
         (fun p hb' W hbg=>D.block p hb' (by simpa using hbg))
         (fun id' p h=>by
          rcases hg with h'|h'
          ·simp only[h'];exact hnl id' p h
          ·simp only[h'];exact Nat.ne_of_lt (C.live id' p (YO h)).lt)
         (by
          rcases hg with h'|h'
          ·simp only[h'];exact C.apart id b J
          ·simp only[h'];intro hS;have:=C.st _ hS;simp at this)
         (by
          rcases hg with h'|h'
          ·simp only[h'];exact .inl ⟨id,b,J,rfl⟩
          ·simp only[h'];exact .inr (ze _))
         c3 (by simpa[q8]using h1)
         (fun d U=>by
          rcases qP.1 U with h|h
          ·simp only[←M];exact H.len L d h
          ·exact K d h)
         (by rw[ye,←c2,e6];exact qB _ e4) e3 rfl To
        refine⟨_,_,_,_,r1,k2,?_⟩;have:=qK.own (w:=w') (S:=S) (G:=qZ G Z ⟨g,l.size,n⟩) (Z:=Z+1) (id:=Z) (off:=0) (n:=k+xs.length) (cap:=cap') (by omega) e4 e5 (by simp[e6]) (by simpa using c3);simpa using this
      ·cases h
     ·cases h
    ·cases h
   ·cases h
  ·cases h
 ·cases h
end
variable{dr:Prop}
section
variable{P:Program}{w:World}{S:Nat→Prop}{G:Nat→GI}{Y:Hp}{Z:Nat}
theorem kJ.allocMap(h:Inv P w S G Y Z)(t:TypeId):kJ dr P Y Z S G w (qZ Y Z (some ⟨t,0,false,[]⟩)) (Z+1) S (qZ G Z ⟨w.heap.size,0,0⟩) (w.alloc (.map #[] 0)):=by
 have j:∀b,b<w.heap.size→(w.alloc (.map #[] 0)).heap[b]?=w.heap[b]?:=fun b a=>Below.heap_alloc w _ b a
 have r:∀b,S b→S b∧(w.alloc (.map #[] 0)).heap[b]?=w.heap[b]?:=fun b a=>⟨a,j b (h.st b a)⟩
 have n:∀id,id<Z→qZ G Z ⟨w.heap.size,0,0⟩ id=G id:=fun id hid=>qY _ _ _ _ (by omega)
 have d:∀id,id≠Z→qZ Y Z (some (⟨t,0,false,[]⟩:jz)) id=Y id:=fun id hid=>qY _ _ _ _ hid
 have l:(w.alloc (.map #[] 0)).heap.size=w.heap.size+1:=by show(w.heap.push _).size=_;simp
 have o:∀id b,Y id=some b→(G id).g<w.heap.size:=fun id b a=>(h.live id b a).lt
 refine⟨⟨fun b a=>by rw[l];have:=h.st b a;omega,fun id b a=>?_,fun id b a=>?_,fun id b a=>?_,fun id id' b q a f p=>?_,h.eR.mono r⟩,by omega,n,fun _ a=>a,fun _ a=>.inl a,fun id b a=>?_,⟨rfl,rfl,rfl,by rw[l];omega,fun _=>ze _,fun k s _=>j k s⟩⟩
 ·by_cases hid:id=Z
  ·omega
  ·rw[d id hid]at a;have:=h.top id b a;omega
 ·by_cases hid:id=Z
  ·subst hid;simp only[w9]at a⊢;injection a with a
   subst a;exact⟨rfl,fun u=>absurd u (by simp),fun _=>⟨#[],0,heap_alloc_new w _,rfl,fun i c e v _=>by simp at v⟩⟩
  ·rw[d id hid]at a;have x:=h.top id b a;rw[n id x];exact(h.live id b a).mono r (by omega) n (j _ (o id b a))
 ·by_cases hid:id=Z
  ·subst hid;simp only[w9];intro hs;have:=h.st _ hs;omega
  ·rw[d id hid]at a;rw[n id (h.top id b a)];exact h.apart id b a
 ·by_cases hid:id=Z<;>by_cases m:id'=Z
  ·omega
  ·subst hid;rw[d id' m]at f;rw[n id' (h.top id' q f)]at p;have:=o id' q f;simp at p;omega
  ·subst m;rw[d id hid]at a;rw[n id (h.top id b a)]at p;have:=o id b a;simp at p;omega
  ·rw[d id hid]at a;rw[d id' m]at f;rw[n id (h.top id b a),n id' (h.top id' q f)]at p;exact h.inj id id' b q a f p
 ·by_cases hid:id=Z
  ·subst hid;simp
  ·rw[d id hid]at a;rw[n id (h.top id b a)];exact .inl ⟨id,b,a,rfl⟩
theorem kJ.Tp(h:Inv P w S G Y Z){id:Nat}{b:jz}(hid:Y id=some b)(r:(G id).s=0)(en:Array MapEntry)(f:Nat)(es:List zc)(A:en.size=es.length)
  (n:∀(i:Nat) (c:zc) (e:MapEntry),es[i]?=some c→en[i]?=some e→uk w S c e) :
  kJ dr P Y Z S G w (qZ Y id (some ⟨b.e,b.s,b.arr,es⟩)) Z S G {w with heap:=w.heap.setIfInBounds (G id).g (.map en f)}:=by
 obtain⟨B,p,o,_⟩:=((h.live id b hid).ent r).row;have m:=MapKept.heap_set (o':=Obj.map en f) o;have j:∀k,k≠(G id).g→(w.heap.setIfInBounds (G id).g (.map en f))[k]?=w.heap[k]?:=m.2;have t:∀b,S b→S b∧(w.heap.setIfInBounds (G id).g (.map en f))[b]?=w.heap[b]?:=fun k d=>⟨d,j k fun e=>h.apart id b hid (e ▸ d)⟩
 have l:∀k,k≠id→qZ Y id (some (⟨b.e,b.s,b.arr,es⟩:jz)) k=Y k:=fun k d=>qY _ _ _ _ d
 refine⟨⟨fun k d=>by show k<(w.heap.setIfInBounds _ _).size;simpa using h.st k d,fun k c d=>?_,fun k c d=>?_,fun k c d=>?_,fun k q c u d v x=>?_,h.eR.mono t⟩,ze _,fun _ _=>rfl,fun _ y=>y,fun _ y=>.inl y,fun k c d=>?_,⟨rfl,rfl,rfl,by simp,fun _=>ze _,fun k _ C=>j k fun e=>C ⟨id,b,hid,e.symm⟩⟩⟩
 ·by_cases a:k=id
  ·subst a;exact h.top _ b hid
  ·rw[l k a]at d;exact h.top k c d
 ·by_cases a:k=id
  ·subst a;simp only[w9]at d;injection d with d
   subst d;refine⟨(h.live _ b hid).bs,fun Q=>by omega,fun _=>⟨en,f,m.1,A,fun i c e D x=>?_⟩⟩;obtain⟨q,E,F,H,I,J⟩:=n i c e D x;exact⟨q,E,F,H,I,J.mono t⟩
  ·rw[l k a]at d;exact(h.live k c d).mono t (ze _) (fun _ _=>rfl) (j _ fun e=>a (h.inj k id c b d hid e))
 ·by_cases a:k=id
  ·subst a;exact h.apart _ b hid
  ·rw[l k a]at d;exact h.apart k c d
 ·have z:∀k c,qZ Y id (some (⟨b.e,b.s,b.arr,es⟩:jz)) k=some c→∃u,Y k=some u:=by
   intro k c d;by_cases a:k=id
   ·subst a;exact⟨b,hid⟩
   ·rw[l k a]at d;exact⟨c,d⟩
  obtain⟨K,L⟩:=z k c d;obtain⟨M,N⟩:=z q u v;exact h.inj k q K M L N x
 ·by_cases a:k=id
  ·subst a;exact .inl ⟨_,b,hid,rfl⟩
  ·rw[l k a]at d;exact .inl ⟨k,c,d,rfl⟩
theorem uv(a:Inv P w S G Y Z)(t:TypeId):QT dr P w Y Z S G (.mp Z) (qZ Y Z (some ⟨t,0,false,[]⟩)) (Z+1) ((Instr.makeMap t none).run P w):=by refine⟨.map (some w.heap.size),w.alloc (.map #[] 0),S,qZ G Z ⟨w.heap.size,0,0⟩,by simp[Instr.makeMap],kJ.allocMap a t,?_⟩;have:=qK.mp (w:=w.alloc (.map #[] 0)) (S:=S) (G:=qZ G Z ⟨w.heap.size,0,0⟩) (Z:=Z+1) (id:=Z) (by omega) (by simp);simpa using this
theorem ma{t:TypeId}{f:Option IntKind}{g:TypeId}(h:cS P t=some (f,g)):∃a d,P.underlying t=some (.map a g)∧P.underlying a=some d∧(∀k,gx f k=true→MapKept.IsKey d k)∧(d=.string∨∃i,d=.int i):=by
 unfold cS at h;split at h
 ·rename_i a l j;split at h
  ·rename_i i b;injection h with h
   injection h with c e;subst c;subst e;exact⟨a,.int i,j,b,fun k b=>by cases k<;>simp_all[gx,MapKept.IsKey],.inr ⟨i,rfl⟩⟩
  ·rename_i b;injection h with h
   injection h with c e;subst c;subst e;exact⟨a,.string,j,b,fun k b=>by cases k<;>simp_all[gx,MapKept.IsKey],.inl rfl⟩
  ·cases h
 ·cases h
theorem gz{d:TypeDesc}{a b:Value}{r:Bool}(hd:d=.string∨∃i,d=.int i)(c:MapKept.IsKey d a)(h:Yk a b=some r):Instr.sameNow d a b=some r:=by
 unfold Yk at h;split at h
 ·rename_i k x f y;rcases hd with rfl|⟨i,rfl⟩
  ·simp[MapKept.IsKey]at c
  ·split at h
   ·rename_i e;simpa[Instr.sameNow,e]using h
   ·cases h
 ·rename_i x y;rcases hd with rfl|⟨i,rfl⟩
  ·injection h with h;simp only[Instr.sameNow,qw];rw[←h,qA,MapKept.bytes_beq,eO];exact⟨fun e=>by rw[e],fun e=>by obtain⟨x⟩:=x;obtain⟨y⟩:=y;congr 1;exact(by rw[Lj,Lj]at e;exact Array.toList_inj.1 e)⟩
  ·simp[MapKept.IsKey]at c
 ·cases h
theorem Kf{d:TypeDesc}{k:Value}(hd:d=.string∨∃i,d=.int i)(b:MapKept.IsKey d k):∀{es:List zc} {en:List MapEntry} {i:Nat} {r:Option (Nat×O)},es.length=en.length→(∀(j:Nat) (c:zc) (e:MapEntry),es[j]?=some c→en[j]?=some e→uk w S c e)→Ke k es i=some r →
  (r=none∧Instr.findNow d k en i=some none)∨∃j v e,r=some (i+j,v)∧Instr.findNow d k en i=some (some (i+j,e.val))∧en[j]?=some e∧wT w S v e.val∧Yk k e.key=some true∧j<es.length
 |[],[],i,r,_,_,h=>by
  simp only[Ke]at h;injection h with h
  exact .inl ⟨h.symm,rfl⟩
 |[],e::en,_,_,a,_,_=>by simp at a
 |c::es,[],_,_,a,_,_=>by simp at a
 |c::es,e::en,i,r,a,l,h=>by
  obtain⟨z,v,rfl,n,_,o⟩:=l 0 c e rfl rfl;simp only[Ke]at h;subst n;split at h
  ·rename_i hs;injection h with h
   subst h;refine .inr ⟨0,v,e,rfl,?_,rfl,o,hs,by simp⟩;simp[Instr.findNow,gz hd b hs]
  ·rename_i hs;have m:=gz hd b hs;rcases Kf hd b (es:=es) (en:=en) (i:=i+1) (r:=r) (by simpa using a) (fun j c e p q=>l (j+1) c e (by simpa using p) (by simpa using q)) h with⟨f,g⟩|⟨j,s,t,f,g,u,x,y,A⟩
   ·exact .inl ⟨f,by simp[Instr.findNow,m,g]⟩
   ·refine .inr ⟨j+1,s,t,by rw[f];congr 2;omega,?_,by simpa using u,x,y,by simp;omega⟩;simp only[Instr.findNow,m,g];congr 3;omega
  ·cases h
theorem sf{t:TypeId}{z:O}(h:cT P t=some z):∃v,(zeroValue t).run P w=.ok v w∧wT w S z v:=by
 unfold cT at h;cases a:P.info? t with
 |none=>rw[a]at h;cases h
 |some i=>
  rw[a]at h;simp only[zS]at h;cases b:i.zero with
  |none=>rw[b]at h;cases h
  |some v=>rw[b]at h;exact⟨v,Ws a b w,gy h⟩
theorem OC(f:Inv P w S G Y Z){x:O}{u:Value}{es:List zc}(h:zl8 Y x=some es)(d:qK w S G Z x u) :
  (u=.map none∧es=[])∨∃r en a,u=.map (some r)∧w.heap[r]?=some (.map en a)∧en.size=es.length∧∀(i:Nat) (c:zc) (e:MapEntry),es[i]?=some c→en[i]?=some e→uk w S c e:=by
 unfold zl8 at h;split at h
 ·rename_i id;obtain⟨n,g,rfl⟩:=d.Tl;split at h
  ·rename_i b j;split at h
   ·injection h with h;subst h;obtain⟨en,a,k,l,m⟩:=((f.live id b j).ent g).row;exact .inr ⟨_,en,a,rfl,k,l,m⟩
   ·cases h
  ·cases h
 ·injection h with h;obtain⟨rfl,_⟩:=d.yH;exact .inl ⟨rfl,h.symm⟩
 ·cases h
theorem B6(o:Inv P w S G Y Z){t:TypeId}{p q x:O}{u v:Value}{s:Bool}(h:Jl P Y t p q s=some x)(Y':qK w S G Z p u)(hq:qK w S G Z q v):QT dr P w Y Z S G x Y Z ((Instr.lookup t u v s).run P w):=by
 unfold Jl at h;split at h
 ·rename_i kk E es k H I;obtain⟨kt,d,A,g,J,hd⟩:=ma H;obtain⟨rfl,_⟩:=hq.yH;split at h
  ·rename_i hc;have f:=J v hc;rcases OC o I Y' with⟨rfl,rfl⟩|⟨r,en,K,rfl,F,W,X⟩
   ·simp only[Ke]at h;obtain⟨z,L,m⟩:∃z,cT P E=some z∧(if s=true then O.yb [z,.v (.bool false)]else z)=x:=by
     cases B:cT P E with
     |none=>rw[B]at h;cases h
     |some z=>rw[B]at h;injection h with h;exact⟨z,rfl,h⟩
    obtain⟨C,l,n⟩:=sf (w:=w) (S:=S) L;have D:Instr.findNow d v [] 0=some none:=rfl;cases s with
    |true=>
     simp only[wi]at m;subst m;refine qR (v:=.tuple #[C,.bool false]) o ?_ (.c (.yb rfl fun j M y a b=>?_))
     ·simp[Instr.lookup,zP A,Zs g f,ZW g D,l,Result.andThen]
     ·match j,a,b with
      | 0,a,b=>simp at a b;subst a;subst b;exact n
      | 1,a,b=>simp at a b;subst a;subst b;exact .v rfl
      |j+2,a,b=>simp at a
    |false=>simp only[zU,wK]at m;subst m;refine qR (v:=C) o ?_ (.c n);simp[Instr.lookup,zP A,Zs g f,ZW g D,l,Result.andThen]
   ·split at h
    ·rename_i i M N;rcases Kf hd f (en:=en.toList) (by simpa using W.symm) (fun j c e Q R=>X j c e Q (by simpa using R)) N with⟨T,_⟩|⟨j,y,e,l,n,e3,e4,e5,e6⟩
     ·cases T
     ·injection l with l;injection l with l U;subst U;injection h with h;cases s with
      |true=>
       simp only[wi]at h;subst h;refine qR (v:=.tuple #[e.val,.bool true]) o ?_ (.c (.yb rfl fun j M y a b=>?_))
       ·simp[Instr.lookup,zP A,Kb F,Zs g f,ZW g n,Result.andThen]
       ·match j,a,b with
        | 0,a,b=>simp at a b;subst a;subst b;exact e4
        | 1,a,b=>simp at a b;subst a;subst b;exact .v rfl
        |j+2,a,b=>simp at a
      |false=>simp only[zU,wK]at h;subst h;refine qR (v:=e.val) o ?_ (.c e4);simp[Instr.lookup,zP A,Kb F,Zs g f,ZW g n,Result.andThen]
    ·rename_i N;obtain⟨z,L,m⟩:∃z,cT P E=some z∧(if s=true then O.yb [z,.v (.bool false)]else z)=x:=by
      cases B:cT P E with
      |none=>rw[B]at h;cases h
      |some z=>rw[B]at h;injection h with h;exact⟨z,rfl,h⟩
     obtain⟨C,l,n⟩:=sf (w:=w) (S:=S) L;rcases Kf hd f (en:=en.toList) (by simpa using W.symm) (fun j c e Q R=>X j c e Q (by simpa using R)) N with⟨_,D⟩|⟨j,y,e,T,_⟩
     ·cases s with
      |true=>
       simp only[wi]at m;subst m;refine qR (v:=.tuple #[C,.bool false]) o ?_ (.c (.yb rfl fun j M y a b=>?_))
       ·simp[Instr.lookup,zP A,Kb F,Zs g f,ZW g D,l,Result.andThen]
       ·match j,a,b with
        | 0,a,b=>simp at a b;subst a;subst b;exact n
        | 1,a,b=>simp at a b;subst a;subst b;exact .v rfl
        |j+2,a,b=>simp at a
      |false=>simp only[zU,wK]at m;subst m;refine qR (v:=C) o ?_ (.c n);simp[Instr.lookup,zP A,Kb F,Zs g f,ZW g D,l,Result.andThen]
     ·cases T
    ·cases h
  ·cases h
 ·cases h
theorem FR{a b:Value}(h:Yk a b=some true):b=a:=by
 unfold Yk at h;split at h
 ·rename_i k x c y;split at h
  ·rename_i e;subst e;injection h with h
   rw[eO]at h;rw[h]
  ·cases h
 ·rename_i x y;injection h with h
  rw[eO]at h;obtain⟨x⟩:=x;obtain⟨y⟩:=y;congr 2
  (rw[Lj,Lj]at h;exact Array.toList_inj.1 h.symm)
 ·cases h
theorem gA(hi:Inv P w S G Y Z){t:TypeId}{p q y:O}{Y':Hp}{u v z:Value}(h:Jm P Y t p q y=some Y')(hu:qK w S G Z p u)(hq:qK w S G Z q v)(hy:qK w S G Z y z) :
  ∃w' S' G',(Instr.mapUpdate t u v z).run P w=.ok () w'∧kJ dr P Y Z S G w Y' Z S' G' w':=by
 unfold Jm at h;split at h
 ·rename_i kk et id k I;obtain⟨kt,d,r,B,J,hd⟩:=ma I;obtain⟨rfl,m⟩:=hq.yH;obtain⟨m1,K,rfl⟩:=hu.Tl;split at h
  ·rename_i hc;have g:=J v hc;split at h
   ·rename_i C Y1 hf;obtain⟨S1,s,hr,_,_⟩:=vx hi hf hy;split at h
    ·rename_i b L;split at h
     ·obtain⟨en,l,D,E,F⟩:=((s.inv.live id b L).ent K).row;split at h
      ·rename_i i pv n;injection h with h
       subst h;rcases Kf hd g (en:=en.toList) (by simpa using E.symm) (fun j c e M N=>F j c e M (by simpa using N)) n with⟨Q,_⟩|⟨j,x,e,H,e2,e3,e4,e5,e6⟩
       ·cases Q
       ·injection H with H;injection H with H e1';have R:i=j:=by omega
        subst R;have A:en[i]?=some e:=by simpa using e3
        have T:e.key=v:=FR e5;have U:=kJ.Tp (dr:=dr) s.inv L K (en.modify i fun e=>{e with key:=v,val:=z}) l (b.es.set i [.v v,C]) (by simpa using E) (fun i' c W f a=>by
         rw[Ji]at a;by_cases o:i=i'
         ·subst o;rw[zf rfl,A]at a;rw[zb7 e6]at f;injection f with f
          simp only[zH,qw]at a;subst a;subst f;exact⟨v,C,rfl,rfl,m,hr⟩
         ·rw[zj o]at a;rw[KT o]at f;exact F i' c W f a)
        refine⟨_,S1,G,?_,s.trans U⟩;simp[Instr.mapUpdate,zP r,Kb D,Zs B g,ZW B e2,A,T,MapKept.run_keyThatStays g,MapKept.run_setObj_map _ D,Result.andThen]
      ·rename_i n;injection h with h
       subst h;rcases Kf hd g (en:=en.toList) (by simpa using E.symm) (fun j c e M N=>F j c e M (by simpa using N)) n with⟨_,hn⟩|⟨j,x,e,Q,_⟩
       ·have U:=kJ.Tp (dr:=dr) s.inv L K (en.push {key:=v,val:=z,born:=l}) (l+1) (b.es++[[.v v,C]]) (by simp[E]) (fun i' c W f a=>by
         rw[Array.getElem?_push]at a;split at a
         ·rename_i X;injection a with a
          subst a;rw[qg (by omega)]at f;have:i'-b.es.length=0:=by omega
          rw[this]at f;simp at f;exact⟨v,C,f.symm,rfl,m,hr⟩
         ·rename_i X;have hlt:i'<en.size:=(qu.1 a).1;rw[qV (by omega)]at f;exact F i' c W f a)
        refine⟨_,S1,G,?_,s.trans U⟩;simp[Instr.mapUpdate,zP r,Kb D,Zs B g,ZW B hn,MapKept.run_setObj_map _ D,Result.andThen]
       ·cases Q
      ·cases h
     ·cases h
    ·cases h
   ·cases h
  ·cases h
 ·cases h
end
end Go.AM
