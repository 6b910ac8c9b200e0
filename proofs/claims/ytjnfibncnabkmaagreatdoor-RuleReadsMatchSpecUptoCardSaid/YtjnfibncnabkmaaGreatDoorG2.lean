/- Lemmas. -/
import Derived.Maps.AppendAt
import Derived.Lib.AppendStr
import Derived.MapKept
import Derived.Test.YtjnfibncnabkmaaGreatDoorG1
set_option maxRecDepth 8000
open Go Proofs Proofs.YtjnfibncnabkmaaGreatDoor Proofs.Tryz RowKit AM SpanLaw Q Zz
namespace Go.AM
variable{dr:Prop}
section
variable{P:Program}{w:World}{S:Nat->Prop}{G:Nat->GI}{Y:Hp}{Z:Nat}
theorem eH{o:Option (Option O)}{v:Option Value}{a n y:Nat}(code:BoundsCode)(h:kl a o=some n)(d:n<=y)(hd:o=none->v=none)(hs:∀p,o=some (some p)->∃u,v=some u/\qw w S G Z p u)(e:o≠some none) :
  (v=none/\n=a)\/∃k i,v=some (.int k i)/\(Instr.sliceBound (.int k i) y code).run P w=.ok n w:=by
 unfold kl at h;split at h
 ·injection h with h;exact .inl ⟨hd rfl,h.symm⟩
 ·rename_i k i;split at h
  ·rename_i b;injection h with h
   subst h;obtain⟨u,rfl,c⟩:=hs _ rfl;obtain⟨rfl,_⟩:=c.yn;refine .inr ⟨k,i,rfl,?_⟩;have:i<=y:=by omega
   simp[Instr.sliceBound,asIntOf,b,this]
  ·cases h
 ·cases h
theorem KL{isS:Bool}{len cap l h:Nat}{b c:Option (Option O)}{d e:Option Value}(g:kl 0 b=some l)(o:kl len c=some h)(a:l<=h)(f:h<=cap)
  (j:b=none->d=none) (m:∀p,b=some (some p)->∃u,d=some u/\qw w S G Z p u) (n1:b≠some none)
  (q:c=none->e=none) (r:∀p,c=some (some p)->∃u,e=some u/\qw w S G Z p u) (s:c≠some none) :
  (Instr.sliceBounds isS len cap d e none).run P w=.ok (l,h,cap) w:=by
 rcases eH (P:=P) (if isS then .sliceAcap else .sliceAlen) o f q r s with⟨rfl,rfl⟩|⟨k,i,rfl,t⟩
 ·rcases eH (P:=P) .sliceB g a j m n1 with⟨rfl,rfl⟩|⟨k',i',rfl,n⟩
  ·simp[Instr.sliceBounds]
  ·simp[Instr.sliceBounds,n]
 ·rcases eH (P:=P) .sliceB g a j m n1 with⟨rfl,rfl⟩|⟨k',i',rfl,n⟩
  ·cases isS<;>simp_all[Instr.sliceBounds]
  ·cases isS<;>simp_all[Instr.sliceBounds]
theorem EB(a:Inv P w S G Y Z){t:TypeId}{p x:O}{W X:Option (Option O)}{vl vh:Option Value}{u:Value}(h:yZ P Y t p W X=some x)(E:qw w S G Z p u)
  (N:W=none->vl=none) (Q:∀p,W=some (some p)->∃u,vl=some u/\qw w S G Z p u)
  (R:X=none->vh=none) (T:∀p,X=some (some p)->∃u,vh=some u/\qw w S G Z p u):QI dr P w Y Z S G x Y Z ((Instr.sliceAt t u vl vh none).run P w):=by
 have C:∀{d n:Nat} {o:Option (Option O)},kl d o=some n->o≠some none:=by rintro d n o h rfl;simp[kl]at h
 unfold yZ at h;split at h
 ·rename_i s z;obtain⟨rfl,_⟩:=E.yn;split at h
  ·rename_i l q r y;split at h
   ·rename_i k;injection h with h
    subst h;have B:=KL (P:=P) (isS:=false) (cap:=s.size) r y k.1 k.2 N Q (C r) R T (C y);exact qF (v:=.string (s.extract l q)) a (by simp[Instr.sliceAt,zx z,Instr.slice,B]) (xp _ rfl)
   ·cases h
  ·cases h
 ·rename_i e s es z;split at h
  ·rename_i n l q f r y;split at h
   ·rename_i k;obtain⟨rfl,k⟩:=k;injection h with h
    subst h;cases E.cu with
    |sl us h0 h1 h2 h3 h4 h5=>
     rename_i A cap;have B:=KL (P:=P) (isS:=true) (cap:=cap) r y k.1 (by omega) N Q (C r) R T (C y);have F:((es.drop l).take (q-l)).length=q-l:=by simp;omega
     have D:∀(i:Nat) (c:zb),((es.drop l).take (q-l))[i]?=some c->i<q-l/\es[l+i]?=some c:=by
      intro i c a;rw[zX]at a;split at a
      ·rw[qI]at a;exact⟨by assumption,a⟩
      ·cases a
     have H:wT w S (.sl s ((es.drop l).take (q-l))) (.slice (if cap=l then A else A.map (·.add (l*s))) ((es.drop l).take (q-l)).length (cap-l)):=by
      refine .sl (fun i j=>us (l+i) j) (fun ha=>by have:A=none:=(by split at ha<;>simp_all);have:=h0 this;omega) (by omega) (by omega) (fun c k=>h3 c (iQ _ _ (Vo _ _ k))) (fun i j c pv a hj=>?_) (fun i j c pv a hj=>h5 _ j c pv (D i c a).2 hj);obtain⟨hil,hi'⟩:=D i c a;obtain⟨ad,rfl,U,g2,g3⟩:=h4 (l+i) j c pv hi' hj;rw[zf (by omega)];refine⟨ad.add (l*s),rfl,by rw[QT];exact U,?_,g3⟩;rw[cy];have:l*s+(i*s+j)=(l+i)*s+j:=by rw[yc];omega
      rw[this];exact g2
     rw[F]at H;exact qF (v:=_) a (by simp[Instr.sliceAt,zx z,Instr.slice,B,yJ f]) (.c H)
   ·cases h
  ·cases h
 ·rename_i e z;have:=E.ZV;subst this;split at h
  ·rename_i n l q f r y;split at h
   ·rename_i k;obtain⟨rfl,rfl⟩:=k;injection h with h
    subst h;have B:=KL (P:=P) (isS:=true) (len:=0) (cap:=0) r y (zk _) (zk _) N Q (C r) R T (C y);exact qF (v:=.slice none 0 0) a (by simp[Instr.sliceAt,zx z,Instr.slice,B,yJ f]) (.c .nil)
   ·cases h
  ·cases h
 ·rename_i e id off n z;have I:=E.ZW;obtain⟨cap,U,g2,g3,g4,rfl⟩:=E.Zk;split at h
  ·rename_i m l q f r y;split at h;rename_i b oQ;split at h
   ·rename_i k;obtain⟨hbm,k⟩:=k;injection h with h
    have B:=KL (P:=P) (isS:=true) (cap:=cap) r y k.1 (by omega) N Q (C r) R T (C y);by_cases J:l=0
    ·subst J;simp only[zK]at h;subst h;refine qF (v:=.slice (some ⟨(G id).g,off*(G id).s,none⟩) q cap) a ?_ (.own U (by omega) g3 g4 I);by_cases K:cap=0
     ·subst K;simp[Instr.sliceAt,zx z,Instr.slice,B,yJ f]
     ·simp[Instr.sliceAt,zx z,Instr.slice,B,yJ f,K,yz]
    ·rw[zf J]at h;by_cases L:q=l
     ·subst L;simp only[zK]at h;subst h;refine qF (v:=_) a (by simp[Instr.sliceAt,zx z,Instr.slice,B,yJ f];rfl) (.c ?_);exact .sl (es:=[]) (fun _ _=>undef) (fun ha=>by split at ha<;>simp_all) (by simp) (by omega) (by simp) (by simp) (by simp)
     ·rw[zf L]at h;subst h;have hcl:¬cap=l:=by omega
      refine qF (v:=.slice (some ⟨(G id).g,(off+l)*(G id).s,none⟩) (q-l) (cap-l)) a ?_ (.own U (by omega) (by omega) ?_ I)
      ·have hgs:(G id).s=m:=by rw[<-(a.live id b oQ).bs,hbm]
       simp[Instr.sliceAt,zx z,Instr.slice,B,yJ f,hcl,yz,hgs,yc]
      ·rw[show off+l+(cap-l)=off+cap from by omega];exact g4
   ·cases h
   ·cases h
  ·cases h
 ·cases h
theorem oZ(g:Inv P w S G Y Z){f:Fn}{xs ys:zb}{us ts:Array Value}(d:Zip (qw w S G Z) xs us.toList)(e:Zip (qw w S G Z) ys ts.toList) :
  QI dr P w Y Z S G (.fn f xs ys) Y Z ((Instr.makeFunc f us ts).run P w):=
 qF (v:=.func f us ts) g rfl (.fn (by simpa using d.1) (by simpa using e.1) (fun j c x a b=>d.2 j c x a (by simpa using b)) (fun j c x a b=>e.2 j c x a (by simpa using b)))
theorem Ba{z:Array Value}{n s i j:Nat}(hs:z.size=s)(c:i<n)(b:j<s):(madeCells z (n*s))[i*s+j]?=z[j]?:=by
 have a:i*s+j<n*s:=xo c b;unfold madeCells;rw[Array.getElem?_map,Array.getElem?_range,zg a];have d:(i*s+j) % s=j:=by rw[ek,Nat.add_mul_mod_self_right];exact Nat.mod_eq_of_lt b
 simp only[zE,hs,d];rw[vF (by omega)];simp only[zY];exact(zbk z j (by omega))
theorem lO(N:Inv P w S G Y Z){t:TypeId}{p q x:O}{F:Hp}{H:Nat}{u v:Value}(h:YA P Y Z t p q=some (x,F,H))(Q:qw w S G Z p u)(R:qw w S G Z q v) :
  QI dr P w Y Z S G x F H ((Instr.makeSlice t u v).run P w):=by
 unfold YA at h;split at h
 ·rename_i T l U c;obtain⟨rfl,_⟩:=Q.yn;obtain⟨rfl,_⟩:=R.yn;split at h
  ·rename_i e W;split at h
   ·rename_i n g z I X h3;split at h
    ·rename_i hc;obtain⟨J,r,c3,c4,K,c6⟩:=hc;injection h with h
     injection h with ex h;injection h with eh en;subst ex;subst eh;subst en;obtain⟨i,d,s,i2,i3⟩:=W9 h3;obtain⟨z1,z2⟩:=j8 (w:=w) (S:=S) i3;have f:i.size=n:=by simpa[qY,s]using I
     have y:i.bytes=g:=by simpa[vH,s]using X
     have A:d.cells.size=n:=by rw[<-r,z1];simp
     have hm:c.toNat<=9223372036854775807:=by simpa[maxLen]using K
     have b:(i.bytes:Int)*c<=281474976710656:=by
      have:((c.toNat*g:Nat):Int)<=140737488355328:=by omega
      rw[Int.natCast_mul,Int.toNat_of_nonneg (by omega)]at this;rw[y,Int.mul_comm];omega
     have hr:=run_make (P:=P) w t e i d (xi W) s i2 T U l c c3 c4 b (by omega);have m:l.toNat<=c.toNat:=by omega
     have k:=kN.alloc (dr:=dr) N (madeCells d.cells (c.toNat*i.size)) e true (List.replicate l.toNat z) n J (by simpa[qY]using I) (fun c' B=>by rw[(zjh.1 B).2];exact r)
      (by rw[size_madeCells,f,zek];exact z7 _ m) (fun i' j c' pv a L=>by
       have C:i'<l.toNat:=by have:=(zj.1 a).1;simpa using this
       rw[List.getElem?_replicate,zg C]at a;injection a with a
       subst a;have D:j<n:=by rw[<-r];exact(zj.1 L).1
       have o:j<d.cells.size:=by omega
       rw[f,Ba A (by omega) D];have E:=z2 j pv d.cells[j] L (by simp[o]);exact⟨d.cells[j],by simp[o],fun _=>E.1,.c E.1,E.2.1⟩)
     refine⟨_,_,_,_,hr,k,?_⟩;have:=qw.own (w:=w.alloc (.cells (madeCells d.cells (c.toNat*i.size)) e)) (S:=S) (G:=qf G Z ⟨w.heap.size,(madeCells d.cells (c.toNat*i.size)).size,n⟩) (Z:=Z+1) (id:=Z) (off:=0) (n:=l.toNat) (cap:=c.toNat) (by omega) m K (by simp[size_madeCells,f]) (by simpa using J);simpa using this
    ·cases h
   ·cases h
  ·cases h
 ·cases h
end
variable{dr:Prop}
section
variable{P:Program}{w:World}{S:Nat->Prop}{G:Nat->GI}{Y:Hp}{Z:Nat}
theorem kN.SA{Y1:Hp}{r:World}(n:Inv P w S G Y Z)(a:∀id b,Y1 id=some b->Y id=some b)(f:GI)(e:TypeId)(B:Bool)(es:List zb)(t:Array Value)
  (os:r.os=w.os) (F:r.tape=w.tape) (v:r.output=w.output) (y:w.heap.size<=r.heap.size) (C:w.drawn<=r.drawn)
  (D:Nat->Prop) (R:∀b,D b->kn Y G b/\¬S b/\∀id x,Y1 id=some x->(G id).g≠b)
  (m:∀b,b<w.heap.size->b≠f.g->¬D b->r.heap[b]?=w.heap[b]?) (E:∀id b,Y1 id=some b->(G id).g≠f.g) (H:¬S f.g) (I:kn Y G f.g\/w.heap.size<=f.g)
  (T:0<f.s) (U:(P.info? e).map (·.size)=some f.s) (J:∀c∈es,c.length=f.s) (K:es.length*f.s<=f.z) (L:r.heap[f.g]?=some (.cells t e (0,0))) (W:t.size=f.z)
  (N:∀(i j:Nat) (c:zb) (Q:O),es[i]?=some c->c[j]?=some Q->∃u,t[i*f.s+j]?=some u/\ke w S G Z B Q u) :
  kN dr P Y Z S G w (qf Y1 Z (some ⟨e,f.s,B,es⟩)) (Z+1) S (qf G Z f) r:=by
 have X:∀b,S b->S b/\r.heap[b]?=w.heap[b]?:=fun b d=>⟨d,m b (n.st b d) (fun e=>H (e ▸ d)) fun h=>(R b h).2.1 d⟩
 have q:∀id,id<Z->qf G Z f id=G id:=fun id hid=>zc _ _ _ _ (by omega)
 have l:∀id,id≠Z->qf Y1 Z (some ⟨e,f.s,B,es⟩) id=Y1 id:=fun id hid=>zc _ _ _ _ hid
 refine⟨⟨fun b d=>yi (n.st b d) y,fun id b d=>?_,fun id b d=>?_,fun id b d=>?_,fun id id' b x d o A=>?_,n.eC.mono X⟩,by omega,q,fun _ d=>d,fun _ d=>.inl d,fun id b d=>?_,⟨os,F,v,y,fun _=>C,fun k hk hn=>m k hk (fun e=>?_) fun h=>hn (R k h).1⟩⟩
 ·by_cases hid:id=Z
  ·omega
  ·rw[l id hid]at d;have:=n.top id b (a id b d);omega
 ·by_cases hid:id=Z
  ·subst hid;simp only[wR]at d⊢;injection d with d
   subst d;refine .vk T rfl ⟨U,J,K,t,L,W,fun i j c Q hi' hj=>?_⟩;obtain⟨u,h1,h2⟩:=N i j c Q hi' hj;exact⟨u,h1,h2.mono X (by omega) q⟩
  ·rw[l id hid]at d;have ht:=n.top id b (a id b d);rw[q id ht];have hl:=n.live id b (a id b d);exact hl.mono X (by omega) q (m _ hl.lt (E id b d) fun h=>(R _ h).2.2 id b d rfl)
 ·by_cases hid:id=Z
  ·subst hid;simpa using H
  ·rw[l id hid]at d;rw[q id (n.top id b (a id b d))];exact n.apart id b (a id b d)
 ·by_cases hid:id=Z<;>by_cases p:id'=Z
  ·omega
  ·subst hid;rw[l id' p]at o;rw[q id' (n.top id' x (a id' x o))]at A;simp only[wR]at A;exact(E id' x o A.symm).elim
  ·subst p;rw[l id hid]at d;rw[q id (n.top id b (a id b d))]at A;simp only[wR]at A;exact(E id b d A).elim
  ·rw[l id hid]at d;rw[l id' p]at o;rw[q id (n.top id b (a id b d)),q id' (n.top id' x (a id' x o))]at A;exact n.inj id id' b x (a id b d) (a id' x o) A
 ·by_cases hid:id=Z
  ·subst hid;simpa using I
  ·rw[l id hid]at d;rw[q id (n.top id b (a id b d))];exact .inl ⟨id,b,a id b d,rfl⟩
 ·subst e;rcases I with h|h
  ·exact hn h
  ·omega
theorem bu(R:Inv P w S G Y Z){n:Nat}{x:O}{xs:List zb}{u:Value}(h:view Y n x=some xs)(t:qw w S G Z x u) :
  ∃(A:Option Addr) (c:Nat) (f:Nat->Value),u=.slice A xs.length c/\(∀m∈xs,m.length=n) /\
   ∀(i j:Nat) (m:zb) (d:O),xs[i]?=some m->m[j]?=some d->∃l,A=some l/\w.cell? (l.add (i*n+j))=some (f (i*n+j))/\ke w S G Z true d (f (i*n+j)):=by
 have T:∀(A:Option Addr) (xs:List zb) (c:Nat),wT w S (.sl n xs) (.slice A xs.length c)->(∃us:Nat->Nat->Value,(∀m∈xs,m.length=n) /\
   (∀(i j:Nat) (c:zb) (d:O),xs[i]?=some c->c[j]?=some d->∃l,A=some l/\w.cell? (l.add (i*n+j))=some (us i j)/\(us i j).oneCell'=true/\wT w S d (us i j))):=by
  intro A xs c h;cases h with
  |sl us U I J y K F=>refine⟨us,y,fun i j c d a b=>?_⟩;obtain⟨l,e,_,p,r⟩:=K i j c d a b;exact⟨l,e,p,r,F i j c d a b⟩
 have z:∀(A:Option Addr) (c:Nat) (us:Nat->Nat->Value),(∀m∈xs,m.length=n) ->
   (∀(i j:Nat) (c:zb) (d:O),xs[i]?=some c->c[j]?=some d->∃l,A=some l/\w.cell? (l.add (i*n+j))=some (us i j)/\ke w S G Z true d (us i j))->u=.slice A xs.length c ->
   ∃(A:Option Addr) (c:Nat) (f:Nat->Value),u=.slice A xs.length c/\(∀m∈xs,m.length=n) /\
    ∀(i j:Nat) (m:zb) (d:O),xs[i]?=some m->m[j]?=some d->∃l,A=some l/\w.cell? (l.add (i*n+j))=some (f (i*n+j))/\ke w S G Z true d (f (i*n+j)):=by
  intro A c us I J y;refine⟨A,c,fun k=>match A with|some l=>(w.cell? (l.add k)).getD undef|none=>undef,y,I,fun i j m d o L=>?_⟩;obtain⟨l,rfl,p,r⟩:=J i j m d o L;exact⟨l,rfl,by simp[p],by simpa[p]using r⟩
 unfold view at h;split at h
 ·injection h with h;subst h;have:=t.ZV;subst this;exact⟨none,0,fun _=>undef,rfl,by simp,by simp⟩
 ·injection h with h;subst h;obtain⟨l,cap,rfl,_⟩:=t.oP;exact⟨some l,cap,fun _=>undef,rfl,by simp,by simp⟩
 ·rename_i s es;split at h
  ·rename_i hs;subst hs;injection h with h
   subst h;have N:=t.cu;cases N with
   |sl us U I J y K F=>refine z _ _ us y (fun i j c d a b=>?_) rfl;obtain⟨l,e,_,p,r⟩:=K i j c d a b;exact⟨l,e,p,fun _=>F i j c d a b,.c (F i j c d a b),r⟩
  ·cases h
 ·rename_i id off k;split at h
  ·rename_i b W;split at h
   ·rename_i N;injection h with h
    obtain⟨X,c2,c3⟩:=N;have B:=t.ZW;obtain⟨cap,p,r,g3,g4,rfl⟩:=t.Zk;have q:=R.live id b W;obtain⟨C,r1,r2,r3⟩:=q.row B;have hs:(G id).s=n:=by rw[<-q.bs,c2]
    have hl:xs.length=k:=by rw[<-h];simp;omega
    have D:∀(i:Nat) (c:zb),xs[i]?=some c->b.es[off+i]?=some c:=by
     intro i c o;rw[<-h,zX]at o;split at o
     ·rwa [qI]at o
     ·cases o
    refine z (some ⟨(G id).g,off*(G id).s,none⟩) cap (fun i j=>(C[(off+i)*n+j]?).getD undef) (fun m E=>?_) (fun i j c d o L=>?_) (by rw[hl])
    ·rw[<-h]at E;rw[<-hs];exact q.len B m (iQ _ _ (Vo _ _ E))
    ·obtain⟨v,H,Q⟩:=r3 (off+i) j c d (D i c o) L;refine⟨_,rfl,?_,?_⟩
     ·rw[yz,cell_of_row w _ _ C _ _ r1,hs];rw[hs]at H;rw[show off*n+(i*n+j)=(off+i)*n+j from by rw[yc];omega,H];rfl
     ·rw[hs]at H;simp only[H,WJ];rw[X]at Q;exact Q
   ·cases h
  ·cases h
 ·cases h
theorem Nn{n k m:Nat}(a:0<n)(b:k<m*n):k/n<m/\k % n<n/\k/n*n+k % n=k:=by refine⟨(Nat.div_lt_iff_lt_mul a).2 b,zji _ a,?_⟩;rw[Yi];exact Nat.div_add_mod k n
theorem rl{n:Nat}{xs:List zb}{A:Option Addr}{f:Nat->Value}(m:0<n)(o:∀b∈xs,b.length=n)
  (h:∀(i j:Nat) (b:zb) (c:O),xs[i]?=some b->b[j]?=some c->∃a,A=some a/\w.cell? (a.add (i*n+j))=some (f (i*n+j))/\ke w S G Z true c (f (i*n+j))) :
  ∀k,k<xs.length*n->∃a,A=some a/\w.cell? (a.add k)=some (f k)/\(f k).oneCell'=true:=by
 intro k p;obtain⟨d,t,q⟩:=Nn m p;have r:xs[k/n]?=some xs[k/n]:=zo d;have s:xs[k/n].length=n:=o _ (zw d);obtain⟨a,e,g,l⟩:=h (k/n) (k % n) _ (xs[k/n][k % n]'(by omega)) r (zo (by omega));rw[q]at g l;exact⟨a,e,g,l.2.2⟩
theorem ti(t ty e:TypeId)(i:TypeInfo)(z:Value)(x:P.underlying t=some (.slice e))(y:P.info? e=some i)(E:i.zero=some z)(G:0<i.size)
  (v:Value) (n:Nat) (xs:List Value) (h:w.ownsRow 0 e i.size v n xs) (a:Addr) (m c:Nat) (b:List Value) (p:b.length=m*i.size) (d:∀j u,b[j]?=some u->w.cell? (a.add j)=some u) (H:∀u∈b,u.oneCell'=true)
  (B:n+m<=maxLen) (f:(n+m)*i.bytes<=140737488355328) {I:Value} {F:World} (r:(Builtin.append_ #[t,t] ty #[v,.slice (some a) m c]).run P w=.ok I F):w.drawn<=F.drawn:=by
 have A:n+m<=9223372036854775807:=by simp only[maxLen]at B;omega
 rcases h.2 with⟨rfl,rfl⟩|⟨g,cap,q,rfl,J,K,L,N,C,D⟩
 ·by_cases Q:m=0
  ·subst Q;have R:b=[]:=oM (by simpa using p);subst R;have l:(Builtin.append_ #[t,t] ty #[.slice none 0 0,.slice (some a) 0 c]).run P w=.ok (.slice none 0 0) w:=by simp[Builtin.append_,zx x,sizeOf,typeInfo,y,Builtin.lenOf,Builtin.firstCells,loadCells,loadCellsFrom]
   rw[l]at r;injection r with _ r
   rw[<-r];exact zk _
  ·have l:=run_append_nil (P:=P) w t ty e i z x y E a m c b p d (by omega) (by omega) (by have S:=f;simp only[zh]at S;omega);rw[l]at r;injection r with _ r
   rw[<-r];exact jS _
 ·by_cases k:n+m<=cap
  ·have s:n*i.size+b.length<=q.size:=by rw[p,C,<-yc];exact z7 _ k
   have l:=run_append_room (P:=P) w t ty e i x y g n cap q K a m c b p d H k s;rw[l]at r;injection r with _ r
   rw[<-r];exact zk _
  ·have o:∀j u,xs[j]?=some u->w.cell? ((⟨g,0,none⟩:Addr).add j)=some u:=h.cells (g:=g) rfl;have l:=run_append_grow (P:=P) w t ty e i z x y E ⟨g,0,none⟩ n cap xs h.1 o a m c b p d (by omega) (by omega) (growslice_fits (by omega) f);rw[l]at r;injection r with _ r
   rw[<-r];exact jS _
def EC(P:Program)(w:World)(t t' ty e:TypeId)(n f m:Nat)(x:Value)(b:List Value):Prop:=
 ∀(a:Nat) (v:Value) (k:Nat) (olds:List Value),w.ownsRow a e n v k olds->a<=w.heap.size->k+m<=maxLen->(k+m)*f<=140737488355328 ->
  ∃c d,(Builtin.append_ #[t,t'] ty #[v,x]).run P w=.ok c d/\d.ownsRow a e n c (k+m) (olds++b)/\w.grownBy d v.ownBlock/\(c.ownBlock=v.ownBlock\/c.ownBlock=some w.heap.size)/\w.drawn<=d.drawn/\(m=0->c=v/\d=w)
theorem Iy{t ty e:TypeId}{n b:Nat}{i:TypeInfo}{z:Value}(o:P.underlying t=some (.slice e))(B:P.info? e=some i)(G:i.zero=some z)(d:i.size=n)(q:i.bytes=b)(D:z.cells.size=n)(H:0<n)
  {A:Option Addr} {m c:Nat} {f:Nat->Value} (E:∀k,k<m*n->∃p,A=some p/\w.cell? (p.add k)=some (f k)/\(f k).oneCell'=true):EC P w t t ty e n b m (.slice A m c) ((List.range (m*n)).map f):=by
 intro r v k olds a l s I;by_cases J:m=0
 ·subst J;refine⟨v,w,?_,by simpa using a,World.grownBy.refl w _,.inl rfl,zk _,fun _=>⟨rfl,rfl⟩⟩;rcases a.2 with⟨rfl,_⟩|⟨g,cap,x,rfl,_,_,Q,_⟩
  ·cases A<;>simp[Builtin.append_,zx o,sizeOf,typeInfo,B,Builtin.lenOf,Builtin.firstCells,loadCells,loadCellsFrom]
  ·cases A<;>simp[Builtin.append_,zx o,sizeOf,typeInfo,B,Builtin.lenOf,Builtin.firstCells,loadCells,loadCellsFrom,Q,storeCells]
 ·obtain⟨p,rfl,_,_⟩:=E 0 (Nat.mul_pos (by omega) H);have K:∀j u,((List.range (m*n)).map f)[j]?=some u->w.cell? (p.add j)=some u:=fun j u C=>by
   have y:j<m*n:=by have:=(zj.1 C).1;simpa using this
   obtain⟨R,F,S,_⟩:=E j y;injection F with F;subst F;rw[qD,Wl y]at C;simp at C;rw[S,C]
  have L:∀u∈(List.range (m*n)).map f,u.oneCell'=true:=fun u o=>by obtain⟨k,T,rfl⟩:=qq.1 o;exact(E k (xd.1 T)).choose_spec.2.2
  obtain⟨U,W,N,X,r3,r4,r5⟩:=run_append_own_at (P:=P) w r t ty e i z n b o B G d q D H v k olds a p m c ((List.range (m*n)).map f) (by simp) K L s I l;refine⟨U,W,N,X,r3,r5,?_,fun h=>(J h).elim⟩;exact ti t ty e i z o B G (by omega) v k olds (by rw[d];exact⟨a.1,a.2.imp (fun h=>h) fun⟨g,cap,x,q1,_,q2⟩=>⟨g,cap,x,q1,jb _,q2⟩⟩) p m c ((List.range (m*n)).map f) (by simp[d]) K L s (by rw[q];exact I) N
theorem Ts{t u ty e:TypeId}{i:TypeInfo}(q:P.underlying t=some (.slice e))(hs:P.underlying u=some .string)(r:P.info? e=some i)(A:i.zero=some (.int .u8 0))(b:i.size=1)(d:i.bytes=1)(s:ByteArray) :
  EC P w t u ty e 1 1 s.size (.string s) (Lib.strCells s):=by
 intro x v k olds a f y E;rw[Nat.mul_one]at E;have G:olds.length=k:=by simpa using a.1
 have z:k+s.size<=9223372036854775807:=by simp only[maxLen]at y;omega
 obtain⟨H,I,c,J,K,U⟩:=Lib.run_append_own_string (P:=P) w x t u ty e i q hs r A b d v k olds a s y E f;refine⟨H,I,c,J,K,?_⟩;by_cases j:s.size=0
 ·have l:(Builtin.append_ #[t,u] ty #[v,.string s]).run P w=.ok v w:=by
   have L:Lib.strCells s=[]:=oM (by rw[Lib.strCells_length];exact j);have B:=Lib.run_firstCells_string (P:=P) w 1 s;rw[j,L]at B;rcases a.2 with⟨rfl,_⟩|⟨g,cap,m,rfl,_,_,N,_⟩
   ·simp[Builtin.append_,zx q,zx hs,sizeOf,typeInfo,r,b,Builtin.lenOf,j,B]
   ·simp[Builtin.append_,zx q,zx hs,sizeOf,typeInfo,r,b,Builtin.lenOf,j,B,N,storeCells]
  rw[l]at c;injection c with n o
  subst n;subst o;exact⟨.inl rfl,zk _,fun _=>⟨rfl,rfl⟩⟩
 ·rcases a.2 with⟨rfl,rfl⟩|⟨g,cap,m,rfl,Q,R,S,T,C,D⟩
  ·have l:=run_append_nil_string (P:=P) w t u ty e i (.int .u8 0) q hs r A s (by omega) (by omega) (by rw[d];omega);rw[l]at c;injection c with n o
   subst n;subst o;exact⟨.inr rfl,jS _,fun h=>(j h).elim⟩
  ·have F:m.size=cap:=by simpa using C
   by_cases p:k+s.size<=cap
   ·have l:=Lib.run_append_room_string (P:=P) w t u ty e i q hs r b g k cap m R s p (by omega);rw[l]at c;injection c with n o
    subst n;subst o;exact⟨.inl rfl,zk _,fun h=>(j h).elim⟩
   ·have l:=Lib.run_append_grow_string (P:=P) w t u ty e i (.int .u8 0) q hs r A ⟨g,0,none⟩ k cap olds (by rw[b];omega) (a.cells (g:=g) rfl) s (by omega) (by omega) (growslice_fits (by omega) (by rw[d];omega));rw[l]at c;injection c with n o
    subst n;subst o;exact⟨.inr rfl,jS _,fun h=>(j h).elim⟩
theorem Iz{e:TypeId}(h:GZ P e=true):∃i,P.info? e=some i/\i.zero=some (.int .u8 0)/\i.size=1/\i.bytes=1:=by
 unfold GZ at h;split at h
 ·rename_i i a;split at h
  ·rename_i z b;simp only[zD,yI]at h;obtain⟨⟨rfl,c⟩,d⟩:=h;exact⟨i,a,b,c,d⟩
  ·cases h
 ·cases h
theorem Np{u:TypeId}(h:Tr P u=true):P.underlying u=some .string:=by
 unfold Tr at h;split at h
 ·assumption
 ·cases h
theorem Bb(C:Inv P w S G Y Z){t t' ty:TypeId}{s x y:O}{Y':Hp}{Z':Nat}{u v:Value}(h:jF P Y Z t t' s x=some (y,Y',Z'))(hs:qw w S G Z s u)(hx:qw w S G Z x v) :
  QI dr P w Y Z S G y Y' Z' ((Builtin.append_ #[t,t'] ty #[u,v]).run P w):=by
 unfold jF at h;split at h
 ·rename_i e he;split at h
  ·rename_i n T z h1 h2 h3;split at h
   ·rename_i xs I;obtain⟨i,vz,i1,i2,i3⟩:=W9 h3;have hsz:i.size=n:=by simpa[qY,i1]using h1
    have hby:i.bytes=T:=by simpa[vH,i1]using h2
    have hzl:=(j8 (w:=w) (S:=S) i3).1;have hu:=xi he;have Q:0<n->z.length=n->∃o,EC P w t t' ty e n T xs.length v o/\o.length=xs.length*n/\(∀d∈xs,d.length=n) /\
      ∀(i j:Nat) (d:zb) (q:O),xs[i]?=some d->d[j]?=some q->∃U,o[i*n+j]?=some U/\ke w S G Z true q U:=by
     intro hn hzl';unfold lI at I;split at I
     ·rename_i b;split at I
      ·rename_i hc;injection I with I
       subst I;obtain⟨i',j1,j2,j3,j4⟩:=Iz hc.2;rw[i1]at j1;injection j1 with j1
       subst j1;have hn1:n=1:=by omega
       have hb1:T=1:=by omega
       subst hn1;subst hb1;have hvs:v=.string b:=by
        cases hx with
        |c h=>cases h;rfl
       subst hvs;have hl:(b.data.toList.map fun c=>[O.v (.int .u8 c.toNat)]).length=b.size:=by rw[yj,zR];rfl
       refine⟨Lib.strCells b,by rw[hl];exact Ts hu (Np hc.1) i1 j2 j3 j4 b,by rw[hl,Lib.strCells_length,Nat.mul_one],fun d W=>?_,fun i j d q a r=>?_⟩
       ·obtain⟨x,_,rfl⟩:=qq.1 W;rfl
       ·rw[qD]at a;obtain⟨x,hx1,rfl⟩:=eo.1 a;obtain rfl:j=0:=by have:=(zj.1 r).1;simpa using this
        simp only[List.getElem?_cons_zero,zY]at r;subst r;refine⟨.int .u8 x.toNat,?_,fun _=>.v rfl,.c (.v rfl),rfl⟩;unfold Lib.strCells;rw[qD,Nat.mul_one,Zi,hx1];rfl
      ·cases I
     ·split at I
      ·rename_i he';subst he';obtain⟨A,c,f,rfl,K,f2⟩:=bu C I hx;have hzc:vz.cells.size=n:=by rw[<-hzl',hzl];simp
       refine⟨(List.range (xs.length*n)).map f,Iy hu i1 i2 hsz hby hzc hn (rl hn K f2),by simp,K,fun i j d q a r=>?_⟩;obtain⟨ad',a1,a2,a3⟩:=f2 i j d q a r;have B:j<n:=by rw[<-K d (zT a)];exact(zj.1 r).1
       have E:i<xs.length:=(zj.1 a).1;have F:=xo (n:=xs.length) E B;exact⟨f (i*n+j),by rw[qD,Wl F];rfl,a3⟩
      ·cases I
    split at h
    ·split at h
     ·rename_i hc;obtain⟨c1,c2,c3,c4⟩:=hc;have:=hs.ZV;subst this;obtain⟨o,hA,_,K,f2⟩:=Q c1 c2;split at h
      ·rename_i hm;injection h with h
       injection h with ey h;injection h with eh en;subst ey;subst eh;subst en;obtain⟨v',w',r1,_,_,_,_,r6⟩:=hA w.heap.size (.slice none 0 0) 0 [] (World.ownsRow_nil w _ e n) (zk _) (by simpa using c3) (by simpa using c4);obtain⟨rfl,rfl⟩:=r6 hm;exact qF (v:=.slice none 0 0) C r1 (.c .nil)
      ·rename_i hm;injection h with h
       injection h with ey h;injection h with eh en;subst ey;subst eh;subst en;obtain⟨v',w',r1,r2,D,r5,rd,_⟩:=hA w.heap.size (.slice none 0 0) 0 [] (World.ownsRow_nil w _ e n) (zk _) (by simpa using c3) (by simpa using c4);simp only[zh,xE]at r2;rcases r2.2 with⟨e1,e2⟩|⟨g,cap,m,rfl,e2,e3,e4,e5,e6,e7⟩
       ·exact(hm e2).elim
       ·have hg:g=w.heap.size:=by rcases r5 with h5|h5<;>simp[Value.ownBlock]at h5;exact h5
        subst hg;have k:=kN.SA (dr:=dr) (Y1:=Y) C (fun _ _ h=>h) ⟨w.heap.size,m.size,n⟩ e true xs m D.os D.tape D.output D.size rd (fun _=>False) (fun _ h=>h.elim) (fun b J X _=>D.block b J (by simp[Value.ownBlock])) (fun id b J=>Nat.ne_of_lt (C.live id b J).lt)
         (fun hS=>by have:=C.st _ hS;simp at this) (.inr (zk _)) c1 (by simpa[qY]using h1) K (by rw[e6];exact z7 _ e4) e3 rfl (fun i' j d q a r=>by
          obtain⟨U,a1,a3⟩:=f2 i' j d q a r;have B:j<n:=by rw[<-K d (zT a)];exact(zj.1 r).1
          have E:i'<xs.length:=(zj.1 a).1;have F:=xo (n:=xs.length) E B;refine⟨U,?_,a3⟩;have h7:(m.toList.take (xs.length*n))[i'*n+j]?=some U:=by rw[e7];exact a1
          rw[zX,zg F]at h7;simpa using h7)
        refine⟨_,_,_,_,r1,k,?_⟩;have:=qw.own (w:=w') (S:=S) (G:=qf G Z ⟨w.heap.size,m.size,n⟩) (Z:=Z+1) (id:=Z) (off:=0) (n:=xs.length) (cap:=cap) (by omega) e4 e5 (by simp[e6]) (by simpa using c1);simpa using this
     ·cases h
    ·rename_i id k;split at h
     ·rename_i b J;split at h
      ·rename_i hc;obtain⟨c0,c1,c2,c3,c4,c5,c6⟩:=hc;injection h with h
       injection h with ey h;injection h with eh en;subst ey;subst eh;subst en;have L:=hs.ZW;obtain⟨cap,g1,g2,g3,g4,rfl⟩:=hs.Zk;have hzc:vz.cells.size=n:=by rw[<-c4,hzl];simp
       have H:=C.live id b J;obtain⟨m,q1,q2,q3⟩:=H.row L;have N:(G id).s=n:=by
        have h5:=H.size L;rw[c1]at h5;have h6:(P.info? e).map (·.size)=some n:=by simpa[qY]using h1
        rw[h6]at h5;injection h5 with h5
        exact h5.symm
       have hg0:(⟨(G id).g,0*(G id).s,none⟩:Addr)=⟨(G id).g,0,none⟩:=by simp
       rw[hg0];have hcz:m.size=cap*n:=by rw[q2,<-g4,N];simp
       have R:w.ownsRow 0 e n (.slice (some ⟨(G id).g,0,none⟩) k cap) k (m.toList.take (k*n)):=by refine⟨?_,.inr ⟨(G id).g,cap,m,rfl,jb _,by rw[<-c1];exact q1,g2,g3,hcz,rfl⟩⟩;simp only[yu,zR,hcz];exact zcf (z7 _ g2)
       have hsub:∀id' p,qf Y id none id'=some p->Y id'=some p:=fun id' p h=>vI h
       have hnl:∀id' p,qf Y id none id'=some p->(G id').g≠(G id).g:=fun id' p h he=>by
        have X:id'≠id:=by rintro rfl;simp at h
        exact X (C.inj id' id p b (vI h) J he)
       obtain⟨o,hA,_,K,f2⟩:=Q c3 c4;obtain⟨v',w',r1,r2,D,r5,rd,_⟩:=hA 0 _ k _ R (jb _) c5 c6;simp only[Value.ownBlock]at D r5;rcases r2.2 with⟨e1,e2⟩|⟨g,cap',l,rfl,e2,e3,e4,e5,e6,e7⟩
       ·subst e1;simp[Value.ownBlock]at r5
       ·have hg:g=(G id).g\/g=w.heap.size:=by simpa[Value.ownBlock]using r5
        have hgl:=H.lt;have hrow:∀(i' j:Nat) (d:zb) (q:O),(b.es++xs)[i']?=some d->d[j]?=some q->∃u,l[i'*n+j]?=some u/\ke w S G Z true q u:=by
         intro i' j d q a r;have hcl:d.length=n:=by
          rcases qO.1 (zT a)with h|h
          ·rw[<-N];exact H.len L d h
          ·exact K d h
         have B:j<n:=by rw[<-hcl];exact(zj.1 r).1
         have E:i'<k+xs.length:=by have:=(zj.1 a).1;simp at this;omega
         have F:=xo (n:=k+xs.length) E B;have h7:(l.toList.take ((k+xs.length)*n))[i'*n+j]?=l[i'*n+j]?:=by rw[zX,zg F];simp
         rw[<-h7,e7];have hkl:(m.toList.take (k*n)).length=k*n:=R.1;by_cases hik:i'<k
         ·have hlt':=xo (n:=k) hik B;rw[qC (by rw[c2]at hik;exact hik)]at a;rw[qC (by omega),zX,zg hlt'];obtain⟨U,u1,u2⟩:=q3 i' j d q a r;rw[N]at u1;rw[c0]at u2;exact⟨U,by simpa using u1,u2⟩
         ·rw[qo (by omega),<-c2]at a;have hge:k*n<=i'*n:=z7 _ (by omega);rw[qo (by omega),hkl];have hkk:i'*n+j-k*n=(i'-k)*n+j:=by rw[Nat.sub_mul];omega
          rw[hkk];exact f2 (i'-k) j d q a r
        have k2:=kN.SA (dr:=dr) (Y1:=qf Y id none) C hsub ⟨g,l.size,n⟩ e true (b.es++xs) l D.os D.tape D.output D.size rd
         (fun p=>p=(G id).g) (fun p hb'=>by subst hb';exact⟨⟨id,b,J,rfl⟩,C.apart id b J,hnl⟩)
         (fun p hb' X hbg=>D.block p hb' (by simpa using hbg))
         (fun id' p h=>by
          rcases hg with h'|h'
          ·simp only[h'];exact hnl id' p h
          ·simp only[h'];exact Nat.ne_of_lt (C.live id' p (vI h)).lt)
         (by
          rcases hg with h'|h'
          ·simp only[h'];exact C.apart id b J
          ·simp only[h'];intro hS;have:=C.st _ hS;simp at this)
         (by
          rcases hg with h'|h'
          ·simp only[h'];exact .inl ⟨id,b,J,rfl⟩
          ·simp only[h'];exact .inr (zk _))
         c3 (by simpa[qY]using h1)
         (fun d W=>by
          rcases qO.1 W with h|h
          ·simp only[<-N];exact H.len L d h
          ·exact K d h)
         (by rw[w7,<-c2,e6];exact z7 _ e4) e3 rfl hrow
        refine⟨_,_,_,_,r1,k2,?_⟩;have:=qw.own (w:=w') (S:=S) (G:=qf G Z ⟨g,l.size,n⟩) (Z:=Z+1) (id:=Z) (off:=0) (n:=k+xs.length) (cap:=cap') (by omega) e4 e5 (by simp[e6]) (by simpa using c3);simpa using this
      ·cases h
     ·cases h
    ·cases h
   ·cases h
  ·cases h
 ·cases h
end
variable{dr:Prop}
section
variable{P:Program}{w:World}{S:Nat->Prop}{G:Nat->GI}{Y:Hp}{Z:Nat}
theorem kN.allocMap(h:Inv P w S G Y Z)(t:TypeId):kN dr P Y Z S G w (qf Y Z (some ⟨t,0,false,[]⟩)) (Z+1) S (qf G Z ⟨w.heap.size,0,0⟩) (w.alloc (.map #[] 0)):=by
 have j:∀b,b<w.heap.size->(w.alloc (.map #[] 0)).heap[b]?=w.heap[b]?:=fun b a=>Below.heap_alloc w _ b a
 have r:∀b,S b->S b/\(w.alloc (.map #[] 0)).heap[b]?=w.heap[b]?:=fun b a=>⟨a,j b (h.st b a)⟩
 have n:∀id,id<Z->qf G Z ⟨w.heap.size,0,0⟩ id=G id:=fun id hid=>zc _ _ _ _ (by omega)
 have d:∀id,id≠Z->qf Y Z (some (⟨t,0,false,[]⟩:Blk)) id=Y id:=fun id hid=>zc _ _ _ _ hid
 have l:(w.alloc (.map #[] 0)).heap.size=w.heap.size+1:=by show(w.heap.push _).size=_;simp
 have o:∀id b,Y id=some b->(G id).g<w.heap.size:=fun id b a=>(h.live id b a).lt
 refine⟨⟨fun b a=>by rw[l];have:=h.st b a;omega,fun id b a=>?_,fun id b a=>?_,fun id b a=>?_,fun id id' b q a f p=>?_,h.eC.mono r⟩,by omega,n,fun _ a=>a,fun _ a=>.inl a,fun id b a=>?_,⟨rfl,rfl,rfl,by rw[l];omega,fun _=>zk _,fun k s _=>j k s⟩⟩
 ·by_cases hid:id=Z
  ·omega
  ·rw[d id hid]at a;have:=h.top id b a;omega
 ·by_cases hid:id=Z
  ·subst hid;simp only[wR]at a⊢;injection a with a
   subst a;exact⟨rfl,fun u=>absurd u (by simp),fun _=>⟨⟨#[],0,heap_alloc_new w _,rfl,fun i c e v _=>by simp at v⟩,#[],0,heap_alloc_new w _,by simp[Stamped]⟩⟩
  ·rw[d id hid]at a;have x:=h.top id b a;rw[n id x];exact(h.live id b a).mono r (by omega) n (j _ (o id b a))
 ·by_cases hid:id=Z
  ·subst hid;simp only[wR];intro hs;have:=h.st _ hs;omega
  ·rw[d id hid]at a;rw[n id (h.top id b a)];exact h.apart id b a
 ·by_cases hid:id=Z<;>by_cases m:id'=Z
  ·omega
  ·subst hid;rw[d id' m]at f;rw[n id' (h.top id' q f)]at p;have:=o id' q f;simp at p;omega
  ·subst m;rw[d id hid]at a;rw[n id (h.top id b a)]at p;have:=o id b a;simp at p;omega
  ·rw[d id hid]at a;rw[d id' m]at f;rw[n id (h.top id b a),n id' (h.top id' q f)]at p;exact h.inj id id' b q a f p
 ·by_cases hid:id=Z
  ·subst hid;simp
  ·rw[d id hid]at a;rw[n id (h.top id b a)];exact .inl ⟨id,b,a,rfl⟩
theorem Stamped.push{en:Array MapEntry}{c:Nat}(h:Stamped en c)(v z:Value):Stamped (en.push {key:=v,val:=z,born:=c}) (c+1):=by
 obtain⟨e,f⟩:=h;refine⟨fun x d=>?_,?_⟩
 ·simp only[Array.toList_push,qO,wA]at d;rcases d with d|rfl
  ·exact Nat.lt_succ_of_lt (e x d)
  ·exact Nat.lt_succ_self _
 ·rw[Array.toList_push,kq,List.nodup_append];refine⟨f,by simp,fun a g b i=>?_⟩;obtain⟨x,d,rfl⟩:=qq.1 g;simp only[wK,QE,wA]at i;have:=e x d;omega
theorem Stamped.modify{en:Array MapEntry}{clock:Nat}(h:Stamped en clock)(i:Nat)(v z:Value):Stamped (en.modify i fun e=>{e with key:=v,val:=z}) clock:=by
 have a:((en.modify i fun e=>{e with key:=v,val:=z}).toList.map (·.born))=en.toList.map (·.born):=by
  apply List.ext_getElem?;intro j;simp only[qD,Array.getElem?_toList,ZT];split
  ·cases en[j]?<;>rfl
  ·rfl
 refine⟨fun x b=>?_,by rw[a];exact h.2⟩;have:x.born∈en.toList.map (·.born):=by rw[<-a];exact qq.2 ⟨x,b,rfl⟩
 obtain⟨y,c,e⟩:=qq.1 this;have:=h.1 y c;omega
theorem kN.SB(h:Inv P w S G Y Z){id:Nat}{b:Blk}(hid:Y id=some b)(q:(G id).s=0)(en:Array MapEntry)(a:Nat)(es:List zb)(r:Stamped en a)(A:en.size=es.length)
  (n:∀(i:Nat) (c:zb) (e:MapEntry),es[i]?=some c->en[i]?=some e->eE w S c e) :
  kN dr P Y Z S G w (qf Y id (some ⟨b.e,b.s,b.arr,es⟩)) Z S G {w with heap:=w.heap.setIfInBounds (G id).g (.map en a)}:=by
 obtain⟨B,p,o,_⟩:=((h.live id b hid).ent q).row;have l:=MapKept.heap_set (o':=Obj.map en a) o;have j:∀k,k≠(G id).g->(w.heap.setIfInBounds (G id).g (.map en a))[k]?=w.heap[k]?:=l.2;have t:∀b,S b->S b/\(w.heap.setIfInBounds (G id).g (.map en a))[b]?=w.heap[b]?:=fun k f=>⟨f,j k fun e=>h.apart id b hid (e ▸ f)⟩
 have m:∀k,k≠id->qf Y id (some (⟨b.e,b.s,b.arr,es⟩:Blk)) k=Y k:=fun k f=>zc _ _ _ _ f
 refine⟨⟨fun k f=>by show k<(w.heap.setIfInBounds _ _).size;simpa using h.st k f,fun k c f=>?_,fun k c f=>?_,fun k c f=>?_,fun k k' c u f v x=>?_,h.eC.mono t⟩,zk _,fun _ _=>rfl,fun _ y=>y,fun _ y=>.inl y,fun k c f=>?_,⟨rfl,rfl,rfl,by simp,fun _=>zk _,fun k _ C=>j k fun e=>C ⟨id,b,hid,e.symm⟩⟩⟩
 ·by_cases d:k=id
  ·subst d;exact h.top _ b hid
  ·rw[m k d]at f;exact h.top k c f
 ·by_cases d:k=id
  ·subst d;simp only[wR]at f;injection f with f
   subst f;refine⟨(h.live _ b hid).bs,fun R=>by omega,fun _=>⟨⟨en,a,l.1,A,fun i c e D x=>?_⟩,en,a,l.1,r⟩⟩;obtain⟨k',E,F,H,I,J⟩:=n i c e D x;exact⟨k',E,F,H,I,J.mono t⟩
  ·rw[m k d]at f;exact(h.live k c f).mono t (zk _) (fun _ _=>rfl) (j _ fun e=>d (h.inj k id c b f hid e))
 ·by_cases d:k=id
  ·subst d;exact h.apart _ b hid
  ·rw[m k d]at f;exact h.apart k c f
 ·have z:∀k c,qf Y id (some (⟨b.e,b.s,b.arr,es⟩:Blk)) k=some c->∃u,Y k=some u:=by
   intro k c f;by_cases d:k=id
   ·subst d;exact⟨b,hid⟩
   ·rw[m k d]at f;exact⟨c,f⟩
  obtain⟨K,L⟩:=z k c f;obtain⟨N,Q⟩:=z k' u v;exact h.inj k k' K N L Q x
 ·by_cases d:k=id
  ·subst d;exact .inl ⟨_,b,hid,rfl⟩
  ·rw[m k d]at f;exact .inl ⟨k,c,f,rfl⟩
theorem tj(a:Inv P w S G Y Z)(t:TypeId):QI dr P w Y Z S G (.mp Z) (qf Y Z (some ⟨t,0,false,[]⟩)) (Z+1) ((Instr.makeMap t none).run P w):=by refine⟨.map (some w.heap.size),w.alloc (.map #[] 0),S,qf G Z ⟨w.heap.size,0,0⟩,by simp[Instr.makeMap],kN.allocMap a t,?_⟩;have:=qw.mp (w:=w.alloc (.map #[] 0)) (S:=S) (G:=qf G Z ⟨w.heap.size,0,0⟩) (Z:=Z+1) (id:=Z) (by omega) (by simp);simpa using this
theorem lP{t:TypeId}{f:Option IntKind}{g:TypeId}(h:cz P t=some (f,g)):∃a d,P.underlying t=some (.map a g)/\P.underlying a=some d/\(∀k,cA f k=true->MapKept.IsKey d k)/\(d=.string\/∃i,d=.int i):=by
 unfold cz at h;split at h
 ·rename_i a l j;split at h
  ·rename_i i b;injection h with h
   injection h with c e;subst c;subst e;exact⟨a,.int i,j,b,fun k b=>by cases k<;>simp_all[cA,MapKept.IsKey],.inr ⟨i,rfl⟩⟩
  ·rename_i b;injection h with h
   injection h with c e;subst c;subst e;exact⟨a,.string,j,b,fun k b=>by cases k<;>simp_all[cA,MapKept.IsKey],.inl rfl⟩
  ·cases h
 ·cases h
theorem gg{d:TypeDesc}{a b:Value}{r:Bool}(hd:d=.string\/∃i,d=.int i)(c:MapKept.IsKey d a)(h:W6 a b=some r):Instr.sameNow d a b=some r:=by
 unfold W6 at h;split at h
 ·rename_i k x k' y;rcases hd with rfl|⟨i,rfl⟩
  ·simp[MapKept.IsKey]at c
  ·split at h
   ·rename_i e;simpa[Instr.sameNow,e]using h
   ·cases h
 ·rename_i x y;rcases hd with rfl|⟨i,rfl⟩
  ·injection h with h;simp only[Instr.sameNow,zY];rw[<-h,q6,MapKept.bytes_beq,yI];exact⟨fun e=>by rw[e],fun e=>by obtain⟨x⟩:=x;obtain⟨y⟩:=y;congr 1;exact(by rw[Ie,Ie]at e;exact Sv.1 e)⟩
  ·simp[MapKept.IsKey]at c
 ·cases h
theorem J1{d:TypeDesc}{k:Value}(hd:d=.string\/∃i,d=.int i)(b:MapKept.IsKey d k):∀{es:List zb} {en:List MapEntry} {i:Nat} {r:Option (Nat×O)},es.length=en.length->(∀(j:Nat) (c:zb) (e:MapEntry),es[j]?=some c->en[j]?=some e->eE w S c e)->JZ k es i=some r ->
  (r=none/\Instr.findNow d k en i=some none)\/∃j v e,r=some (i+j,v)/\Instr.findNow d k en i=some (some (i+j,e.val))/\en[j]?=some e/\wT w S v e.val/\W6 k e.key=some true/\j<es.length
 |[],[],i,r,_,_,h=>by
  simp only[JZ]at h;injection h with h
  exact .inl ⟨h.symm,rfl⟩
 |[],e::en,_,_,a,_,_=>by simp at a
 |c::es,[],_,_,a,_,_=>by simp at a
 |c::es,e::en,i,r,a,l,h=>by
  obtain⟨k',v,rfl,n,_,o⟩:=l 0 c e rfl rfl;simp only[JZ]at h;subst n;split at h
  ·rename_i hs;injection h with h
   subst h;refine .inr ⟨0,v,e,rfl,?_,rfl,o,hs,by simp⟩;simp[Instr.findNow,gg hd b hs]
  ·rename_i hs;have m:=gg hd b hs;rcases J1 hd b (es:=es) (en:=en) (i:=i+1) (r:=r) (by simpa using a) (fun j c e p q=>l (j+1) c e (by simpa using p) (by simpa using q)) h with⟨f,g⟩|⟨j,s,t,f,g,u,x,y,z⟩
   ·exact .inl ⟨f,by simp[Instr.findNow,m,g]⟩
   ·refine .inr ⟨j+1,s,t,by rw[f];congr 2;omega,?_,by simpa using u,x,y,by simp;omega⟩;simp only[Instr.findNow,m,g];congr 3;omega
  ·cases h
theorem rm{t:TypeId}{z:O}(h:cB P t=some z):∃v,(zeroValue t).run P w=.ok v w/\wT w S z v:=by
 unfold cB at h;cases a:P.info? t with
 |none=>rw[a]at h;cases h
 |some i=>
  rw[a]at h;simp only[zW]at h;cases b:i.zero with
  |none=>rw[b]at h;cases h
  |some v=>rw[b]at h;exact⟨v,Q9 a b w,gd h⟩
theorem Nq(f:Inv P w S G Y Z){x:O}{u:Value}{es:List zb}(h:A8 Y x=some es)(d:qw w S G Z x u) :
  (u=.map none/\es=[])\/∃r en a,u=.map (some r)/\w.heap[r]?=some (.map en a)/\en.size=es.length/\∀(i:Nat) (c:zb) (e:MapEntry),es[i]?=some c->en[i]?=some e->eE w S c e:=by
 unfold A8 at h;split at h
 ·rename_i id;obtain⟨n,g,rfl⟩:=d.Sz;split at h
  ·rename_i b j;split at h
   ·injection h with h;subst h;obtain⟨en,a,k,l,m⟩:=((f.live id b j).ent g).row;exact .inr ⟨_,en,a,rfl,k,l,m⟩
   ·cases h
  ·cases h
 ·injection h with h;obtain⟨rfl,_⟩:=d.yn;exact .inl ⟨rfl,h.symm⟩
 ·cases h
theorem Bc(o:Inv P w S G Y Z){t:TypeId}{p q x:O}{u v:Value}{s:Bool}(h:Jj P Y t p q s=some x)(Y':qw w S G Z p u)(hq:qw w S G Z q v):QI dr P w Y Z S G x Y Z ((Instr.lookup t u v s).run P w):=by
 unfold Jj at h;split at h
 ·rename_i kk E es k H I;obtain⟨kt,d,A,g,J,hd⟩:=lP H;obtain⟨rfl,_⟩:=hq.yn;split at h
  ·rename_i hc;have f:=J v hc;rcases Nq o I Y' with⟨rfl,rfl⟩|⟨r,en,K,rfl,F,X,g3⟩
   ·simp only[JZ]at h;obtain⟨z,L,m⟩:∃z,cB P E=some z/\(if s=true then O.wL [z,.v (.bool false)]else z)=x:=by
     cases B:cB P E with
     |none=>rw[B]at h;cases h
     |some z=>rw[B]at h;injection h with h;exact⟨z,rfl,h⟩
    obtain⟨C,l,n⟩:=rm (w:=w) (S:=S) L;have D:Instr.findNow d v [] 0=some none:=rfl;cases s with
    |true=>
     simp only[zK]at m;subst m;refine qF (v:=.tuple #[C,.bool false]) o ?_ (.c (.wL rfl fun j N y a b=>?_))
     ·simp[Instr.lookup,zx A,xV g f,ZJ g D,l,Result.andThen]
     ·match j,a,b with
      | 0,a,b=>simp at a b;subst a;subst b;exact n
      | 1,a,b=>simp at a b;subst a;subst b;exact .v rfl
      |j+2,a,b=>simp at a
    |false=>simp only[zm,zQ]at m;subst m;refine qF (v:=C) o ?_ (.c n);simp[Instr.lookup,zx A,xV g f,ZJ g D,l,Result.andThen]
   ·split at h
    ·rename_i i N Q;rcases J1 hd f (en:=en.toList) (by simpa using X.symm) (fun j c e R T=>g3 j c e R (by simpa using T)) Q with⟨U,_⟩|⟨j,y,e,l,n,e3,e4,e5,e6⟩
     ·cases U
     ·injection l with l;injection l with l W;subst W;injection h with h;cases s with
      |true=>
       simp only[zK]at h;subst h;refine qF (v:=.tuple #[e.val,.bool true]) o ?_ (.c (.wL rfl fun j N y a b=>?_))
       ·simp[Instr.lookup,zx A,JU F,xV g f,ZJ g n,Result.andThen]
       ·match j,a,b with
        | 0,a,b=>simp at a b;subst a;subst b;exact e4
        | 1,a,b=>simp at a b;subst a;subst b;exact .v rfl
        |j+2,a,b=>simp at a
      |false=>simp only[zm,zQ]at h;subst h;refine qF (v:=e.val) o ?_ (.c e4);simp[Instr.lookup,zx A,JU F,xV g f,ZJ g n,Result.andThen]
    ·rename_i Q;obtain⟨z,L,m⟩:∃z,cB P E=some z/\(if s=true then O.wL [z,.v (.bool false)]else z)=x:=by
      cases B:cB P E with
      |none=>rw[B]at h;cases h
      |some z=>rw[B]at h;injection h with h;exact⟨z,rfl,h⟩
     obtain⟨C,l,n⟩:=rm (w:=w) (S:=S) L;rcases J1 hd f (en:=en.toList) (by simpa using X.symm) (fun j c e R T=>g3 j c e R (by simpa using T)) Q with⟨_,D⟩|⟨j,y,e,U,_⟩
     ·cases s with
      |true=>
       simp only[zK]at m;subst m;refine qF (v:=.tuple #[C,.bool false]) o ?_ (.c (.wL rfl fun j N y a b=>?_))
       ·simp[Instr.lookup,zx A,JU F,xV g f,ZJ g D,l,Result.andThen]
       ·match j,a,b with
        | 0,a,b=>simp at a b;subst a;subst b;exact n
        | 1,a,b=>simp at a b;subst a;subst b;exact .v rfl
        |j+2,a,b=>simp at a
      |false=>simp only[zm,zQ]at m;subst m;refine qF (v:=C) o ?_ (.c n);simp[Instr.lookup,zx A,JU F,xV g f,ZJ g D,l,Result.andThen]
     ·cases U
    ·cases h
  ·cases h
 ·cases h
theorem ED{a b:Value}(h:W6 a b=some true):b=a:=by
 unfold W6 at h;split at h
 ·rename_i k x k' y;split at h
  ·rename_i e;subst e;injection h with h
   rw[yI]at h;rw[h]
  ·cases h
 ·rename_i x y;injection h with h
  rw[yI]at h;obtain⟨x⟩:=x;obtain⟨y⟩:=y;congr 2
  (rw[Ie,Ie]at h;exact Sv.1 h.symm)
 ·cases h
theorem gh(hi:Inv P w S G Y Z){t:TypeId}{p q y:O}{Y':Hp}{u v z:Value}(h:Qj P Y t p q y=some Y')(hu:qw w S G Z p u)(hq:qw w S G Z q v)(hy:qw w S G Z y z) :
  ∃w' S' G',(Instr.mapUpdate t u v z).run P w=.ok () w'/\kN dr P Y Z S G w Y' Z S' G' w':=by
 unfold Qj at h;split at h
 ·rename_i kk et id k L;obtain⟨kt,d,s,D,N,hd⟩:=lP L;obtain⟨rfl,m⟩:=hq.yn;obtain⟨m1,E,rfl⟩:=hu.Sz;split at h
  ·rename_i hc;have g:=N v hc;split at h
   ·rename_i F Y1 hf;obtain⟨S1,r,hr,_,_⟩:=kU hi hf hy;split at h
    ·rename_i b H;split at h
     ·obtain⟨en,clock,A,I,J⟩:=((r.inv.live id b H).ent E).row;have B:Stamped en clock:=by
       obtain⟨Q,l,q1,q2⟩:=((r.inv.live id b H).ent E).zcg;rw[A]at q1;obtain⟨rfl,rfl⟩:en=Q/\clock=l:=by simpa using q1
       exact q2
      split at h
      ·rename_i i pv n;injection h with h
       subst h;rcases J1 hd g (en:=en.toList) (by simpa using I.symm) (fun j c e R T=>J j c e R (by simpa using T)) n with⟨U,_⟩|⟨j,x,e,K,e2,e3,e4,e5,e6⟩
       ·cases U
       ·injection K with K;injection K with K e1';have W:i=j:=by omega
        subst W;have C:en[i]?=some e:=by simpa using e3
        have X:e.key=v:=ED e5;have k2:=kN.SB (dr:=dr) r.inv H E (en.modify i fun e=>{e with key:=v,val:=z}) clock (b.es.set i [.v v,F]) (B.modify i v z) (by simpa using I) (fun i' c e' f a=>by
         rw[ZT]at a;by_cases o:i=i'
         ·subst o;rw[zg rfl,C]at a;rw[zbj e6]at f;injection f with f
          simp only[zE,zY]at a;subst a;subst f;exact⟨v,F,rfl,rfl,m,hr⟩
         ·rw[zf o]at a;rw[oN o]at f;exact J i' c e' f a)
        refine⟨_,S1,G,?_,r.trans k2⟩;simp[Instr.mapUpdate,zx s,JU A,xV D g,ZJ D e2,C,X,MapKept.run_keyThatStays g,MapKept.run_setObj_map _ A,Result.andThen]
      ·rename_i n;injection h with h
       subst h;rcases J1 hd g (en:=en.toList) (by simpa using I.symm) (fun j c e R T=>J j c e R (by simpa using T)) n with⟨_,hn⟩|⟨j,x,e,U,_⟩
       ·have k2:=kN.SB (dr:=dr) r.inv H E (en.push {key:=v,val:=z,born:=clock}) (clock+1) (b.es++[[.v v,F]]) (B.push v z) (by simp[I]) (fun i' c e' f a=>by
         rw[Array.getElem?_push]at a;split at a
         ·rename_i hil;injection a with a
          subst a;rw[qo (by omega)]at f;have:i'-b.es.length=0:=by omega
          rw[this]at f;simp at f;exact⟨v,F,f.symm,rfl,m,hr⟩
         ·rename_i hil;have hlt:i'<en.size:=(z6.1 a).1;rw[qC (by omega)]at f;exact J i' c e' f a)
        refine⟨_,S1,G,?_,r.trans k2⟩;simp[Instr.mapUpdate,zx s,JU A,xV D g,ZJ D hn,MapKept.run_setObj_map _ A,Result.andThen]
       ·cases U
      ·cases h
     ·cases h
    ·cases h
   ·cases h
  ·cases h
 ·cases h
end
variable{dr:Prop}
section
variable{P:Program}{w:World}{S:Nat->Prop}{G:Nat->GI}{Y:Hp}{Z:Nat}
theorem Nr(b:Inv P w S G Y Z){t ty:TypeId}{p x:O}{u:Value}(h:JF P t p=some x)(d:qw w S G Z p u):QI dr P w Y Z S G x Y Z ((Builtin.len_ #[t] ty #[u]).run P w):=by
 have sl:∀{A:Option Addr} {n c:Nat} {e:TypeId},y2 P t=some e->(Builtin.len_ #[t] ty #[.slice A n c]).run P w=.ok (.int .i64 n) w:=fun a=>by simp[Builtin.len_,zx (xi a),goInt]
 unfold JF at h;split at h
 ·obtain⟨rfl,_⟩:=d.yn;split at h
  ·rename_i f;injection h with h
   subst h;exact qF (v:=_) b (by simp[Builtin.len_,zx f,goInt]) (xp _ rfl)
  ·cases h
 ·cases a:y2 P t with
  |none=>simp[a]at h
  |some e=>simp[a]at h;subst h;obtain⟨rfl,_⟩:=d.yn;exact qF (v:=_) b (sl a) (xp _ rfl)
 ·cases a:y2 P t with
  |none=>simp[a]at h
  |some e=>
   simp[a]at h;subst h;cases d.cu with
   |sl us g i j k l m=>exact qF (v:=_) b (sl a) (xp _ rfl)
 ·cases a:y2 P t with
  |none=>simp[a]at h
  |some e=>simp[a]at h;subst h;have:=d.ZV;subst this;exact qF (v:=_) b (sl a) (xp _ rfl)
 ·cases a:y2 P t with
  |none=>simp[a]at h
  |some e=>simp[a]at h;subst h;obtain⟨o,cap,rfl,_⟩:=d.oP;exact qF (v:=_) b (sl a) (xp _ rfl)
 ·cases a:y2 P t with
  |none=>simp[a]at h
  |some e=>simp[a]at h;subst h;obtain⟨cap,_,_,_,_,rfl⟩:=d.Zk;exact qF (v:=_) b (sl a) (xp _ rfl)
 ·cases h
theorem gj{k:IntKind}:∀{l:zb} {x:Int} {r:O} {us:List Value},XY k x l=some r->Zip (qw w S G Z) l us->∃n,r=.v (.int k n)/\(us.foldlM Builtin.min2 (.int k x)).run P w=.ok (.int k n) w
 |[],x,r,us,h,a=>by
  simp only[XY]at h;injection h with h
  subst h;rw[a.Y8];exact⟨x,rfl,by simp⟩
 |p::l,x,r,us,h,a=>by
  obtain⟨u,c,rfl,d,b⟩:=a.jX;unfold XY at h;split at h
  ·cases ‹p::l=[]›
  ·rename_i k' y l' e;injection e with f g
   subst f;subst g;split at h
   ·rename_i i;subst i;obtain⟨rfl,_⟩:=d.yn;obtain⟨n,rfl,j⟩:=gj h b;exact⟨n,rfl,by simp only[List.foldlM_cons,vO,Builtin.min2,WI,kx];exact j⟩
   ·cases h
  ·cases h
theorem gn{k:IntKind}:∀{l:zb} {x:Int} {r:O} {us:List Value},XZ k x l=some r->Zip (qw w S G Z) l us->∃n,r=.v (.int k n)/\(us.foldlM Builtin.max2 (.int k x)).run P w=.ok (.int k n) w
 |[],x,r,us,h,a=>by
  simp only[XZ]at h;injection h with h
  subst h;rw[a.Y8];exact⟨x,rfl,by simp⟩
 |p::l,x,r,us,h,a=>by
  obtain⟨u,c,rfl,d,b⟩:=a.jX;unfold XZ at h;split at h
  ·cases ‹p::l=[]›
  ·rename_i k' y l' e;injection e with f g
   subst f;subst g;split at h
   ·rename_i i;subst i;obtain⟨rfl,_⟩:=d.yn;obtain⟨n,rfl,j⟩:=gn h b;exact⟨n,rfl,by simp only[List.foldlM_cons,vO,Builtin.max2,WI,kx];exact j⟩
   ·cases h
  ·cases h
theorem Ns(c:Inv P w S G Y Z){ts:Array TypeId}{ty:TypeId}{xs:zb}{x:O}{us:Array Value}(h:Nf xs=some x)(d:Zip (qw w S G Z) xs us.toList):QI dr P w Y Z S G x Y Z ((Builtin.min_ ts ty us).run P w):=by
 unfold Nf at h;split at h
 ·rename_i k y l;obtain⟨u,e,a,f,b⟩:=d.jX;obtain⟨rfl,_⟩:=f.yn;obtain⟨n,rfl,g⟩:=gj (P:=P) h b;exact qF (v:=_) c (by simp only[Builtin.min_,a];exact g) (xp _ rfl)
 ·cases h
theorem Nt(c:Inv P w S G Y Z){ts:Array TypeId}{ty:TypeId}{xs:zb}{x:O}{us:Array Value}(h:Ng xs=some x)(d:Zip (qw w S G Z) xs us.toList):QI dr P w Y Z S G x Y Z ((Builtin.max_ ts ty us).run P w):=by
 unfold Ng at h;split at h
 ·rename_i k y l;obtain⟨u,e,a,f,b⟩:=d.jX;obtain⟨rfl,_⟩:=f.yn;obtain⟨n,rfl,g⟩:=gn (P:=P) h b;exact qF (v:=_) c (by simp only[Builtin.max_,a];exact g) (xp _ rfl)
 ·cases h
theorem rn:∀(l:List Value) (k off:Nat) (a:Array Value),off+k+l.length<=a.size ->
  ((l.zipIdx k).foldl (fun(cs:Array Value) (p:Value×Nat)=>cs.setIfInBounds (off+p.2) p.1) a).size=a.size /\
  ∀i:Nat,((l.zipIdx k).foldl (fun(cs:Array Value) (p:Value×Nat)=>cs.setIfInBounds (off+p.2) p.1) a)[i]?=if off+k<=i/\i<off+k+l.length then l[i-(off+k)]? else a[i]?
 |[],k,off,a,h=>by simp;omega
 |x::l,k,off,a,h=>by
  simp only[zd]at h;obtain⟨c,e⟩:=rn l (k+1) off (a.setIfInBounds (off+k) x) (by simp;omega);simp only[List.zipIdx_cons,ju];refine⟨by rw[c];simp,fun i=>?_⟩;rw[e];by_cases b:off+(k+1)<=i/\i<off+(k+1)+l.length
  ·rw[zg b,zg ⟨by omega,by simp;omega⟩];obtain⟨d,rfl⟩:∃d,i=off+(k+1)+d:=⟨i-(off+(k+1)),by omega⟩;rw[show off+(k+1)+d-(off+(k+1))=d from by omega,show off+(k+1)+d-(off+k)=d+1 from by omega];simp
  ·rw[zf b];by_cases f:i=off+k
   ·subst f;have hs:(a.setIfInBounds (off+k) x)[off+k]?=some x:=by rw[Array.getElem?_setIfInBounds_self_of_lt (by omega)]
    rw[zg ⟨by omega,by simp⟩,hs];simp
   ·rw[zf (by simp;omega),fV (by omega)]
theorem G6{u:Value}{off:Nat}{cells:Array Value}(h:off+u.cells.size<=cells.size) :
  (u.cells.zipIdx.foldl (fun cs (c,j)=>cs.setIfInBounds (off+j) c) cells).size=cells.size /\
  ∀i:Nat,(u.cells.zipIdx.foldl (fun cs (c,j)=>cs.setIfInBounds (off+j) c) cells)[i]?=if off<=i/\i<off+u.cells.size then u.cells[i-off]? else cells[i]?:=by
 have:=rn u.cells.toList 0 off cells (by simpa using h);simp only[Zi,zR,Array.getElem?_toList]at this;rw[<-Array.foldl_toList,Array.toList_zipIdx];exact this
theorem lQ{a:Nat->Option (Nat×Nat)}:∀{o:List (Nat×O)} {vs:List (Nat×Value)} {cs cs':zb} {cells:Array Value},qe a cs o=some cs' ->
  Zip (fun p v=>p.1=v.1/\qw w S G Z p.2 v.2) o vs->cs.length=cells.size->(∀(j:Nat) (d:O) (u:Value),cs[j]?=some d->cells[j]?=some u->qw w S G Z d u) ->
  ∃b,Instr.fill a cells vs=some b/\cs'.length=b.size/\∀(j:Nat) (d:O) (u:Value),cs'[j]?=some d->b[j]?=some u->qw w S G Z d u
 |[],vs,cs,cs',cells,h,q,r,s=>by
  simp only[qe]at h;injection h with h
  subst h;rw[q.Y8];exact⟨cells,rfl,r,s⟩
 |(i,x)::o,vs,cs,cs',cells,h,q,r,s=>by
  obtain⟨⟨i',u⟩,g,rfl,⟨e,z⟩,t⟩:=q.jX;simp only at e z;subst e;simp only[qe]at h;split at h
  ·rename_i off n Y;split at h
   ·rename_i B;obtain⟨A,C,D⟩:=B;obtain⟨E,F⟩:=eG z D;have y:u.cells.size=n:=by rw[<-E,A]
    obtain⟨H,I⟩:=G6 (u:=u) (off:=off) (cells:=cells) (by omega);have f:Instr.fill a cells ((i,u)::g)=Instr.fill a (u.cells.zipIdx.foldl (fun cs (c,j)=>cs.setIfInBounds (off+j) c) cells) g:=by
     have J:¬(off+n>cells.size):=by omega
     simp[Instr.fill,Y,y];omega
    rw[f];refine lQ h t (by rw[WK,H,r]) (fun j d v k l=>?_);rw[KI _ _ _ _ (by rw[A];exact C)]at k;rw[I]at l;by_cases m:off<=j/\j<off+u.cells.size
    ·rw[zg m]at l;rw[zg (by omega)]at k;exact(F (j-off) d v k l).1
    ·rw[zf m]at l;rw[zf (by omega)]at k;exact s j d v k l
   ·cases h
  ·cases h
theorem eI{d:Operand->Option O}{a:Operand->Value}(b:∀y e,d y=some e->qw w S G Z e (a y)):∀{l:List (Nat×Operand)} {c:List (Nat×O)},vn d l=some c ->
  Zip (fun(p:Nat×O) (v:Nat×Value)=>p.1=v.1/\qw w S G Z p.2 v.2) c (l.map fun(i,x)=>(i,a x))
 |[],c,h=>by
  simp only[vn]at h;injection h with h
  subst h;exact .nil
 |(i,x)::l,c,h=>by
  simp only[vn]at h;split at h
  ·rename_i p r Y f;injection h with h
   subst h;exact .cons ⟨rfl,b _ _ Y⟩ (eI b f)
  ·cases h
theorem EE(J:Inv P w S G Y Z){t:TypeId}{k:List (Nat×O)}{vs:Array (Nat×Value)}{x:O}(h:zI P t k=some x)(K:Zip (fun p v=>p.1=v.1/\qw w S G Z p.2 v.2) k vs.toList) :
  QI dr P w Y Z S G x Y Z ((Instr.build t vs).run P w):=by
 unfold zI at h;split at h
 ·rename_i L z g o;obtain⟨i,q,r,s,y⟩:=W9 o;obtain⟨A,B⟩:=j8 (w:=w) (S:=S) y;cases b:qe (fun i=>L[i]?) z k with
  |none=>simp[b]at h
  |some cs'=>
   simp[b]at h;subst h;obtain⟨a,C,D,E⟩:=lQ b K (cells:=q.cells) (by rw[A];simp) (fun j F u H d=>.c (B j F u H (by simpa using d)).1);have I:P.built t vs.toList=some a:=by
    unfold vB at g;split at g
    ·rename_i N d;unfold Program.built;simp only[r,d,s,g];simpa using C
    ·cases g
   exact qF (v:=_) J (run_build w t vs a I) (.agg D E)
 ·rename_i z g o;split at h
  ·rename_i m e d;split at h
   ·rename_i n l;obtain⟨i,q,r,s,y⟩:=W9 o;obtain⟨A,B⟩:=j8 (w:=w) (S:=S) y;cases b:qe (fun i=>some (i*n,n)) z k with
    |none=>simp[b]at h
    |some cs'=>
     simp[b]at h;subst h;obtain⟨a,C,D,E⟩:=lQ b K (cells:=q.cells) (by rw[A];simp) (fun j F u H d=>.c (B j F u H (by simpa using d)).1);have I:P.built t vs.toList=some a:=by
      unfold Program.built;unfold qY at l;cases f:P.info? e with
      |none=>simp[f]at l
      |some Q=>simp only[f,zE,zY]at l;simp only[r,d,s,f,l];exact C
     exact qF (v:=_) J (run_build w t vs a I) (.agg D E)
   ·cases h
  ·cases h
 ·cases h
theorem Jo:∀{d a:List (Nat×O)} {Y Y1:Hp} {S:Nat->Prop} {vs:List (Nat×Value)} (_:Inv P w S G Y Z),zr Y d=some (a,Y1) ->
  Zip (fun p v=>p.1=v.1/\qw w S G Z p.2 v.2) d vs->∃j,kN dr P Y Z S G w Y1 Z j G w/\Zip (fun p v=>p.1=v.1/\wT w j p.2 v.2) a vs
 |[],a,Y,Y1,S,vs,b,h,f=>by
  simp only[zr]at h;injection h with h
  injection h with k l;subst k;subst l;rw[f.Y8];exact⟨S,.refl b,.nil⟩
 |(i,x)::d,a,Y,Y1,S,vs,b,h,f=>by
  obtain⟨⟨i',u⟩,q,rfl,⟨e,m⟩,g⟩:=f.jX;simp only at e m;simp only[zr]at h;split at h
  ·rename_i y k s;split at h
   ·rename_i r l t;injection h with h
    injection h with z A;subst z;subst A;obtain⟨B,c,C,_⟩:=kU (dr:=dr) b s m;have D:=c.same b;obtain⟨E,n,F⟩:=Jo (S:=B) c.inv t (g.imp fun x u o=>⟨o.1,o.2.mono D (zk _) (fun _ _=>rfl)⟩);exact⟨E,c.trans n,.cons ⟨e,C.mono (n.same c.inv)⟩ F⟩
   ·cases h
  ·cases h
theorem EF{y:O}{u:Value}(h:wT w S y u)(a:y.cells.all O.ye=true):y.cells.length=u.cells.size/\∀(j:Nat) (d:O) (c:Value),y.cells[j]?=some d->u.cells[j]?=some c->wT w S d c/\c.oneCell'=true:=by
 by_cases e:∃cs,y=.agg cs
 ·obtain⟨cs,rfl⟩:=e;cases h with
  |agg k l=>refine⟨k,fun j d c b f=>?_⟩;have g:=l j d c b f;refine⟨g,g.Vp ?_⟩;simp only[O.cells]at a b;exact qB.1 a d (zT b)
 ·have m:y.cells=[y]:=by cases y<;>first|rfl|exact(e ⟨_,rfl⟩).elim
  rw[m]at a⊢;have n:y.ye=true:=by simpa using a
  have i:=h.Vp n;have f:u.cells=#[u]:=by cases u<;>first|rfl|simp[Value.oneCell']at i
  rw[f];refine⟨rfl,fun j d c b a=>?_⟩;cases j with
  |zero=>simp at b a;subst b;subst a;exact⟨h,i⟩
  |succ j=>simp at b
theorem cE{n:Nat}:∀{t:List (Nat×O)} {vs:List (Nat×Value)} {es d:List zb} {cells:Array Value},zF n es t=some d->Zip (fun p v=>p.1=v.1/\wT w S p.2 v.2) t vs ->
  es.length*n=cells.size->(∀c∈es,c.length=n)->(∀(i j:Nat) (c:zb) (f:O),es[i]?=some c->c[j]?=some f->∃u,cells[i*n+j]?=some u/\wT w S f u/\u.oneCell'=true) ->
  ∃a,Instr.fill (fun i=>some (i*n,n)) cells vs=some a/\d.length=es.length/\a.size=cells.size/\(∀c∈d,c.length=n) /\
   ∀(i j:Nat) (c:zb) (f:O),d[i]?=some c->c[j]?=some f->∃u,a[i*n+j]?=some u/\wT w S f u/\u.oneCell'=true
 |[],vs,es,d,cells,h,y,D,r,z=>by
  simp only[zF]at h;injection h with h
  subst h;rw[y.Y8];exact⟨cells,rfl,rfl,rfl,r,z⟩
 |(i,x)::t,vs,es,d,cells,h,y,D,r,z=>by
  obtain⟨⟨i',u⟩,l,rfl,⟨e,E⟩,A⟩:=y.jX;simp only at e E;subst e;simp only[zF]at h;split at h
  ·rename_i B;obtain⟨C,F,I⟩:=B;obtain⟨J,K⟩:=EF E I;have m:u.cells.size=n:=by rw[<-J,C]
   have G:i*n+n<=cells.size:=by have:(i+1)*n<=es.length*n:=z7 _ F;rw[yc]at this;omega
   obtain⟨H,L⟩:=G6 (u:=u) (off:=i*n) (cells:=cells) (by omega);have g:Instr.fill (fun i=>some (i*n,n)) cells ((i,u)::l)=Instr.fill (fun i=>some (i*n,n)) (u.cells.zipIdx.foldl (fun cs (c,j)=>cs.setIfInBounds (i*n+j) c) cells) l:=by simp[Instr.fill,m];omega
   rw[g];obtain⟨a,N,P,Q,R,T⟩:=cE h A (cells:=u.cells.zipIdx.foldl (fun cs (c,j)=>cs.setIfInBounds (i*n+j) c) cells) (by rw[H];simpa using D) (fun c B=>by
     rcases GM B with h|h
     ·exact r c h
     ·subst h;exact C) (fun i' j c f b s=>by
     rw[L];by_cases k:i'=i
     ·subst k;rw[zbj F]at b;injection b with b
      subst b;have o:j<n:=by rw[<-C];exact(zj.1 s).1
      rw[zg ⟨by omega,by omega⟩,show i'*n+j-i'*n=j from by omega];have q:j<u.cells.size:=by omega
      have U:=K j f u.cells[j] s (by simp[q]);exact⟨u.cells[j],by simp[q],U⟩
     ·rw[oN (fun e=>k e.symm)]at b;have o:j<n:=by rw[<-r c (zT b)];exact(zj.1 s).1
      have:=lK o k 0 n (by omega);rw[zf (by rw[m];simpa using this)];exact z i' j c f b s)
   exact⟨a,N,by rw[P];simp,by rw[Q,H],R,T⟩
  ·cases h
theorem ic(H:Inv P w S G Y Z){t:TypeId}{len:Nat}{I:List (Nat×O)}{vs:Array (Nat×Value)}{x:O}{J:Hp}{K:Nat}(h:zs P Y Z t len I=some (x,J,K))(W:Zip (fun p v=>p.1=v.1/\qw w S G Z p.2 v.2) I vs.toList) :
  QI dr P w Y Z S G x J K ((Instr.buildSlice t len vs).run P w):=by
 unfold zs at h;split at h
 ·rename_i e L;split at h
  ·rename_i n z qs Y1 q X h3;split at h
   ·rename_i r;obtain⟨s,y,c3⟩:=r;split at h
    ·rename_i es A;injection h with h
     injection h with ex h;injection h with eh en;subst ex;subst eh;subst en;obtain⟨i,f,i1,i2,i3⟩:=W9 X;obtain⟨z1,z2⟩:=j8 (w:=w) (S:=S) i3;have B:f.cells.size=n:=by rw[<-y,z1];simp
     obtain⟨S1,C,q1⟩:=Jo (dr:=dr) H h3 W;obtain⟨a,N,g2,Q,g4,g5⟩:=cE (w:=w) A q1 (cells:=madeCells f.cells (len*n)) (by simp[size_madeCells]) (fun c r=>by rw[(zjh.1 r).2];exact y) (fun i' j c D d o=>by
      have g:i'<len:=by have:=(zj.1 d).1;simpa using this
      rw[List.getElem?_replicate,zg g]at d;injection d with d
      subst d;have E:j<n:=by rw[<-y];exact(zj.1 o).1
      have k:j<f.cells.size:=by omega
      rw[Ba B g E];have R:=z2 j D f.cells[j] o (by simp[k]);exact⟨f.cells[j],by simp[k],R.1.mono (C.same (dr:=dr) H),R.2.1⟩)
     have F:es.length=len:=by rw[g2];simp
     have k2:=kN.alloc (dr:=dr) C.inv a e true es n s (by simpa[qY]using q) g4 (by rw[Q,size_madeCells,F];exact zk _) (fun i' j c D d o=>by obtain⟨u,u1,T,u3⟩:=g5 i' j c D d o;exact⟨u,u1,fun _=>T,.c T,u3⟩)
     have U:¬(len*n>2 ^ 24):=by simp;omega
     refine⟨.slice (some ⟨w.heap.size,0,none⟩) len len,_,_,_,?_,C.trans k2,?_⟩
     ·by_cases l:len*n=0
      ·have hl0:len=0:=by
        rcases Nat.mul_eq_zero.1 l with h|h
        ·exact h
        ·omega
       have b:Instr.fill (fun i=>some (i*n,n)) ((Array.range (len*n)).map ((#[]:Array Value)[· % (#[]:Array Value).size]!)) vs.toList=some a:=by rw[<-N];congr 1;rw[l];simp[madeCells]
       simp[Instr.buildSlice,zx (xi L),yJ q,l,newRow];simp[l]at b;simp[b]
      ·have b:Instr.fill (fun i=>some (i*n,n)) ((Array.range (len*n)).map (f.cells[· % f.cells.size]!)) vs.toList=some a:=N;simp[Instr.buildSlice,zx (xi L),yJ q,l,newRow,Q9 i1 i2,b];omega
     ·have m:len<=maxLen:=by have:len*1<=len*n:=Nat.mul_le_mul_left _ s;simp only[maxLen];omega
      have:=qw.own (w:=w.alloc (.cells a e)) (S:=S1) (G:=qf G Z ⟨w.heap.size,a.size,n⟩) (Z:=Z+1) (id:=Z) (off:=0) (n:=len) (cap:=len) (by omega) (zk _) m (by simp[Q,size_madeCells]) (by simpa using s);simpa using this
    ·cases h
   ·cases h
  ·cases h
 ·cases h
end
variable{dr:Prop}
section
variable{P:Program}{w:World}{S:Nat->Prop}{G:Nat->GI}{Y:Hp}{Z:Nat}
theorem IA(T:Inv P w S G Y Z){t t' ty:TypeId}{d x y:O}{Y':Hp}{Z':Nat}{u v:Value}(h:G3 P Y Z t d x=some (y,Y',Z'))(hd:qw w S G Z d u)(hx:qw w S G Z x v) :
  QI dr P w Y Z S G y Y' Z' ((Builtin.copy_ #[t,t'] ty #[u,v]).run P w):=by
 unfold G3 at h;split at h
 ·rename_i e id off k he;split at h
  ·rename_i b n hb hn;split at h
   ·rename_i xs hv;split at h
    ·rename_i hc;obtain⟨c1,c2,c3,c4⟩:=hc;injection h with h
     injection h with ey h;injection h with eh en;subst ey;subst eh;subst en;have a:=hd.ZW;obtain⟨cap,g1,g2,g3,g4,rfl⟩:=hd.Zk;obtain⟨A,c,f,rfl,U,f2⟩:=bu T hv hx;have l:=T.live id b hb;obtain⟨r,q1,q2,q3⟩:=l.row a;have W:=xi he;have p:(G id).s=n:=by
      have q:=l.size a;rw[c2]at q;have z:(P.info? e).map (·.size)=some n:=by simpa[qY]using hn
      rw[z]at q;injection q with q
      exact q.symm
     have K:Nat.min xs.length k=min xs.length k:=rfl;have X:min xs.length k<=xs.length:=Nat.min_le_left _ _;have hmk:min xs.length k<=k:=Nat.min_le_right _ _;generalize hm:min xs.length k=m at *;have F:=rl c4 U f2;have hmn:m*n<=xs.length*n:=z7 _ X;have B:(Builtin.firstCells n m (.slice A xs.length c)).run P w=.ok ((List.range (m*n)).map f).toArray w:=by
      by_cases h0:m=0
      ·subst h0;cases A<;>simp[Builtin.firstCells,loadCells,loadCellsFrom]
      ·obtain⟨ad,rfl,_,_⟩:=F 0 (Nat.mul_pos (by omega) c4);have:=run_loadCells_list (P:=P) w ad ((List.range (m*n)).map f) (fun j u C=>by
        have hjl:j<m*n:=by have:=(zj.1 C).1;simpa using this
        obtain⟨ad',e1,e2,_⟩:=F j (by omega);injection e1 with e1;subst e1;rw[qD,Wl hjl]at C;simp at C;rw[e2,C])
       simpa[Builtin.firstCells]using this
     have D:off*n+m*n<=r.size:=by rw[q2];have q:(off+m)*n<=b.es.length*n:=z7 _ (by omega);have z:=l.fit a;rw[p]at z;rw[yc]at q;omega
     have L:=run_storeCells_at P (G id).g (off*n) b.e ((List.range (m*n)).map f) 0 r w q1 (by simpa using D) (fun u W=>by obtain⟨k,hk,rfl⟩:=qq.1 W;exact(F k (by have:=xd.1 hk;omega)).choose_spec.2.2)
     simp only[Zi]at L;have N:((List.range (m*n)).map f).length=m*n:=by simp
     have Q:off*n+((List.range (m*n)).map f).length<=r.toList.length:=by simpa using D
     have k2:=kN.set (dr:=dr) T hb a (r.toList.take (off*n)++(List.range (m*n)).map f++r.toList.drop (off*n+((List.range (m*n)).map f).length)).toArray (b.es.take off++xs.take m++b.es.drop (off+m))
      (by rw[wF,Wa _ _ _ Q];simpa using q2)
      (fun E R=>by
       rw[qP]at R;rcases qO.1 R with h|h
       ·exact l.len a E (Vo _ _ h)
       ·rcases qO.1 h with h|h
        ·rw[p];exact U E (Vo _ _ h)
        ·exact l.len a E (iQ _ _ h))
      (by
       have q:=l.fit a;have:(b.es.take off++xs.take m++b.es.drop (off+m)).length=b.es.length:=by simp;omega
       rw[this];exact q)
      (fun i' j E pv o C=>by
       have H:(xs.take m).length=m:=by simp;omega
       rw[show off+m=off+(xs.take m).length from by rw[H],vo _ _ _ _ (by rw[H];omega),H]at o;rw[List.getElem?_toArray,vo _ _ _ _ Q,N,p];by_cases I:off<=i'/\i'<off+m
       ·rw[zg I,zX,zg (by omega)]at o;have J:j<n:=by rw[<-U E (zT o)];exact(zj.1 C).1
        have q:off*n<=i'*n:=z7 _ I.1;have z:=xo (i:=i'-off) (n:=m) (by omega) J;have h7:i'*n+j-off*n=(i'-off)*n+j:=by rw[Nat.sub_mul];omega
        rw[zg ⟨by omega,by rw[Nat.sub_mul]at z;omega⟩,h7,qD,Wl z];obtain⟨ad',a1,a2,a3⟩:=f2 (i'-off) j E pv o C;refine⟨f ((i'-off)*n+j),rfl,?_⟩;rw[c1];exact a3
       ·rw[zf I]at o;have J:j<n:=by rw[<-p,<-l.len a E (zT o)];exact(zj.1 C).1
        have:¬(off*n<=i'*n+j/\i'*n+j<off*n+m*n):=by
         by_cases q:i'<off
         ·have z:=xo (n:=off) q J;omega
         ·have z:off+m<=i':=by omega
          have h7:(off+m)*n<=i'*n:=z7 _ z;rw[yc]at h7;omega
        rw[zf this];obtain⟨u',u1,u2⟩:=q3 i' j E pv o C;rw[p]at u1;exact⟨u',by simpa using u1,u2⟩)
     rw[c1]at k2;refine⟨.int .i64 m,_,_,_,?_,k2,xp _ rfl⟩;simp[Builtin.copy_,zx W,Builtin.lenOf,yJ hn,K,B,p,L,goInt]
    ·cases h
   ·cases h
  ·cases h
 ·cases h
theorem Nu{ts:Array TypeId}{us:Array Value}{t:TypeId}{u:Value}(ty:TypeId)(a:ts[0]?=some t)(b:us[0]?=some u):Builtin.clear_ ts ty us=Builtin.clear_ #[t] ty #[u]:=by simp[Builtin.clear_,a,b]
theorem EG(hi:Inv P w S G Y Z){t ty:TypeId}{x y:O}{Y':Hp}{Z':Nat}{v:Value}(h:VQ P Y Z t x=some (y,Y',Z'))(hd:qw w S G Z x v) :
  QI dr P w Y Z S G y Y' Z' ((Builtin.clear_ #[t] ty #[v]).run P w):=by
 unfold VQ at h;split at h
 ·rename_i e id off k he;split at h
  ·rename_i b n z hb hn hz;split at h
   ·rename_i hc;obtain⟨⟨c0,c5⟩,c1,c2,c3,c4⟩:=hc;injection h with h
    injection h with ey h;injection h with eh en;subst ey;subst eh;subst en;have l:=hd.ZW;obtain⟨cap,g1,g2,g3,g4,rfl⟩:=hd.Zk;have p:=hi.live id b hb;obtain⟨C,q1,q2,q3⟩:=p.row l;have hu:=xi he;have A:(G id).s=n:=by
     have B:=p.size l;rw[c2]at B;have F:(P.info? e).map (·.size)=some n:=by simpa[qY]using hn
     rw[F]at B;injection B with B
     exact B.symm
    obtain⟨i,L,i1,i2,i3⟩:=W9 hz;obtain⟨z1,z2⟩:=j8 (w:=w) (S:=S) i3;have Q:L.cells.size=n:=by have:=z1;simp at this;omega
    obtain⟨d,f⟩:=wM ((Builtin.zeroCells L.cells k).toList);have D:d.length=k*n:=by rw[<-f];simp[Builtin.zeroCells,Q]
    have R:∀q r,q<k->r<n->d[q*n+r]?=L.cells[r]?:=fun q r hq hr=>by
     have hlt:=xo (n:=k) hq hr;have hm:(q*n+r) % n=r:=by rw[ek,Nat.add_mul_mod_self_right];exact Nat.mod_eq_of_lt hr
     rw[<-f];simp only[Builtin.zeroCells,Q,Array.toList_map,Array.toList_range,qD];rw[Wl hlt,zE,hm,zbk _ r (by omega),vF (by omega)]
    have T:∀r I u,z[r]?=some I->L.cells[r]?=some u->wT w S I u/\u.oneCell'=true:=fun r I u h1 h2=>by obtain⟨a,b,_⟩:=z2 r I u h1 (by simpa using h2);exact⟨a,b⟩
    have U:∀u∈d,u.oneCell'=true:=fun u hu=>by
     obtain⟨m,hm⟩:=List.getElem?_of_mem hu;have hml:m<k*n:=by rw[<-D];exact(zj.1 hm).1
     have e1:m/n*n+m % n=m:=by rw[Yi];exact Nat.div_add_mod m n
     have hmr:m % n<n:=zji _ c0;have N:=R (m/n) (m % n) (Nat.div_lt_of_lt_mul (by rw[Yi];exact hml)) hmr;rw[e1,hm]at N;exact(T (m % n) (z[m % n]'(by omega)) u (zo (by omega)) N.symm).2
    have H:off*n+k*n<=C.size:=by rw[q2];have B:(off+k)*n<=b.es.length*n:=z7 _ c3;have F:=p.fit l;rw[A]at F;rw[yc]at B;omega
    have W:=run_storeCells_at P (G id).g (off*n) b.e d 0 C w q1 (by rw[D];simpa using H) U;simp only[Zi]at W;have X:off*n+d.length<=C.toList.length:=by rw[D];simpa using H
    have k2:=kN.set (dr:=dr) hi hb l (C.toList.take (off*n)++d++C.toList.drop (off*n+d.length)).toArray (b.es.take off++List.replicate k z++b.es.drop (off+k))
     (by rw[wF,Wa _ _ _ X];simpa using q2)
     (fun c' hc'=>by
      rw[qP]at hc';rcases qO.1 hc' with h|h
      ·exact p.len l c' (Vo _ _ h)
      ·rcases qO.1 h with h|h
       ·rw[A,List.eq_of_mem_replicate h];exact c5
       ·exact p.len l c' (iQ _ _ h))
     (by
      have B:=p.fit l;have:(b.es.take off++List.replicate k z++b.es.drop (off+k)).length=b.es.length:=by simp;omega
      rw[this];exact B)
     (fun i' j c' I o hj=>by
      have J:(List.replicate k z).length=k:=by simp
      rw[show off+k=off+(List.replicate k z).length from by rw[J],vo _ _ _ _ (by rw[J];omega),J]at o;rw[List.getElem?_toArray,vo _ _ _ _ X,D,A];by_cases K:off<=i'/\i'<off+k
      ·rw[zg K,List.getElem?_replicate,zg (by omega)]at o;injection o with o
       subst o;have E:j<n:=by rw[<-c5];exact(zj.1 hj).1
       have B:off*n<=i'*n:=z7 _ K.1;have F:=xo (i:=i'-off) (n:=k) (by omega) E;have N:i'*n+j-off*n=(i'-off)*n+j:=by rw[Nat.sub_mul];omega
       rw[zg ⟨by omega,by rw[Nat.sub_mul]at F;omega⟩,N,R _ _ (by omega) E];have h8:L.cells[j]?=some (L.cells[j]'(by omega)):=vF (by omega);obtain⟨r1,r2⟩:=T j I _ hj h8;exact⟨_,h8,fun _=>r1,.c r1,r2⟩
      ·rw[zf K]at o;have E:j<n:=by rw[<-A,<-p.len l c' (zT o)];exact(zj.1 hj).1
       have:¬(off*n<=i'*n+j/\i'*n+j<off*n+k*n):=by
        by_cases B:i'<off
        ·have F:=xo (n:=off) B E;omega
        ·have F:off+k<=i':=by omega
         have N:(off+k)*n<=i'*n:=z7 _ F;rw[yc]at N;omega
       rw[zf this];obtain⟨u',u1,u2⟩:=q3 i' j c' I o hj;rw[A]at u1;exact⟨u',by simpa using u1,u2⟩)
    rw[c1]at k2;refine⟨.tuple #[],_,_,_,?_,k2,.c (.wL rfl (by simp))⟩;obtain⟨k',rfl⟩:∃k',k=k'+1:=⟨k-1,by omega⟩;simp[Builtin.clear_,zx hu,Q9 i1 i2,f,A,W]
   ·cases h
  ·cases h
 ·cases h
theorem Wq{c:Operand->Option O}{a:Operand->Value}(b:∀y f,c y=some f->qw w S G Z f (a y)):∀{l:List Operand} {xs:zb},yB (l.map c)=some xs->Zip (qw w S G Z) xs (l.map a)
 |[],xs,h=>by
  simp only[QE,yB]at h;injection h with h
  subst h;exact .nil
 |x::l,xs,h=>by
  simp only[wK]at h;cases d:c x with
  |none=>rw[d]at h;simp[yB]at h
  |some p=>
   rw[d]at h;simp only[yB]at h;cases e:yB (l.map c)with
   |none=>rw[e]at h;simp at h
   |some r=>rw[e]at h;simp at h;subst h;exact .cons (b _ _ d) (Wq b e)
def wO(dr:Prop)(P:Program)(g:FuncId)(a:AM.Spec):Prop:=
 (∃fn,P.funcs[g]?=some fn/\(fn.name== "runtime.NumGoroutine")=false/\fn.body.isNone=false) /\
 ∀(args:zb) (Y:Hp) (Z:Nat) (r:O) (c:Hp) (b:Nat),a args Y Z=some (r,c,b)->∀(w:World) (S:Nat->Prop) (G:Nat->GI) (vs:List Value),Inv P w S G Y Z->Zip (qw w S G Z) args vs ->
  Calls P g vs.toArray w fun e d=>∃v f h,e=.returned v/\kN dr P Y Z S G w c b f h d/\qw d f h b r v
abbrev zi:=wO True
theorem wO.lax{d:Prop}{P:Program}{g:FuncId}{spec:AM.Spec}(h:wO d P g spec)(hd:dr->d:=by intro h;exact True.intro):wO dr P g spec:=
 ⟨h.1,fun args Y Z r a b e w S G vs c f=>(h.2 args Y Z r a b e w S G vs c f).mono fun _ _ ⟨v,i,j,l,k,m⟩=>⟨v,i,j,l,⟨k.inv,k.up,k.loc,k.Ji,k.from_,k.own,k.fr.lax hd⟩,m⟩⟩
def zby(dr:Prop)(P:Program)(w:World)(Y:Hp)(Z:Nat)(S:Nat->Prop)(G:Nat->GI)(x:O)(f:Hp)(d:Nat)(r:Result Next):Prop:=
 (∃v a b c,(r=.ok (.value v) a\/(r=.ok .skip a/\v=undef))/\kN dr P Y Z S G w f d b c a/\qw a b c d x v) \/
 ∃g vs,r=.ok (.enter g vs) w/\Calls P g vs w fun e a=>∃v b c,e=.returned v/\kN dr P Y Z S G w f d b c a/\qw a b c d x v
theorem QI.op{x:O}{a:Hp}{b:Nat}{s:Sem Value}(h:QI dr P w Y Z S G x a b (s.run P w)):zby dr P w Y Z S G x a b ((do pure (.value (<-s)):Sem Next).run P w):=by obtain⟨v,c,d,e,f,g,i⟩:=h;exact .inl ⟨v,c,d,e,.inl (by simp[f]),g,i⟩
theorem zcn{ts:Array TypeId}{us:Array Value}{t:TypeId}{u:Value}(ty:TypeId)(a:ts[0]?=some t)(b:us[0]?=some u):Builtin.len_ ts ty us=Builtin.len_ #[t] ty #[u]:=by simp[Builtin.len_,a,b]
theorem IB{ts:Array TypeId}{us:Array Value}{t t':TypeId}{u v:Value}(ty:TypeId)(a:ts[0]?=some t)(b:ts[1]?=some t')(c:us[0]?=some u)(d:us[1]?=some v):Builtin.append_ ts ty us=Builtin.append_ #[t,t'] ty #[u,v]:=by simp[Builtin.append_,a,b,c,d]
theorem Tt{ts:Array TypeId}{us:Array Value}{t:TypeId}{u v:Value}(ty:TypeId)(a:ts[0]?=some t)(b:us[0]?=some u)(c:us[1]?=some v):Builtin.copy_ ts ty us=Builtin.copy_ #[t,t] ty #[u,v]:=by simp[Builtin.copy_,a,b,c]
theorem Jp{α a:Type}{R:α->a->Prop}{x:α}{us:List a}(h:Zip R [x] us):∃u,us=[u]/\R x u:=by obtain⟨u,b,rfl,c,d⟩:=h.jX;rw[d.Y8];exact⟨u,rfl,c⟩
theorem G7{α a:Type}{R:α->a->Prop}{x y:α}{us:List a}(h:Zip R [x,y] us):∃u v,us=[u,v]/\R x u/\R y v:=by obtain⟨u,b,rfl,c,d⟩:=h.jX;obtain⟨v,rfl,e⟩:=Jp d;exact⟨u,v,rfl,c,e⟩
theorem Zip.append{α c:Type}{R:α->c->Prop}{xs ys:List α}{us vs:List c}(h:Zip R xs us)(k:Zip R ys vs):Zip R (xs++ys) (us++vs):=by
 refine⟨by simp[h.1,k.1],fun j x u a b=>?_⟩;by_cases d:j<xs.length
 ·rw[qC d]at a;rw[qC (by rw[<-h.1];exact d)]at b;exact h.2 j x u a b
 ·rw[qo (by omega)]at a;rw[qo (by rw[<-h.1];omega),<-h.1]at b;exact k.2 _ x u a b
theorem zU{α a:Type}{o:Option α}{f:α->a}{y:a}(h:o.map f=some y):∃x,o=some x/\f x=y:=by
 cases o with
 |none=>simp at h
 |some x=>exact⟨x,rfl,by simpa using h⟩
end
theorem cF{C:Ctx}{w:World}{S:Nat->Prop}{G:Nat->GI}{Y:Hp}{Z:Nat}(hΓ:∀g N,C.Γ g=some N->wO dr C.P g N)(H:Inv C.P w S G Y Z)
  {ρ:Operand->Option O} {a:Operand->Value} (d:∀y pv,ρ y=some pv->qw w S G Z pv (a y)) {o:Oper} {x:O} {Y':Hp} {Z':Nat} (h:qb C ρ Y Z o.op=some (x,Y',Z')) :
  zby dr C.P w Y Z S G x Y' Z' ((execOp a o).run C.P w):=by
 have A:∀{f:O} {y:O},(f,Y,Z)=(y,Y',Z')->f=y/\Y=Y'/\Z=Z':=by
  intro f y h;injection h with L h
  injection h with R T;exact⟨L,R,T⟩
 unfold qb at h;unfold execOp;split at h
 ·rename_i y B;obtain⟨p,D,F⟩:=zU h;obtain⟨rfl,rfl,rfl⟩:=A F;simp only[B];exact .inl ⟨a y,w,S,G,.inl rfl,.refl H,d _ _ D⟩
 ·rename_i y B;obtain⟨p,D,F⟩:=zU h;obtain⟨rfl,rfl,rfl⟩:=A F;simp only[B];exact .inl ⟨a y,w,S,G,.inl rfl,.refl H,d _ _ D⟩
 ·rename_i c y z B;simp only[B];split at h
  ·rename_i X;obtain⟨p,D,F⟩:=zU h;obtain⟨rfl,rfl,rfl⟩:=A F;obtain⟨e,_⟩:=(d _ _ X).yn;exact .inl ⟨a y,w,S,G,.inl (by simp[e,asBool]),.refl H,d _ _ D⟩
  ·rename_i X;obtain⟨p,D,F⟩:=zU h;obtain⟨rfl,rfl,rfl⟩:=A F;obtain⟨e,_⟩:=(d _ _ X).yn;exact .inl ⟨a z,w,S,G,.inl (by simp[e,asBool]),.refl H,d _ _ D⟩
  ·cases h
 ·rename_i t B;simp only[B];split at h
  ·rename_i n z D F;split at h
   ·rename_i hl;injection h with h
    injection h with L h;injection h with R T;subst L;subst R;subst T;exact(Ew H D F hl.1 hl.2).op
   ·cases h
  ·cases h
 ·rename_i t y B;simp only[B];split at h
  ·rename_i n p D F;split at h
   ·rename_i X;injection h with h
    injection h with L h;injection h with R T;subst L;subst R;subst T;exact(Nh H D (d _ _ F) X.1 X.2.1 X.2.2).op
   ·cases h
  ·cases h
 ·rename_i t parts B;simp only[B];split at h
  ·rename_i ps hps;obtain⟨p,D,F⟩:=zU h;obtain⟨rfl,rfl,rfl⟩:=A F;exact(EE H D (by simpa using eI d hps)).op
  ·cases h
 ·rename_i t len parts B;simp only[B];split at h
  ·rename_i ps hps;exact(ic H h (by simpa using eI d hps)).op
  ·cases h
 ·rename_i t y B;simp only[B];split at h
  ·rename_i p Y1;obtain⟨q,D,F⟩:=zU h;obtain⟨rfl,rfl,rfl⟩:=A F;exact(rf H D (d _ _ Y1)).op
  ·cases h
 ·rename_i t y z B;simp only[B];split at h
  ·rename_i p q D F;obtain⟨Y1,J,I⟩:=zU h;injection I with L I
   injection I with R T;subst L;subst R;subst T;obtain⟨w',S',G',r1,r2⟩:=Ex H J (d _ _ D) (d _ _ F);exact .inl ⟨undef,w',S',G',.inr ⟨by simp[r1],rfl⟩,r2,kA⟩
  ·cases h
 ·rename_i y B;simp only[B];split at h
  ·rename_i id i j hy;injection h with h
   obtain⟨rfl,rfl,rfl⟩:=A h;have hr:=d _ _ hy;obtain⟨D,F⟩:=hr.Wn;exact .inl ⟨a y,w,S,G,.inl (by rw[F];rfl),.refl H,hr⟩
  ·rename_i cs hy;injection h with h
   obtain⟨rfl,rfl,rfl⟩:=A h;have hr:=d _ _ hy;have hr2:=hr;have X:=hr.Vq;generalize hay:a y=u at *;cases X with
   |ptr us D F=>exact .inl ⟨_,w,S,G,.inl rfl,.refl H,hr2⟩
  ·cases h
 ·rename_i op t y z t2 B;simp only[B];split at h
  ·rename_i p q D F;obtain⟨r,J,I⟩:=zU h;obtain⟨rfl,rfl,rfl⟩:=A I;exact(Iv H y z J (d _ _ D) (d _ _ F)).op
  ·cases h
 ·rename_i op t y B;simp only[B];split at h
  ·rename_i p D;obtain⟨r,J,I⟩:=zU h;obtain⟨rfl,rfl,rfl⟩:=A I;exact(Iw H J (d _ _ D)).op
  ·cases h
 ·rename_i src dst y B;simp only[B];split at h
  ·rename_i p D;obtain⟨r,J,I⟩:=zU h;obtain⟨rfl,rfl,rfl⟩:=A I;exact(Ix H J (d _ _ D)).op
  ·cases h
 ·rename_i f first K B
  simp only[B];split at h
  ·rename_i xs ys D F;injection h with h
   obtain⟨rfl,rfl,rfl⟩:=A h;exact(oZ H (by simpa using Wq d D) (by simpa using Wq d F)).op
  ·cases h
 ·rename_i t l c B;simp only[B];split at h
  ·rename_i p q D F;exact(lO H h (d _ _ D) (d _ _ F)).op
  ·cases h
 ·rename_i t y lo hh B;simp only[B];split at h
  ·rename_i p D;obtain⟨r,J,I⟩:=zU h;obtain⟨rfl,rfl,rfl⟩:=A I;have hd:∀o:Option Operand,o.map ρ=none->o.map a=none:=fun o h=>by cases o<;>simp_all
   have hs:∀(o:Option Operand) (p:O),o.map ρ=some (some p)->∃u,o.map a=some u/\qw w S G Z p u:=fun o p h=>by
    cases o with
    |none=>simp at h
    |some y=>exact⟨a y,rfl,d _ _ (by simpa using h)⟩
   exact(EB H J (d _ _ D) (hd lo) (hs lo) (hd hh) (hs hh)).op
  ·cases h
 ·rename_i t y f B;simp only[B];split at h
  ·rename_i p D;obtain⟨r,J,I⟩:=zU h;obtain⟨rfl,rfl,rfl⟩:=A I;exact(lL H J (d _ _ D)).op
  ·cases h
 ·rename_i t y f B;simp only[B];split at h
  ·rename_i p D;obtain⟨r,J,I⟩:=zU h;obtain⟨rfl,rfl,rfl⟩:=A I;exact(Ey H J (d _ _ D)).op
  ·cases h
 ·rename_i t y z B;simp only[B];split at h
  ·rename_i p q D F;obtain⟨r,J,I⟩:=zU h;obtain⟨rfl,rfl,rfl⟩:=A I;exact(lM H J (d _ _ D) (d _ _ F)).op
  ·cases h
 ·rename_i t y z B;simp only[B];split at h
  ·rename_i p q D F;obtain⟨r,J,I⟩:=zU h;obtain⟨rfl,rfl,rfl⟩:=A I;exact(Ez H J (d _ _ D) (d _ _ F)).op
  ·cases h
 ·rename_i y i B;simp only[B];split at h
  ·rename_i vs D;obtain⟨r,J,I⟩:=zU h;obtain⟨rfl,rfl,rfl⟩:=A I;exact(th H J (d _ _ D)).op
  ·cases h
 ·rename_i c B;simp only[B];obtain⟨callee,⟨E⟩,Q⟩:=c;unfold xH at h;simp only at h;split at h
  ·rename_i xs U;have hz:=Wq d U;split at h
   ·rename_i b;unfold yG at h;split at h
    ·split at h
     ·rename_i y t ht;obtain⟨u,hu1,hu2⟩:=Jp hz;obtain⟨r,J,I⟩:=zU h;obtain⟨rfl,rfl,rfl⟩:=A I;have hd:=(Nr (dr:=dr) (ty:=o.type) H J hu2).op;rw[<-zcn (us:=(E.map a).toArray) o.type ht (by simp[hu1])]at hd;simpa[resolve,invoke,builtin,-bind_pure_comp]using hd
     ·cases h
    ·obtain⟨r,J,I⟩:=zU h;obtain⟨rfl,rfl,rfl⟩:=A I;have hd:=(Ns (dr:=dr) (us:=(E.map a).toArray) (ts:=Q) (ty:=o.type) H J (by simpa using hz)).op;simpa[resolve,invoke,builtin,-bind_pure_comp]using hd
    ·obtain⟨r,J,I⟩:=zU h;obtain⟨rfl,rfl,rfl⟩:=A I;have hd:=(Nt (dr:=dr) (us:=(E.map a).toArray) (ts:=Q) (ty:=o.type) H J (by simpa using hz)).op;simpa[resolve,invoke,builtin,-bind_pure_comp]using hd
    ·split at h
     ·rename_i s y t t' ht ht';obtain⟨u,v,W,hu,hv⟩:=G7 hz;have hd:=(Bb (dr:=dr) (ty:=o.type) H h hu hv).op;rw[<-IB (us:=(E.map a).toArray) o.type ht ht' (by simp[W]) (by simp[W])]at hd;simpa[resolve,invoke,builtin,-bind_pure_comp]using hd
     ·cases h
    ·split at h
     ·rename_i s y t ht;obtain⟨u,v,W,hu,hv⟩:=G7 hz;have hd:=(IA (dr:=dr) (t':=t) (ty:=o.type) H h hu hv).op;rw[<-Tt (us:=(E.map a).toArray) o.type ht (by simp[W]) (by simp[W])]at hd;simpa[resolve,invoke,builtin,-bind_pure_comp]using hd
     ·cases h
    ·split at h
     ·rename_i y t ht;obtain⟨u,hu1,hu2⟩:=Jp hz;have hd:=(EG (dr:=dr) (ty:=o.type) H h hu2).op;rw[<-Nu (us:=(E.map a).toArray) o.type ht (by simp[hu1])]at hd;simpa[resolve,invoke,builtin,-bind_pure_comp]using hd
     ·cases h
    ·cases h
   ·rename_i f;unfold jO at h;split at h
    ·rename_i g first K hf
     split at h
     ·rename_i N hg;obtain⟨⟨fn,f1,f2,f3⟩,zeo⟩:=hΓ g N hg;obtain⟨us,ts,L,l1,l2,r1,r2⟩:=(d _ _ hf).AO;have hz:Zip (qw w S G Z) (first++xs++K) (us.toList++E.map a++ts.toList):=
       (Zip.append ⟨by simpa using l1,fun j pv x p q=>r1 j pv x p (by simpa using q)⟩ (Wq d U)).append ⟨by simpa using l2,fun j pv x p q=>r2 j pv x p (by simpa using q)⟩
      refine .inr ⟨g,(us.toList++E.map a++ts.toList).toArray,?_,zeo _ _ _ _ _ _ h w S G _ H hz⟩;have f2':¬fn.name= "runtime.NumGoroutine":=by simpa using f2
      have f3':¬fn.body=none:=by intro h;simp[h]at f3
      have e5:(us.toList++E.map a++ts.toList).toArray=us++(E.map a).toArray++ts:=by apply Array.ext';simp
      rw[e5];simp[resolve,L,Deferred.ofValue,invoke,callFunc,f1,f2',f3']
     ·cases h
    ·cases h
   ·cases h
  ·cases h
 ·rename_i t B;simp only[B];split at h
  ·rename_i kt hk;injection h with h
   injection h with L h;injection h with R T;subst L;subst R;subst T;exact(tj H t).op
  ·cases h
 ·rename_i t y z ok B;simp only[B];split at h
  ·rename_i p q D F;obtain⟨r,J,I⟩:=zU h;obtain⟨rfl,rfl,rfl⟩:=A I;exact(Bc H J (d _ _ D) (d _ _ F)).op
  ·cases h
 ·rename_i t m k y B;simp only[B];split at h
  ·rename_i p q r D F J;obtain⟨Y1,I,h5⟩:=zU h;injection h5 with L h5
   injection h5 with R T;subst L;subst R;subst T;obtain⟨w',S',G',r1,r2⟩:=gh H I (d _ _ D) (d _ _ F) (d _ _ J);exact .inl ⟨undef,w',S',G',.inr ⟨by simp[r1],rfl⟩,r2,kA⟩
  ·cases h
 ·rename_i t m k y B;simp only[B];split at h
  ·rename_i p q r D F J;obtain⟨Y1,I,h5⟩:=zU h;injection h5 with L h5
   injection h5 with R T;subst L;subst R;subst T;obtain⟨w',S',G',r1,r2⟩:=gh H I (d _ _ D) (d _ _ F) (d _ _ J);exact .inl ⟨undef,w',S',G',.inr ⟨by simp[r1],rfl⟩,r2,kA⟩
  ·cases h
 ·cases h
end Go.AM
