/- Lemmas. -/
import Derived.Test.YtfanbcfchamfjaaGreatDoorG1
set_option maxRecDepth 8000
open Go Proofs Proofs.YtfanbcfchamfjaaGreatDoor Proofs.Tryz RowKit AM SpanLaw Q Zz
namespace Go.AM
variable{dr:Prop}
section
variable{P:Program}{w:World}{S:Nat->Prop}{G:Nat->GI}{Y:Hp}{Z:Nat}
theorem cJ{o:Option (Option O)}{v:Option Value}{a n y:Nat}(code:BoundsCode)(h:jZ a o=some n)(d:n<=y)(hd:o=none->v=none)(hs:∀p,o=some (some p)->∃u,v=some u/\qg w S G Z p u)(e:o≠some none) :
  (v=none/\n=a)\/∃k i,v=some (.int k i)/\(Instr.sliceBound (.int k i) y code).run P w=.ok n w:=by
 unfold jZ at h;split at h
 ·injection h with h;exact .inl ⟨hd rfl,h.symm⟩
 ·rename_i k i;split at h
  ·rename_i b;injection h with h
   subst h;obtain⟨u,rfl,c⟩:=hs _ rfl;obtain⟨rfl,_⟩:=c.wZ;refine .inr ⟨k,i,rfl,?_⟩;have:i<=y:=by omega
   simp[Instr.sliceBound,asIntOf,b,this]
  ·cases h
 ·cases h
theorem JE{isS:Bool}{len cap l h:Nat}{lo b:Option (Option O)}{c d:Option Value}(f:jZ 0 lo=some l)(n:jZ len b=some h)(a:l<=h)(e:h<=cap)
  (g:lo=none->c=none) (j:∀p,lo=some (some p)->∃u,c=some u/\qg w S G Z p u) (n1:lo≠some none)
  (o:b=none->d=none) (q:∀p,b=some (some p)->∃u,d=some u/\qg w S G Z p u) (r:b≠some none) :
  (Instr.sliceBounds isS len cap c d none).run P w=.ok (l,h,cap) w:=by
 rcases cJ (P:=P) (if isS then .sliceAcap else .sliceAlen) n e o q r with⟨rfl,rfl⟩|⟨k,i,rfl,t⟩
 ·rcases cJ (P:=P) .sliceB f a g j n1 with⟨rfl,rfl⟩|⟨s,i',rfl,m⟩
  ·simp[Instr.sliceBounds]
  ·simp[Instr.sliceBounds,m]
 ·rcases cJ (P:=P) .sliceB f a g j n1 with⟨rfl,rfl⟩|⟨s,i',rfl,m⟩
  ·cases isS<;>simp_all[Instr.sliceBounds]
  ·cases isS<;>simp_all[Instr.sliceBounds]
theorem Cs(a:Inv P w S G Y Z){t:TypeId}{p x:O}{lo T:Option (Option O)}{U W:Option Value}{u:Value}(h:y8 P Y t p lo T=some x)(Y':qg w S G Z p u)
  (L:lo=none->U=none) (M:∀p,lo=some (some p)->∃u,U=some u/\qg w S G Z p u)
  (N:T=none->W=none) (Q:∀p,T=some (some p)->∃u,W=some u/\qg w S G Z p u):Qo dr P w Y Z S G x Y Z ((Instr.sliceAt t u U W none).run P w):=by
 have C:∀{d n:Nat} {o:Option (Option O)},jZ d o=some n->o≠some none:=by rintro d n o h rfl;simp[jZ]at h
 unfold y8 at h;split at h
 ·rename_i s z;obtain⟨rfl,_⟩:=Y'.wZ;split at h
  ·rename_i l q r y;split at h
   ·rename_i k;injection h with h
    subst h;have B:=JE (P:=P) (isS:=false) (cap:=s.size) r y k.1 k.2 L M (C r) N Q (C y);exact qv (v:=.string (s.extract l q)) a (by simp[Instr.sliceAt,zK z,Instr.slice,B]) (xg _ rfl)
   ·cases h
  ·cases h
 ·rename_i e s es z;split at h
  ·rename_i n l q f r y;split at h
   ·rename_i k;obtain⟨rfl,k⟩:=k;injection h with h
    subst h;cases Y'.aI with
    |sl us h0 h1 h2 h3 h4 h5=>
     rename_i A cap;have B:=JE (P:=P) (isS:=true) (cap:=cap) r y k.1 (by omega) L M (C r) N Q (C y);have E:((es.drop l).take (q-l)).length=q-l:=by simp;omega
     have D:∀(i:Nat) (c:zb),((es.drop l).take (q-l))[i]?=some c->i<q-l/\es[l+i]?=some c:=by
      intro i c a;rw[yu]at a;split at a
      ·rw[yd]at a;exact⟨by assumption,a⟩
      ·cases a
     have F:wG w S (.sl s ((es.drop l).take (q-l))) (.slice (if cap=l then A else A.map (·.add (l*s))) ((es.drop l).take (q-l)).length (cap-l)):=by
      refine .sl (fun i j=>us (l+i) j) (fun X=>by have:A=none:=(by split at X<;>simp_all);have:=h0 this;omega) (by omega) (by omega) (fun c k=>h3 c (fD _ _ (Kj _ _ k))) (fun i j c pv a hj=>?_) (fun i j c pv a hj=>h5 _ j c pv (D i c a).2 hj);obtain⟨hil,hi'⟩:=D i c a;obtain⟨ad,rfl,R,g2,g3⟩:=h4 (l+i) j c pv hi' hj;rw[zj (by omega)];refine⟨ad.add (l*s),rfl,by rw[Qz];exact R,?_,g3⟩;rw[aP];have:l*s+(i*s+j)=(l+i)*s+j:=by rw[yV];omega
      rw[this];exact g2
     rw[E]at F;exact qv (v:=_) a (by simp[Instr.sliceAt,zK z,Instr.slice,B,yw f]) (.c F)
   ·cases h
  ·cases h
 ·rename_i e z;have:=Y'.xV;subst this;split at h
  ·rename_i n l q f r y;split at h
   ·rename_i k;obtain⟨rfl,rfl⟩:=k;injection h with h
    subst h;have B:=JE (P:=P) (isS:=true) (len:=0) (cap:=0) r y (zk _) (zk _) L M (C r) N Q (C y);exact qv (v:=.slice none 0 0) a (by simp[Instr.sliceAt,zK z,Instr.slice,B,yw f]) (.c .nil)
   ·cases h
  ·cases h
 ·rename_i e id off n z;have H:=Y'.xl;obtain⟨cap,R,g2,g3,g4,rfl⟩:=Y'.vO;split at h
  ·rename_i m l q f r y;split at h;rename_i b hbl;split at h
   ·rename_i k;obtain⟨hbm,k⟩:=k;injection h with h
    have B:=JE (P:=P) (isS:=true) (cap:=cap) r y k.1 (by omega) L M (C r) N Q (C y);by_cases I:l=0
    ·subst I;simp only[qh]at h;subst h;refine qv (v:=.slice (some ⟨(G id).g,off*(G id).s,none⟩) q cap) a ?_ (.own R (by omega) g3 g4 H);by_cases J:cap=0
     ·subst J;simp[Instr.sliceAt,zK z,Instr.slice,B,yw f]
     ·simp[Instr.sliceAt,zK z,Instr.slice,B,yw f,J,Xk]
    ·rw[zj I]at h;by_cases K:q=l
     ·subst K;simp only[qh]at h;subst h;refine qv (v:=_) a (by simp[Instr.sliceAt,zK z,Instr.slice,B,yw f];rfl) (.c ?_);exact .sl (es:=[]) (fun _ _=>undef) (fun X=>by split at X<;>simp_all) (by simp) (by omega) (by simp) (by simp) (by simp)
     ·rw[zj K]at h;subst h;have hcl:¬cap=l:=by omega
      refine qv (v:=.slice (some ⟨(G id).g,(off+l)*(G id).s,none⟩) (q-l) (cap-l)) a ?_ (.own R (by omega) (by omega) ?_ H)
      ·have hgs:(G id).s=m:=by rw[<-(a.live id b hbl).bs,hbm]
       simp[Instr.sliceAt,zK z,Instr.slice,B,yw f,hcl,Xk,hgs,yV]
      ·rw[show off+l+(cap-l)=off+cap from by omega];exact g4
   ·cases h
   ·cases h
  ·cases h
 ·cases h
theorem nh(g:Inv P w S G Y Z){f:Fn}{xs ys:zb}{us ts:Array Value}(d:Zip (qg w S G Z) xs us.toList)(e:Zip (qg w S G Z) ys ts.toList) :
  Qo dr P w Y Z S G (.fn f xs ys) Y Z ((Instr.makeFunc f us ts).run P w):=
 qv (v:=.func f us ts) g rfl (.fn (by simpa using d.1) (by simpa using e.1) (fun j c x a b=>d.2 j c x a (by simpa using b)) (fun j c x a b=>e.2 j c x a (by simpa using b)))
theorem tF{z:Array Value}{n s i j:Nat}(hs:z.size=s)(c:i<n)(b:j<s):(madeCells z (n*s))[i*s+j]?=z[j]?:=by
 have a:i*s+j<n*s:=ZZ c b;unfold madeCells;rw[Array.getElem?_map,Array.getElem?_range,zl a];have d:(i*s+j) % s=j:=by rw[cz,Nat.add_mul_mod_self_right];exact fF b
 simp only[zY,hs,d];rw[jf (by omega)];simp only[qV];exact(zaq z j (by omega))
theorem gD(J:Inv P w S G Y Z){t:TypeId}{p q x:O}{Y':Hp}{Z':Nat}{u v:Value}(h:WR P Y Z t p q=some (x,Y',Z'))(K:qg w S G Z p u)(L:qg w S G Z q v) :
  Qo dr P w Y Z S G x Y' Z' ((Instr.makeSlice t u v).run P w):=by
 unfold WR at h;split at h
 ·rename_i M l N c;obtain⟨rfl,_⟩:=K.wZ;obtain⟨rfl,_⟩:=L.wZ;split at h
  ·rename_i e Q;split at h
   ·rename_i n by_ z E R T;split at h
    ·rename_i U;obtain⟨F,o,W,X,H,c6⟩:=U;injection h with h
     injection h with ex h;injection h with eh en;subst ex;subst eh;subst en;obtain⟨i,d,r,i2,i3⟩:=JA T;obtain⟨z1,z2⟩:=kR (w:=w) (S:=S) i3;have f:i.size=n:=by simpa[qN,r]using E
     have s:i.bytes=by_:=by simpa[vi,r]using R
     have y:d.cells.size=n:=by rw[<-o,z1];simp
     have hm:c.toNat<=9223372036854775807:=by simpa[maxLen]using H
     have b:(i.bytes:Int)*c<=281474976710656:=by
      have:((c.toNat*by_:Nat):Int)<=140737488355328:=by omega
      rw[Int.natCast_mul,Int.toNat_of_nonneg (by omega)]at this;rw[s,Int.mul_comm];omega
     have hr:=run_make (P:=P) w t e i d (vU Q) r i2 M N l c W X b (by omega);have g:l.toNat<=c.toNat:=by omega
     have k:=kd.alloc (dr:=dr) J (madeCells d.cells (c.toNat*i.size)) e true (List.replicate l.toNat z) n F (by simpa[qN]using E) (fun c' A=>by rw[(List.mem_replicate.1 A).2];exact o)
      (by rw[size_madeCells,f,List.length_replicate];exact qA _ g) (fun i' j c' pv a I=>by
       have B:i'<l.toNat:=by have:=(zd.1 a).1;simpa using this
       rw[List.getElem?_replicate,zl B]at a;injection a with a
       subst a;have C:j<n:=by rw[<-o];exact(zd.1 I).1
       have m:j<d.cells.size:=by omega
       rw[f,tF y (by omega) C];have D:=z2 j pv d.cells[j] I (by simp[m]);exact⟨d.cells[j],by simp[m],fun _=>D.1,.c D.1,D.2.1⟩)
     refine⟨_,_,_,_,hr,k,?_⟩;have:=qg.own (w:=w.alloc (.cells (madeCells d.cells (c.toNat*i.size)) e)) (S:=S) (G:=zI G Z ⟨w.heap.size,(madeCells d.cells (c.toNat*i.size)).size,n⟩) (Z:=Z+1) (id:=Z) (off:=0) (n:=l.toNat) (cap:=c.toNat) (by omega) g H (by simp[size_madeCells,f]) (by simpa using F);simpa using this
    ·cases h
   ·cases h
  ·cases h
 ·cases h
end
variable{dr:Prop}
section
variable{P:Program}{w:World}{S:Nat->Prop}{G:Nat->GI}{Y:Hp}{Z:Nat}
theorem kd.zbw{Y1:Hp}{r:World}(n:Inv P w S G Y Z)(a:∀id b,Y1 id=some b->Y id=some b)(f:GI)(e:TypeId)(A:Bool)(es:List zb)(cur:Array Value)
  (os:r.os=w.os) (E:r.tape=w.tape) (t:r.output=w.output) (x:w.heap.size<=r.heap.size) (B:w.drawn<=r.drawn)
  (D:Nat->Prop) (N:∀b,D b->jv Y G b/\¬S b/\∀id v,Y1 id=some v->(G id).g≠b)
  (m:∀b,b<w.heap.size->b≠f.g->¬D b->r.heap[b]?=w.heap[b]?) (C:∀id b,Y1 id=some b->(G id).g≠f.g) (F:¬S f.g) (H:jv Y G f.g\/w.heap.size<=f.g)
  (Q:0<f.s) (R:(P.info? e).map (·.size)=some f.s) (I:∀c∈es,c.length=f.s) (J:es.length*f.s<=f.z) (K:r.heap[f.g]?=some (.cells cur e (0,0))) (T:cur.size=f.z)
  (L:∀(i j:Nat) (c:zb) (M:O),es[i]?=some c->c[j]?=some M->∃u,cur[i*f.s+j]?=some u/\kF w S G Z A M u) :
  kd dr P Y Z S G w (zI Y1 Z (some ⟨e,f.s,A,es⟩)) (Z+1) S (zI G Z f) r:=by
 have U:∀b,S b->S b/\r.heap[b]?=w.heap[b]?:=fun b d=>⟨d,m b (n.st b d) (fun e=>F (e ▸ d)) fun h=>(N b h).2.1 d⟩
 have q:∀id,id<Z->zI G Z f id=G id:=fun id hid=>zc _ _ _ _ (by omega)
 have l:∀id,id≠Z->zI Y1 Z (some ⟨e,f.s,A,es⟩) id=Y1 id:=fun id hid=>zc _ _ _ _ hid
 refine⟨⟨fun b d=>wV (n.st b d) x,fun id b d=>?_,fun id b d=>?_,fun id b d=>?_,fun id id' b v d o y=>?_,n.aH.mono U⟩,by omega,q,fun _ d=>d,fun _ d=>.inl d,fun id b d=>?_,⟨os,E,t,x,fun _=>B,fun k hk X=>m k hk (fun e=>?_) fun h=>X (N k h).1⟩⟩
 ·by_cases hid:id=Z
  ·omega
  ·rw[l id hid]at d;have:=n.top id b (a id b d);omega
 ·by_cases hid:id=Z
  ·subst hid;simp only[qU]at d⊢;injection d with d
   subst d;refine .kG Q rfl ⟨R,I,J,cur,K,T,fun i j c M W hj=>?_⟩;obtain⟨u,h1,h2⟩:=L i j c M W hj;exact⟨u,h1,h2.mono U (by omega) q⟩
  ·rw[l id hid]at d;have ht:=n.top id b (a id b d);rw[q id ht];have hl:=n.live id b (a id b d);exact hl.mono U (by omega) q (m _ hl.lt (C id b d) fun h=>(N _ h).2.2 id b d rfl)
 ·by_cases hid:id=Z
  ·subst hid;simpa using F
  ·rw[l id hid]at d;rw[q id (n.top id b (a id b d))];exact n.apart id b (a id b d)
 ·by_cases hid:id=Z<;>by_cases p:id'=Z
  ·omega
  ·subst hid;rw[l id' p]at o;rw[q id' (n.top id' v (a id' v o))]at y;simp only[qU]at y;exact(C id' v o y.symm).elim
  ·subst p;rw[l id hid]at d;rw[q id (n.top id b (a id b d))]at y;simp only[qU]at y;exact(C id b d y).elim
  ·rw[l id hid]at d;rw[l id' p]at o;rw[q id (n.top id b (a id b d)),q id' (n.top id' v (a id' v o))]at y;exact n.inj id id' b v (a id b d) (a id' v o) y
 ·by_cases hid:id=Z
  ·subst hid;simpa using H
  ·rw[l id hid]at d;rw[q id (n.top id b (a id b d))];exact .inl ⟨id,b,a id b d,rfl⟩
 ·subst e;rcases H with h|h
  ·exact X h
  ·omega
theorem XQ(N:Inv P w S G Y Z){n:Nat}{x:O}{xs:List zb}{u:Value}(h:view Y n x=some xs)(t:qg w S G Z x u) :
  ∃(A:Option Addr) (c:Nat) (f:Nat->Value),u=.slice A xs.length c/\(∀m∈xs,m.length=n) /\
   ∀(i j:Nat) (m:zb) (d:O),xs[i]?=some m->m[j]?=some d->∃l,A=some l/\w.cell? (l.add (i*n+j))=some (f (i*n+j))/\kF w S G Z true d (f (i*n+j)):=by
 have Q:∀(A:Option Addr) (xs:List zb) (c:Nat),wG w S (.sl n xs) (.slice A xs.length c)->(∃us:Nat->Nat->Value,(∀m∈xs,m.length=n) /\
   (∀(i j:Nat) (c:zb) (d:O),xs[i]?=some c->c[j]?=some d->∃l,A=some l/\w.cell? (l.add (i*n+j))=some (us i j)/\(us i j).oneCell'=true/\wG w S d (us i j))):=by
  intro A xs c h;cases h with
  |sl us R H I y J E=>refine⟨us,y,fun i j c d a b=>?_⟩;obtain⟨l,e,_,p,r⟩:=J i j c d a b;exact⟨l,e,p,r,E i j c d a b⟩
 have z:∀(A:Option Addr) (c:Nat) (us:Nat->Nat->Value),(∀m∈xs,m.length=n) ->
   (∀(i j:Nat) (c:zb) (d:O),xs[i]?=some c->c[j]?=some d->∃l,A=some l/\w.cell? (l.add (i*n+j))=some (us i j)/\kF w S G Z true d (us i j))->u=.slice A xs.length c ->
   ∃(A:Option Addr) (c:Nat) (f:Nat->Value),u=.slice A xs.length c/\(∀m∈xs,m.length=n) /\
    ∀(i j:Nat) (m:zb) (d:O),xs[i]?=some m->m[j]?=some d->∃l,A=some l/\w.cell? (l.add (i*n+j))=some (f (i*n+j))/\kF w S G Z true d (f (i*n+j)):=by
  intro A c us H I y;refine⟨A,c,fun k=>match A with|some l=>(w.cell? (l.add k)).getD undef|none=>undef,y,H,fun i j m d o K=>?_⟩;obtain⟨l,rfl,p,r⟩:=I i j m d o K;exact⟨l,rfl,by simp[p],by simpa[p]using r⟩
 unfold view at h;split at h
 ·injection h with h;subst h;have:=t.xV;subst this;exact⟨none,0,fun _=>undef,rfl,by simp,by simp⟩
 ·injection h with h;subst h;obtain⟨l,cap,rfl,_⟩:=t.mZ;exact⟨some l,cap,fun _=>undef,rfl,by simp,by simp⟩
 ·rename_i s es;split at h
  ·rename_i hs;subst hs;injection h with h
   subst h;have L:=t.aI;cases L with
   |sl us R H I y J E=>refine z _ _ us y (fun i j c d a b=>?_) rfl;obtain⟨l,e,_,p,r⟩:=J i j c d a b;exact⟨l,e,p,fun _=>E i j c d a b,.c (E i j c d a b),r⟩
  ·cases h
 ·rename_i id off k;split at h
  ·rename_i b T;split at h
   ·rename_i L;injection h with h
    obtain⟨U,W,c3⟩:=L;have B:=t.xl;obtain⟨cap,p,r,g3,g4,rfl⟩:=t.vO;have q:=N.live id b T;obtain⟨cur,X,r2,r3⟩:=q.row B;have hs:(G id).s=n:=by rw[<-q.bs,W]
    have hl:xs.length=k:=by rw[<-h];simp;omega
    have C:∀(i:Nat) (c:zb),xs[i]?=some c->b.es[off+i]?=some c:=by
     intro i c o;rw[<-h,yu]at o;split at o
     ·rwa [yd]at o
     ·cases o
    refine z (some ⟨(G id).g,off*(G id).s,none⟩) cap (fun i j=>(cur[(off+i)*n+j]?).getD undef) (fun m D=>?_) (fun i j c d o K=>?_) (by rw[hl])
    ·rw[<-h]at D;rw[<-hs];exact q.len B m (fD _ _ (Kj _ _ D))
    ·obtain⟨v,F,M⟩:=r3 (off+i) j c d (C i c o) K;refine⟨_,rfl,?_,?_⟩
     ·rw[Xk,cell_of_row w _ _ cur _ _ X,hs];rw[hs]at F;rw[show off*n+(i*n+j)=(off+i)*n+j from by rw[yV];omega,F];rfl
     ·rw[hs]at F;simp only[F,vx];rw[U]at M;exact M
   ·cases h
  ·cases h
 ·cases h
theorem Lo{n k m:Nat}(a:0<n)(b:k<m*n):k/n<m/\k % n<n/\k/n*n+k % n=k:=by refine⟨(Nat.div_lt_iff_lt_mul a).2 b,Nat.mod_lt _ a,?_⟩;rw[cA];exact Nat.div_add_mod k n
theorem oe{n:Nat}{xs:List zb}{A:Option Addr}{f:Nat->Value}(m:0<n)(o:∀b∈xs,b.length=n)
  (h:∀(i j:Nat) (b:zb) (c:O),xs[i]?=some b->b[j]?=some c->∃a,A=some a/\w.cell? (a.add (i*n+j))=some (f (i*n+j))/\kF w S G Z true c (f (i*n+j))) :
  ∀k,k<xs.length*n->∃a,A=some a/\w.cell? (a.add k)=some (f k)/\(f k).oneCell'=true:=by
 intro k p;obtain⟨d,t,q⟩:=Lo m p;have r:xs[k/n]?=some xs[k/n]:=zm d;have s:xs[k/n].length=n:=o _ (zo d);obtain⟨a,e,g,l⟩:=h (k/n) (k % n) _ (xs[k/n][k % n]'(by omega)) r (zm (by omega));rw[q]at g l;exact⟨a,e,g,l.2.2⟩
theorem ra(t ty e:TypeId)(i:TypeInfo)(z:Value)(s:P.underlying t=some (.slice e))(x:P.info? e=some i)(D:i.zero=some z)(F:0<i.size)
  (v:Value) (n:Nat) (xs:List Value) (h:w.ownsRow 0 e i.size v n xs) (a:Addr) (m c:Nat) (b:List Value) (p:b.length=m*i.size) (d:∀j u,b[j]?=some u->w.cell? (a.add j)=some u) (G:∀u∈b,u.oneCell'=true)
  (A:n+m<=maxLen) (f:(n+m)*i.bytes<=140737488355328) {H:Value} {E:World} (r:(Builtin.append_ #[t,t] ty #[v,.slice (some a) m c]).run P w=.ok H E):w.drawn<=E.drawn:=by
 have y:n+m<=9223372036854775807:=by simp only[maxLen]at A;omega
 rcases h.2 with⟨rfl,rfl⟩|⟨g,cap,cur,rfl,I,J,K,L,B,C⟩
 ·by_cases M:m=0
  ·subst M;have N:b=[]:=wI (by simpa using p);subst N;have l:(Builtin.append_ #[t,t] ty #[.slice none 0 0,.slice (some a) 0 c]).run P w=.ok (.slice none 0 0) w:=by simp[Builtin.append_,zK s,sizeOf,typeInfo,x,Builtin.lenOf,Builtin.firstCells,loadCells,loadCellsFrom]
   rw[l]at r;injection r with _ r
   rw[<-r];exact zk _
  ·have l:=run_append_nil (P:=P) w t ty e i z s x D a m c b p d (by omega) (by omega) (by have Q:=f;simp only[zu]at Q;omega);rw[l]at r;injection r with _ r
   rw[<-r];exact yJ _
 ·by_cases k:n+m<=cap
  ·have q:n*i.size+b.length<=cur.size:=by rw[p,B,<-yV];exact qA _ k
   have l:=run_append_room (P:=P) w t ty e i s x g n cap cur J a m c b p d G k q;rw[l]at r;injection r with _ r
   rw[<-r];exact zk _
  ·have o:∀j u,xs[j]?=some u->w.cell? ((⟨g,0,none⟩:Addr).add j)=some u:=h.cells (g:=g) rfl;have l:=run_append_grow (P:=P) w t ty e i z s x D ⟨g,0,none⟩ n cap xs h.1 o a m c b p d (by omega) (by omega) (growslice_fits (by omega) f);rw[l]at r;injection r with _ r
   rw[<-r];exact yJ _
def Ct(P:Program)(w:World)(t t' ty e:TypeId)(n f m:Nat)(x:Value)(b:List Value):Prop:=
 ∀(base:Nat) (v:Value) (k:Nat) (a:List Value),w.ownsRow base e n v k a->base<=w.heap.size->k+m<=maxLen->(k+m)*f<=140737488355328 ->
  ∃c d,(Builtin.append_ #[t,t'] ty #[v,x]).run P w=.ok c d/\d.ownsRow base e n c (k+m) (a++b)/\w.grownBy d v.ownBlock/\(c.ownBlock=v.ownBlock\/c.ownBlock=some w.heap.size)/\w.drawn<=d.drawn/\(m=0->c=v/\d=w)
theorem Gj{t ty e:TypeId}{n d:Nat}{i:TypeInfo}{y:Value}(p:P.underlying t=some (.slice e))(z:P.info? e=some i)(F:i.zero=some y)(l:i.size=n)(r:i.bytes=d)(C:y.cells.size=n)(G:0<n)
  {A:Option Addr} {m c:Nat} {f:Nat->Value} (D:∀k,k<m*n->∃q,A=some q/\w.cell? (q.add k)=some (f k)/\(f k).oneCell'=true):Ct P w t t ty e n d m (.slice A m c) ((List.range (m*n)).map f):=by
 intro base v k b a o s H;by_cases I:m=0
 ·subst I;refine⟨v,w,?_,by simpa using a,World.grownBy.refl w _,.inl rfl,zk _,fun _=>⟨rfl,rfl⟩⟩;rcases a.2 with⟨rfl,_⟩|⟨g,cap,cur,rfl,_,_,M,_⟩
  ·cases A<;>simp[Builtin.append_,zK p,sizeOf,typeInfo,z,Builtin.lenOf,Builtin.firstCells,loadCells,loadCellsFrom]
  ·cases A<;>simp[Builtin.append_,zK p,sizeOf,typeInfo,z,Builtin.lenOf,Builtin.firstCells,loadCells,loadCellsFrom,M,storeCells]
 ·obtain⟨q,rfl,_,_⟩:=D 0 (Nat.mul_pos (by omega) G);have J:∀j u,((List.range (m*n)).map f)[j]?=some u->w.cell? (q.add j)=some u:=fun j u B=>by
   have x:j<m*n:=by have:=(zd.1 B).1;simpa using this
   obtain⟨N,E,Q,_⟩:=D j x;injection E with E;subst E;rw[qq,xG x]at B;simp at B;rw[Q,B]
  have K:∀u∈(List.range (m*n)).map f,u.oneCell'=true:=fun u p=>by obtain⟨k,R,rfl⟩:=zZ.1 p;exact(D k (yK.1 R)).choose_spec.2.2
  obtain⟨S,T,L,U,W,r4,X⟩:=run_append_own_at (P:=P) w base t ty e i y n d p z F l r C G v k b a q m c ((List.range (m*n)).map f) (by simp) J K s H o;refine⟨S,T,L,U,W,X,?_,fun h=>(I h).elim⟩;exact ra t ty e i y p z F (by omega) v k b (by rw[l];exact⟨a.1,a.2.imp (fun h=>h) fun⟨g,cap,cur,q1,_,q2⟩=>⟨g,cap,cur,q1,jS _,q2⟩⟩) q m c ((List.range (m*n)).map f) (by simp[l]) J K s (by rw[r];exact H) L
theorem RD{t u ty e:TypeId}{i:TypeInfo}(q:P.underlying t=some (.slice e))(hs:P.underlying u=some .string)(r:P.info? e=some i)(z:i.zero=some (.int .u8 0))(b:i.size=1)(f:i.bytes=1)(s:ByteArray) :
  Ct P w t u ty e 1 1 s.size (.string s) (Lib.strCells s):=by
 intro base v k c a j x D;rw[Nat.mul_one]at D;have F:c.length=k:=by simpa using a.1
 have y:k+s.size<=9223372036854775807:=by simp only[maxLen]at x;omega
 obtain⟨G,H,d,I,J,S⟩:=Lib.run_append_own_string (P:=P) w base t u ty e i q hs r z b f v k c a s x D j;refine⟨G,H,d,I,J,?_⟩;by_cases l:s.size=0
 ·have m:(Builtin.append_ #[t,u] ty #[v,.string s]).run P w=.ok v w:=by
   have K:Lib.strCells s=[]:=wI (by rw[Lib.strCells_length];exact l);have A:=Lib.run_firstCells_string (P:=P) w 1 s;rw[l,K]at A;rcases a.2 with⟨rfl,_⟩|⟨g,cap,cur,rfl,_,_,L,_⟩
   ·simp[Builtin.append_,zK q,zK hs,sizeOf,typeInfo,r,b,Builtin.lenOf,l,A]
   ·simp[Builtin.append_,zK q,zK hs,sizeOf,typeInfo,r,b,Builtin.lenOf,l,A,L,storeCells]
  rw[m]at d;injection d with n o
  subst n;subst o;exact⟨.inl rfl,zk _,fun _=>⟨rfl,rfl⟩⟩
 ·rcases a.2 with⟨rfl,rfl⟩|⟨g,cap,cur,rfl,M,N,Q,R,B,C⟩
  ·have m:=run_append_nil_string (P:=P) w t u ty e i (.int .u8 0) q hs r z s (by omega) (by omega) (by rw[f];omega);rw[m]at d;injection d with n o
   subst n;subst o;exact⟨.inr rfl,yJ _,fun h=>(l h).elim⟩
  ·have E:cur.size=cap:=by simpa using B
   by_cases p:k+s.size<=cap
   ·have m:=Lib.run_append_room_string (P:=P) w t u ty e i q hs r b g k cap cur N s p (by omega);rw[m]at d;injection d with n o
    subst n;subst o;exact⟨.inl rfl,zk _,fun h=>(l h).elim⟩
   ·have m:=Lib.run_append_grow_string (P:=P) w t u ty e i (.int .u8 0) q hs r z ⟨g,0,none⟩ k cap c (by rw[b];omega) (a.cells (g:=g) rfl) s (by omega) (by omega) (growslice_fits (by omega) (by rw[f];omega));rw[m]at d;injection d with n o
    subst n;subst o;exact⟨.inr rfl,yJ _,fun h=>(l h).elim⟩
theorem Gk{e:TypeId}(h:tC P e=true):∃i,P.info? e=some i/\i.zero=some (.int .u8 0)/\i.size=1/\i.bytes=1:=by
 unfold tC at h;split at h
 ·rename_i i a;split at h
  ·rename_i z b;simp only[zn,w7]at h;obtain⟨⟨rfl,c⟩,d⟩:=h;exact⟨i,a,b,c,d⟩
  ·cases h
 ·cases h
theorem Lp{u:TypeId}(h:Lh P u=true):P.underlying u=some .string:=by
 unfold Lh at h;split at h
 ·assumption
 ·cases h
theorem tG(B:Inv P w S G Y Z){t t' ty:TypeId}{s x y:O}{Y':Hp}{Z':Nat}{u v:Value}(h:jG P Y Z t t' s x=some (y,Y',Z'))(hs:qg w S G Z s u)(hx:qg w S G Z x v) :
  Qo dr P w Y Z S G y Y' Z' ((Builtin.append_ #[t,t'] ty #[u,v]).run P w):=by
 unfold jG at h;split at h
 ·rename_i e he;split at h
  ·rename_i n by_ z h1 h2 h3;split at h
   ·rename_i xs H;obtain⟨i,vz,i1,i2,i3⟩:=JA h3;have hsz:i.size=n:=by simpa[qN,i1]using h1
    have hby:i.bytes=by_:=by simpa[vi,i1]using h2
    have hzl:=(kR (w:=w) (S:=S) i3).1;have hu:=vU he;have M:0<n->z.length=n->∃m,Ct P w t t' ty e n by_ xs.length v m/\m.length=xs.length*n/\(∀d∈xs,d.length=n) /\
      ∀(i j:Nat) (d:zb) (p:O),xs[i]?=some d->d[j]?=some p->∃Q,m[i*n+j]?=some Q/\kF w S G Z true p Q:=by
     intro hn hzl';unfold gw at H;split at H
     ·rename_i b;split at H
      ·rename_i X;injection H with H
       subst H;obtain⟨i',j1,j2,j3,j4⟩:=Gk X.2;rw[i1]at j1;injection j1 with j1
       subst j1;have hn1:n=1:=by omega
       have tx:by_=1:=by omega
       subst hn1;subst tx;have hvs:v=.string b:=by
        cases hx with
        |c h=>cases h;rfl
       subst hvs;have hl:(b.data.toList.map fun c=>[O.v (.int .u8 c.toNat)]).length=b.size:=by rw[wx,Array.length_toList];rfl
       refine⟨Lib.strCells b,by rw[hl];exact RD hu (Lp X.1) i1 j2 j3 j4 b,by rw[hl,Lib.strCells_length,Nat.mul_one],fun d R=>?_,fun i j d p a q=>?_⟩
       ·obtain⟨x,_,rfl⟩:=zZ.1 R;rfl
       ·rw[qq]at a;obtain⟨x,hx1,rfl⟩:=WG.1 a;obtain rfl:j=0:=by have:=(zd.1 q).1;simpa using this
        simp only[XN,qV]at q;subst q;refine⟨.int .u8 x.toNat,?_,fun _=>.v rfl,.c (.v rfl),rfl⟩;unfold Lib.strCells;rw[qq,Nat.mul_one,xU,hx1];rfl
      ·cases H
     ·split at H
      ·rename_i he';subst he';obtain⟨A,c,f,rfl,J,f2⟩:=XQ B H hx;have hzc:vz.cells.size=n:=by rw[<-hzl',hzl];simp
       refine⟨(List.range (xs.length*n)).map f,Gj hu i1 i2 hsz hby hzc hn (oe hn J f2),by simp,J,fun i j d p a q=>?_⟩;obtain⟨ad',a1,a2,a3⟩:=f2 i j d p a q;have r:j<n:=by rw[<-J d (zE a)];exact(zd.1 q).1
       have D:i<xs.length:=(zd.1 a).1;have E:=ZZ (n:=xs.length) D r;exact⟨f (i*n+j),by rw[qq,xG E];rfl,a3⟩
      ·cases H
    split at h
    ·split at h
     ·rename_i X;obtain⟨c1,c2,c3,c4⟩:=X;have:=hs.xV;subst this;obtain⟨m,hA,_,J,f2⟩:=M c1 c2;split at h
      ·rename_i hm;injection h with h
       injection h with ey h;injection h with eh en;subst ey;subst eh;subst en;obtain⟨v',w',r1,_,_,_,_,r6⟩:=hA w.heap.size (.slice none 0 0) 0 [] (World.ownsRow_nil w _ e n) (zk _) (by simpa using c3) (by simpa using c4);obtain⟨rfl,rfl⟩:=r6 hm;exact qv (v:=.slice none 0 0) B r1 (.c .nil)
      ·rename_i hm;injection h with h
       injection h with ey h;injection h with eh en;subst ey;subst eh;subst en;obtain⟨v',w',r1,r2,C,r5,rd,_⟩:=hA w.heap.size (.slice none 0 0) 0 [] (World.ownsRow_nil w _ e n) (zk _) (by simpa using c3) (by simpa using c4);simp only[zu,ye]at r2;rcases r2.2 with⟨e1,e2⟩|⟨g,cap,cur,rfl,e2,e3,e4,e5,e6,e7⟩
       ·exact(hm e2).elim
       ·have hg:g=w.heap.size:=by rcases r5 with h5|h5<;>simp[Value.ownBlock]at h5;exact h5
        subst hg;have k:=kd.zbw (dr:=dr) (Y1:=Y) B (fun _ _ h=>h) ⟨w.heap.size,cur.size,n⟩ e true xs cur C.os C.tape C.output C.size rd (fun _=>False) (fun _ h=>h.elim) (fun b I T _=>C.block b I (by simp[Value.ownBlock])) (fun id b I=>Nat.ne_of_lt (B.live id b I).lt)
         (fun hS=>by have:=B.st _ hS;simp at this) (.inr (zk _)) c1 (by simpa[qN]using h1) J (by rw[e6];exact qA _ e4) e3 rfl (fun i' j d p a q=>by
          obtain⟨Q,a1,a3⟩:=f2 i' j d p a q;have r:j<n:=by rw[<-J d (zE a)];exact(zd.1 q).1
          have D:i'<xs.length:=(zd.1 a).1;have E:=ZZ (n:=xs.length) D r;refine⟨Q,?_,a3⟩;have h7:(cur.toList.take (xs.length*n))[i'*n+j]?=some Q:=by rw[e7];exact a1
          rw[yu,zl E]at h7;simpa using h7)
        refine⟨_,_,_,_,r1,k,?_⟩;have:=qg.own (w:=w') (S:=S) (G:=zI G Z ⟨w.heap.size,cur.size,n⟩) (Z:=Z+1) (id:=Z) (off:=0) (n:=xs.length) (cap:=cap) (by omega) e4 e5 (by simp[e6]) (by simpa using c1);simpa using this
     ·cases h
    ·rename_i id k;split at h
     ·rename_i b I;split at h
      ·rename_i X;obtain⟨c0,c1,c2,c3,c4,c5,c6⟩:=X;injection h with h
       injection h with ey h;injection h with eh en;subst ey;subst eh;subst en;have K:=hs.xl;obtain⟨cap,g1,g2,g3,g4,rfl⟩:=hs.vO;have hzc:vz.cells.size=n:=by rw[<-c4,hzl];simp
       have F:=B.live id b I;obtain⟨cur,q1,q2,q3⟩:=F.row K;have L:(G id).s=n:=by
        have h5:=F.size K;rw[c1]at h5;have h6:(P.info? e).map (·.size)=some n:=by simpa[qN]using h1
        rw[h6]at h5;injection h5 with h5
        exact h5.symm
       have hg0:(⟨(G id).g,0*(G id).s,none⟩:Addr)=⟨(G id).g,0,none⟩:=by simp
       rw[hg0];have hcz:cur.size=cap*n:=by rw[q2,<-g4,L];simp
       have N:w.ownsRow 0 e n (.slice (some ⟨(G id).g,0,none⟩) k cap) k (cur.toList.take (k*n)):=by refine⟨?_,.inr ⟨(G id).g,cap,cur,rfl,jS _,by rw[<-c1];exact q1,g2,g3,hcz,rfl⟩⟩;simp only[fE,Array.length_toList,hcz];exact Nat.min_eq_left (qA _ g2)
       have hsub:∀id' o,zI Y id none id'=some o->Y id'=some o:=fun id' o h=>jK h
       have hnl:∀id' o,zI Y id none id'=some o->(G id').g≠(G id).g:=fun id' o h he=>by
        have T:id'≠id:=by rintro rfl;simp at h
        exact T (B.inj id' id o b (jK h) I he)
       obtain⟨m,hA,_,J,f2⟩:=M c3 c4;obtain⟨v',w',r1,r2,C,r5,rd,_⟩:=hA 0 _ k _ N (jS _) c5 c6;simp only[Value.ownBlock]at C r5;rcases r2.2 with⟨e1,e2⟩|⟨g,cap',l,rfl,e2,e3,e4,e5,e6,e7⟩
       ·subst e1;simp[Value.ownBlock]at r5
       ·have hg:g=(G id).g\/g=w.heap.size:=by simpa[Value.ownBlock]using r5
        have hgl:=F.lt;have hrow:∀(i' j:Nat) (d:zb) (p:O),(b.es++xs)[i']?=some d->d[j]?=some p->∃u,l[i'*n+j]?=some u/\kF w S G Z true p u:=by
         intro i' j d p a q;have hcl:d.length=n:=by
          rcases wy.1 (zE a)with h|h
          ·rw[<-L];exact F.len K d h
          ·exact J d h
         have r:j<n:=by rw[<-hcl];exact(zd.1 q).1
         have D:i'<k+xs.length:=by have:=(zd.1 a).1;simp at this;omega
         have E:=ZZ (n:=k+xs.length) D r;have h7:(l.toList.take ((k+xs.length)*n))[i'*n+j]?=l[i'*n+j]?:=by rw[yu,zl E];simp
         rw[<-h7,e7];have hkl:(cur.toList.take (k*n)).length=k*n:=N.1;by_cases U:i'<k
         ·have hlt':=ZZ (n:=k) U r;rw[je (by rw[c2]at U;exact U)]at a;rw[je (by omega),yu,zl hlt'];obtain⟨Q,u1,u2⟩:=q3 i' j d p a q;rw[L]at u1;rw[c0]at u2;exact⟨Q,by simpa using u1,u2⟩
         ·rw[qo (by omega),<-c2]at a;have hge:k*n<=i'*n:=qA _ (by omega);rw[qo (by omega),hkl];have hkk:i'*n+j-k*n=(i'-k)*n+j:=by rw[Nat.sub_mul];omega
          rw[hkk];exact f2 (i'-k) j d p a q
        have k2:=kd.zbw (dr:=dr) (Y1:=zI Y id none) B hsub ⟨g,l.size,n⟩ e true (b.es++xs) l C.os C.tape C.output C.size rd
         (fun o=>o=(G id).g) (fun o W=>by subst W;exact⟨⟨id,b,I,rfl⟩,B.apart id b I,hnl⟩)
         (fun o W T hbg=>C.block o W (by simpa using hbg))
         (fun id' o h=>by
          rcases hg with h'|h'
          ·simp only[h'];exact hnl id' o h
          ·simp only[h'];exact Nat.ne_of_lt (B.live id' o (jK h)).lt)
         (by
          rcases hg with h'|h'
          ·simp only[h'];exact B.apart id b I
          ·simp only[h'];intro hS;have:=B.st _ hS;simp at this)
         (by
          rcases hg with h'|h'
          ·simp only[h'];exact .inl ⟨id,b,I,rfl⟩
          ·simp only[h'];exact .inr (zk _))
         c3 (by simpa[qN]using h1)
         (fun d R=>by
          rcases wy.1 R with h|h
          ·simp only[<-L];exact F.len K d h
          ·exact J d h)
         (by rw[zt,<-c2,e6];exact qA _ e4) e3 rfl hrow
        refine⟨_,_,_,_,r1,k2,?_⟩;have:=qg.own (w:=w') (S:=S) (G:=zI G Z ⟨g,l.size,n⟩) (Z:=Z+1) (id:=Z) (off:=0) (n:=k+xs.length) (cap:=cap') (by omega) e4 e5 (by simp[e6]) (by simpa using c3);simpa using this
      ·cases h
     ·cases h
    ·cases h
   ·cases h
  ·cases h
 ·cases h
end
variable{dr:Prop}
section
variable{P:Program}{w:World}{S:Nat->Prop}{G:Nat->GI}{Y:Hp}{Z:Nat}
theorem kd.allocMap(h:Inv P w S G Y Z)(t:TypeId):kd dr P Y Z S G w (zI Y Z (some ⟨t,0,false,[]⟩)) (Z+1) S (zI G Z ⟨w.heap.size,0,0⟩) (w.alloc (.map #[] 0)):=by
 have j:∀b,b<w.heap.size->(w.alloc (.map #[] 0)).heap[b]?=w.heap[b]?:=fun b a=>Below.heap_alloc w _ b a
 have r:∀b,S b->S b/\(w.alloc (.map #[] 0)).heap[b]?=w.heap[b]?:=fun b a=>⟨a,j b (h.st b a)⟩
 have n:∀id,id<Z->zI G Z ⟨w.heap.size,0,0⟩ id=G id:=fun id hid=>zc _ _ _ _ (by omega)
 have d:∀id,id≠Z->zI Y Z (some (⟨t,0,false,[]⟩:Blk)) id=Y id:=fun id hid=>zc _ _ _ _ hid
 have l:(w.alloc (.map #[] 0)).heap.size=w.heap.size+1:=by show(w.heap.push _).size=_;simp
 have o:∀id b,Y id=some b->(G id).g<w.heap.size:=fun id b a=>(h.live id b a).lt
 refine⟨⟨fun b a=>by rw[l];have:=h.st b a;omega,fun id b a=>?_,fun id b a=>?_,fun id b a=>?_,fun id id' b q a f p=>?_,h.aH.mono r⟩,by omega,n,fun _ a=>a,fun _ a=>.inl a,fun id b a=>?_,⟨rfl,rfl,rfl,by rw[l];omega,fun _=>zk _,fun k s _=>j k s⟩⟩
 ·by_cases hid:id=Z
  ·omega
  ·rw[d id hid]at a;have:=h.top id b a;omega
 ·by_cases hid:id=Z
  ·subst hid;simp only[qU]at a⊢;injection a with a
   subst a;exact⟨rfl,fun u=>absurd u (by simp),fun _=>⟨⟨#[],0,heap_alloc_new w _,rfl,fun i c e v _=>by simp at v⟩,#[],0,heap_alloc_new w _,by simp[Stamped]⟩⟩
  ·rw[d id hid]at a;have x:=h.top id b a;rw[n id x];exact(h.live id b a).mono r (by omega) n (j _ (o id b a))
 ·by_cases hid:id=Z
  ·subst hid;simp only[qU];intro hs;have:=h.st _ hs;omega
  ·rw[d id hid]at a;rw[n id (h.top id b a)];exact h.apart id b a
 ·by_cases hid:id=Z<;>by_cases m:id'=Z
  ·omega
  ·subst hid;rw[d id' m]at f;rw[n id' (h.top id' q f)]at p;have:=o id' q f;simp at p;omega
  ·subst m;rw[d id hid]at a;rw[n id (h.top id b a)]at p;have:=o id b a;simp at p;omega
  ·rw[d id hid]at a;rw[d id' m]at f;rw[n id (h.top id b a),n id' (h.top id' q f)]at p;exact h.inj id id' b q a f p
 ·by_cases hid:id=Z
  ·subst hid;simp
  ·rw[d id hid]at a;rw[n id (h.top id b a)];exact .inl ⟨id,b,a,rfl⟩
theorem Stamped.push{en:Array MapEntry}{c:Nat}(h:Stamped en c)(v z:Value):Stamped (en.push {key:=v,val:=z,born:=c}) (c+1):=by
 obtain⟨e,f⟩:=h;refine⟨fun x d=>?_,?_⟩
 ·simp only[Array.toList_push,wy,yf]at d;rcases d with d|rfl
  ·exact Nat.lt_succ_of_lt (e x d)
  ·exact PO _
 ·rw[Array.toList_push,yZ,List.nodup_append];refine⟨f,by simp,fun a g b i=>?_⟩;obtain⟨x,d,rfl⟩:=zZ.1 g;simp only[zG,ji,yf]at i;have:=e x d;omega
theorem Stamped.modify{en:Array MapEntry}{clock:Nat}(h:Stamped en clock)(i:Nat)(v z:Value):Stamped (en.modify i fun e=>{e with key:=v,val:=z}) clock:=by
 have a:((en.modify i fun e=>{e with key:=v,val:=z}).toList.map (·.born))=en.toList.map (·.born):=by
  apply List.ext_getElem?;intro j;simp only[qq,Array.getElem?_toList,Zz];split
  ·cases en[j]?<;>rfl
  ·rfl
 refine⟨fun x b=>?_,by rw[a];exact h.2⟩;have:x.born∈en.toList.map (·.born):=by rw[<-a];exact zZ.2 ⟨x,b,rfl⟩
 obtain⟨y,c,e⟩:=zZ.1 this;have:=h.1 y c;omega
theorem kd.PU(h:Inv P w S G Y Z){id:Nat}{b:Blk}(hid:Y id=some b)(r:(G id).s=0)(en:Array MapEntry)(a:Nat)(es:List zb)(t:Stamped en a)(B:en.size=es.length)
  (n:∀(i:Nat) (c:zb) (e:MapEntry),es[i]?=some c->en[i]?=some e->cF w S c e) :
  kd dr P Y Z S G w (zI Y id (some ⟨b.e,b.s,b.arr,es⟩)) Z S G {w with heap:=w.heap.setIfInBounds (G id).g (.map en a)}:=by
 obtain⟨C,p,o,_⟩:=((h.live id b hid).I4 r).row;have l:=MapKept.heap_set (o':=Obj.map en a) o;have j:∀k,k≠(G id).g->(w.heap.setIfInBounds (G id).g (.map en a))[k]?=w.heap[k]?:=l.2;have u:∀b,S b->S b/\(w.heap.setIfInBounds (G id).g (.map en a))[b]?=w.heap[b]?:=fun k f=>⟨f,j k fun e=>h.apart id b hid (e ▸ f)⟩
 have m:∀k,k≠id->zI Y id (some (⟨b.e,b.s,b.arr,es⟩:Blk)) k=Y k:=fun k f=>zc _ _ _ _ f
 refine⟨⟨fun k f=>by show k<(w.heap.setIfInBounds _ _).size;simpa using h.st k f,fun k c f=>?_,fun k c f=>?_,fun k c f=>?_,fun k q c v f x y=>?_,h.aH.mono u⟩,zk _,fun _ _=>rfl,fun _ z=>z,fun _ z=>.inl z,fun k c f=>?_,⟨rfl,rfl,rfl,by simp,fun _=>zk _,fun k _ D=>j k fun e=>D ⟨id,b,hid,e.symm⟩⟩⟩
 ·by_cases d:k=id
  ·subst d;exact h.top _ b hid
  ·rw[m k d]at f;exact h.top k c f
 ·by_cases d:k=id
  ·subst d;simp only[qU]at f;injection f with f
   subst f;refine⟨(h.live _ b hid).bs,fun R=>by omega,fun _=>⟨⟨en,a,l.1,B,fun i c e E y=>?_⟩,en,a,l.1,t⟩⟩;obtain⟨q,F,H,I,J,K⟩:=n i c e E y;exact⟨q,F,H,I,J,K.mono u⟩
  ·rw[m k d]at f;exact(h.live k c f).mono u (zk _) (fun _ _=>rfl) (j _ fun e=>d (h.inj k id c b f hid e))
 ·by_cases d:k=id
  ·subst d;exact h.apart _ b hid
  ·rw[m k d]at f;exact h.apart k c f
 ·have A:∀k c,zI Y id (some (⟨b.e,b.s,b.arr,es⟩:Blk)) k=some c->∃v,Y k=some v:=by
   intro k c f;by_cases d:k=id
   ·subst d;exact⟨b,hid⟩
   ·rw[m k d]at f;exact⟨c,f⟩
  obtain⟨L,M⟩:=A k c f;obtain⟨N,Q⟩:=A q v x;exact h.inj k q L N M Q y
 ·by_cases d:k=id
  ·subst d;exact .inl ⟨_,b,hid,rfl⟩
  ·rw[m k d]at f;exact .inl ⟨k,c,f,rfl⟩
theorem rb(a:Inv P w S G Y Z)(t:TypeId):Qo dr P w Y Z S G (.mp Z) (zI Y Z (some ⟨t,0,false,[]⟩)) (Z+1) ((Instr.makeMap t none).run P w):=by refine⟨.map (some w.heap.size),w.alloc (.map #[] 0),S,zI G Z ⟨w.heap.size,0,0⟩,by simp[Instr.makeMap],kd.allocMap a t,?_⟩;have:=qg.mp (w:=w.alloc (.map #[] 0)) (S:=S) (G:=zI G Z ⟨w.heap.size,0,0⟩) (Z:=Z+1) (id:=Z) (by omega) (by simp);simpa using this
theorem gE{t:TypeId}{f:Option IntKind}{g:TypeId}(h:KL P t=some (f,g)):∃a d,P.underlying t=some (.map a g)/\P.underlying a=some d/\(∀k,WS f k=true->MapKept.IsKey d k)/\(d=.string\/∃i,d=.int i):=by
 unfold KL at h;split at h
 ·rename_i a l j;split at h
  ·rename_i i b;injection h with h
   injection h with c e;subst c;subst e;exact⟨a,.int i,j,b,fun k b=>by cases k<;>simp_all[WS,MapKept.IsKey],.inr ⟨i,rfl⟩⟩
  ·rename_i b;injection h with h
   injection h with c e;subst c;subst e;exact⟨a,.string,j,b,fun k b=>by cases k<;>simp_all[WS,MapKept.IsKey],.inl rfl⟩
  ·cases h
 ·cases h
theorem dW{d:TypeDesc}{a b:Value}{r:Bool}(hd:d=.string\/∃i,d=.int i)(c:MapKept.IsKey d a)(h:xd a b=some r):Instr.sameNow d a b=some r:=by
 unfold xd at h;split at h
 ·rename_i k x f y;rcases hd with rfl|⟨i,rfl⟩
  ·simp[MapKept.IsKey]at c
  ·split at h
   ·rename_i e;simpa[Instr.sameNow,e]using h
   ·cases h
 ·rename_i x y;rcases hd with rfl|⟨i,rfl⟩
  ·injection h with h;simp only[Instr.sameNow,qV];rw[<-h,wO,MapKept.bytes_beq,w7];exact⟨fun e=>by rw[e],fun e=>by obtain⟨x⟩:=x;obtain⟨y⟩:=y;congr 1;exact(by rw[kp,kp]at e;exact PQ.1 e)⟩
  ·simp[MapKept.IsKey]at c
 ·cases h
theorem Y5{d:TypeDesc}{k:Value}(hd:d=.string\/∃i,d=.int i)(b:MapKept.IsKey d k):∀{es:List zb} {en:List MapEntry} {i:Nat} {r:Option (Nat×O)},es.length=en.length->(∀(j:Nat) (c:zb) (e:MapEntry),es[j]?=some c->en[j]?=some e->cF w S c e)->xe k es i=some r ->
  (r=none/\Instr.findNow d k en i=some none)\/∃j v e,r=some (i+j,v)/\Instr.findNow d k en i=some (some (i+j,e.val))/\en[j]?=some e/\wG w S v e.val/\xd k e.key=some true/\j<es.length
 |[],[],i,r,_,_,h=>by
  simp only[xe]at h;injection h with h
  exact .inl ⟨h.symm,rfl⟩
 |[],e::en,_,_,a,_,_=>by simp at a
 |c::es,[],_,_,a,_,_=>by simp at a
 |c::es,e::en,i,r,a,l,h=>by
  obtain⟨z,v,rfl,n,_,o⟩:=l 0 c e rfl rfl;simp only[xe]at h;subst n;split at h
  ·rename_i hs;injection h with h
   subst h;refine .inr ⟨0,v,e,rfl,?_,rfl,o,hs,by simp⟩;simp[Instr.findNow,dW hd b hs]
  ·rename_i hs;have m:=dW hd b hs;rcases Y5 hd b (es:=es) (en:=en) (i:=i+1) (r:=r) (by simpa using a) (fun j c e p q=>l (j+1) c e (by simpa using p) (by simpa using q)) h with⟨f,g⟩|⟨j,s,t,f,g,u,x,y,A⟩
   ·exact .inl ⟨f,by simp[Instr.findNow,m,g]⟩
   ·refine .inr ⟨j+1,s,t,by rw[f];congr 2;omega,?_,by simpa using u,x,y,by simp;omega⟩;simp only[Instr.findNow,m,g];congr 3;omega
  ·cases h
theorem og{t:TypeId}{z:O}(h:aQ P t=some z):∃v,(zeroValue t).run P w=.ok v w/\wG w S z v:=by
 unfold aQ at h;cases a:P.info? t with
 |none=>rw[a]at h;cases h
 |some i=>
  rw[a]at h;simp only[zW]at h;cases b:i.zero with
  |none=>rw[b]at h;cases h
  |some v=>rw[b]at h;exact⟨v,QN a b w,dV h⟩
theorem Lq(f:Inv P w S G Y Z){x:O}{u:Value}{es:List zb}(h:dU Y x=some es)(d:qg w S G Z x u) :
  (u=.map none/\es=[])\/∃r en a,u=.map (some r)/\w.heap[r]?=some (.map en a)/\en.size=es.length/\∀(i:Nat) (c:zb) (e:MapEntry),es[i]?=some c->en[i]?=some e->cF w S c e:=by
 unfold dU at h;split at h
 ·rename_i id;obtain⟨n,g,rfl⟩:=d.PT;split at h
  ·rename_i b j;split at h
   ·injection h with h;subst h;obtain⟨en,a,k,l,m⟩:=((f.live id b j).I4 g).row;exact .inr ⟨_,en,a,rfl,k,l,m⟩
   ·cases h
  ·cases h
 ·injection h with h;obtain⟨rfl,_⟩:=d.wZ;exact .inl ⟨rfl,h.symm⟩
 ·cases h
theorem tI(o:Inv P w S G Y Z){t:TypeId}{p q x:O}{u v:Value}{s:Bool}(h:xf P Y t p q s=some x)(Y':qg w S G Z p u)(hq:qg w S G Z q v):Qo dr P w Y Z S G x Y Z ((Instr.lookup t u v s).run P w):=by
 unfold xf at h;split at h
 ·rename_i kk E es k H I;obtain⟨kt,d,A,g,J,hd⟩:=gE H;obtain⟨rfl,_⟩:=hq.wZ;split at h
  ·rename_i hc;have f:=J v hc;rcases Lq o I Y' with⟨rfl,rfl⟩|⟨r,en,K,rfl,F,W,X⟩
   ·simp only[xe]at h;obtain⟨z,L,m⟩:∃z,aQ P E=some z/\(if s=true then O.qZ [z,.v (.bool false)]else z)=x:=by
     cases B:aQ P E with
     |none=>rw[B]at h;cases h
     |some z=>rw[B]at h;injection h with h;exact⟨z,rfl,h⟩
    obtain⟨C,l,n⟩:=og (w:=w) (S:=S) L;have D:Instr.findNow d v [] 0=some none:=rfl;cases s with
    |true=>
     simp only[qh]at m;subst m;refine qv (v:=.tuple #[C,.bool false]) o ?_ (.c (.qZ rfl fun j M y a b=>?_))
     ·simp[Instr.lookup,zK A,xH g f,Zr g D,l,Result.andThen]
     ·match j,a,b with
      | 0,a,b=>simp at a b;subst a;subst b;exact n
      | 1,a,b=>simp at a b;subst a;subst b;exact .v rfl
      |j+2,a,b=>simp at a
    |false=>simp only[zv,qz]at m;subst m;refine qv (v:=C) o ?_ (.c n);simp[Instr.lookup,zK A,xH g f,Zr g D,l,Result.andThen]
   ·split at h
    ·rename_i i M N;rcases Y5 hd f (en:=en.toList) (by simpa using W.symm) (fun j c e Q R=>X j c e Q (by simpa using R)) N with⟨T,_⟩|⟨j,y,e,l,n,e3,e4,e5,e6⟩
     ·cases T
     ·injection l with l;injection l with l U;subst U;injection h with h;cases s with
      |true=>
       simp only[qh]at h;subst h;refine qv (v:=.tuple #[e.val,.bool true]) o ?_ (.c (.qZ rfl fun j M y a b=>?_))
       ·simp[Instr.lookup,zK A,Y0 F,xH g f,Zr g n,Result.andThen]
       ·match j,a,b with
        | 0,a,b=>simp at a b;subst a;subst b;exact e4
        | 1,a,b=>simp at a b;subst a;subst b;exact .v rfl
        |j+2,a,b=>simp at a
      |false=>simp only[zv,qz]at h;subst h;refine qv (v:=e.val) o ?_ (.c e4);simp[Instr.lookup,zK A,Y0 F,xH g f,Zr g n,Result.andThen]
    ·rename_i N;obtain⟨z,L,m⟩:∃z,aQ P E=some z/\(if s=true then O.qZ [z,.v (.bool false)]else z)=x:=by
      cases B:aQ P E with
      |none=>rw[B]at h;cases h
      |some z=>rw[B]at h;injection h with h;exact⟨z,rfl,h⟩
     obtain⟨C,l,n⟩:=og (w:=w) (S:=S) L;rcases Y5 hd f (en:=en.toList) (by simpa using W.symm) (fun j c e Q R=>X j c e Q (by simpa using R)) N with⟨_,D⟩|⟨j,y,e,T,_⟩
     ·cases s with
      |true=>
       simp only[qh]at m;subst m;refine qv (v:=.tuple #[C,.bool false]) o ?_ (.c (.qZ rfl fun j M y a b=>?_))
       ·simp[Instr.lookup,zK A,Y0 F,xH g f,Zr g D,l,Result.andThen]
       ·match j,a,b with
        | 0,a,b=>simp at a b;subst a;subst b;exact n
        | 1,a,b=>simp at a b;subst a;subst b;exact .v rfl
        |j+2,a,b=>simp at a
      |false=>simp only[zv,qz]at m;subst m;refine qv (v:=C) o ?_ (.c n);simp[Instr.lookup,zK A,Y0 F,xH g f,Zr g D,l,Result.andThen]
     ·cases T
    ·cases h
  ·cases h
 ·cases h
theorem Cu{a b:Value}(h:xd a b=some true):b=a:=by
 unfold xd at h;split at h
 ·rename_i k x c y;split at h
  ·rename_i e;subst e;injection h with h
   rw[w7]at h;rw[h]
  ·cases h
 ·rename_i x y;injection h with h
  rw[w7]at h;obtain⟨x⟩:=x;obtain⟨y⟩:=y;congr 2
  (rw[kp,kp]at h;exact PQ.1 h.symm)
 ·cases h
theorem dX(hi:Inv P w S G Y Z){t:TypeId}{p q y:O}{Y':Hp}{u v z:Value}(h:km P Y t p q y=some Y')(hu:qg w S G Z p u)(hq:qg w S G Z q v)(hy:qg w S G Z y z) :
  ∃w' S' G',(Instr.mapUpdate t u v z).run P w=.ok () w'/\kd dr P Y Z S G w Y' Z S' G' w':=by
 unfold km at h;split at h
 ·rename_i kk et id k L;obtain⟨kt,d,s,D,M,hd⟩:=gE L;obtain⟨rfl,m⟩:=hq.wZ;obtain⟨m1,E,rfl⟩:=hu.PT;split at h
  ·rename_i hc;have g:=M v hc;split at h
   ·rename_i F Y1 hf;obtain⟨S1,r,hr,_,_⟩:=kP hi hf hy;split at h
    ·rename_i b H;split at h
     ·obtain⟨en,clock,A,I,J⟩:=((r.inv.live id b H).I4 E).row;have B:Stamped en clock:=by
       obtain⟨N,l,q1,q2⟩:=((r.inv.live id b H).I4 E).PR;rw[A]at q1;obtain⟨rfl,rfl⟩:en=N/\clock=l:=by simpa using q1
       exact q2
      split at h
      ·rename_i i pv n;injection h with h
       subst h;rcases Y5 hd g (en:=en.toList) (by simpa using I.symm) (fun j c e Q R=>J j c e Q (by simpa using R)) n with⟨T,_⟩|⟨j,x,e,K,e2,e3,e4,e5,e6⟩
       ·cases T
       ·injection K with K;injection K with K e1';have U:i=j:=by omega
        subst U;have C:en[i]?=some e:=by simpa using e3
        have W:e.key=v:=Cu e5;have X:=kd.PU (dr:=dr) r.inv H E (en.modify i fun e=>{e with key:=v,val:=z}) clock (b.es.set i [.v v,F]) (B.modify i v z) (by simpa using I) (fun i' c e' f a=>by
         rw[Zz]at a;by_cases o:i=i'
         ·subst o;rw[zl rfl,C]at a;rw[WE e6]at f;injection f with f
          simp only[zY,qV]at a;subst a;subst f;exact⟨v,F,rfl,rfl,m,hr⟩
         ·rw[zj o]at a;rw[Qj o]at f;exact J i' c e' f a)
        refine⟨_,S1,G,?_,r.trans X⟩;simp[Instr.mapUpdate,zK s,Y0 A,xH D g,Zr D e2,C,W,MapKept.run_keyThatStays g,MapKept.run_setObj_map _ A,Result.andThen]
      ·rename_i n;injection h with h
       subst h;rcases Y5 hd g (en:=en.toList) (by simpa using I.symm) (fun j c e Q R=>J j c e Q (by simpa using R)) n with⟨_,hn⟩|⟨j,x,e,T,_⟩
       ·have X:=kd.PU (dr:=dr) r.inv H E (en.push {key:=v,val:=z,born:=clock}) (clock+1) (b.es++[[.v v,F]]) (B.push v z) (by simp[I]) (fun i' c e' f a=>by
         rw[Array.getElem?_push]at a;split at a
         ·rename_i hil;injection a with a
          subst a;rw[qo (by omega)]at f;have:i'-b.es.length=0:=by omega
          rw[this]at f;simp at f;exact⟨v,F,f.symm,rfl,m,hr⟩
         ·rename_i hil;have hlt:i'<en.size:=(zU.1 a).1;rw[je (by omega)]at f;exact J i' c e' f a)
        refine⟨_,S1,G,?_,r.trans X⟩;simp[Instr.mapUpdate,zK s,Y0 A,xH D g,Zr D hn,MapKept.run_setObj_map _ A,Result.andThen]
       ·cases T
      ·cases h
     ·cases h
    ·cases h
   ·cases h
  ·cases h
 ·cases h
end
variable{dr:Prop}
section
variable{P:Program}{w:World}{S:Nat->Prop}{G:Nat->GI}{Y:Hp}{Z:Nat}
theorem Lr(b:Inv P w S G Y Z){t ty:TypeId}{p x:O}{u:Value}(h:KJ P t p=some x)(d:qg w S G Z p u):Qo dr P w Y Z S G x Y Z ((Builtin.len_ #[t] ty #[u]).run P w):=by
 have sl:∀{A:Option Addr} {n c:Nat} {e:TypeId},yq P t=some e->(Builtin.len_ #[t] ty #[.slice A n c]).run P w=.ok (.int .i64 n) w:=fun a=>by simp[Builtin.len_,zK (vU a),goInt]
 unfold KJ at h;split at h
 ·obtain⟨rfl,_⟩:=d.wZ;split at h
  ·rename_i f;injection h with h
   subst h;exact qv (v:=_) b (by simp[Builtin.len_,zK f,goInt]) (xg _ rfl)
  ·cases h
 ·cases a:yq P t with
  |none=>simp[a]at h
  |some e=>simp[a]at h;subst h;obtain⟨rfl,_⟩:=d.wZ;exact qv (v:=_) b (sl a) (xg _ rfl)
 ·cases a:yq P t with
  |none=>simp[a]at h
  |some e=>
   simp[a]at h;subst h;cases d.aI with
   |sl us g i j k l m=>exact qv (v:=_) b (sl a) (xg _ rfl)
 ·cases a:yq P t with
  |none=>simp[a]at h
  |some e=>simp[a]at h;subst h;have:=d.xV;subst this;exact qv (v:=_) b (sl a) (xg _ rfl)
 ·cases a:yq P t with
  |none=>simp[a]at h
  |some e=>simp[a]at h;subst h;obtain⟨o,cap,rfl,_⟩:=d.mZ;exact qv (v:=_) b (sl a) (xg _ rfl)
 ·cases a:yq P t with
  |none=>simp[a]at h
  |some e=>simp[a]at h;subst h;obtain⟨cap,_,_,_,_,rfl⟩:=d.vO;exact qv (v:=_) b (sl a) (xg _ rfl)
 ·cases h
theorem dY{k:IntKind}:∀{l:zb} {x:Int} {r:O} {us:List Value},VG k x l=some r->Zip (qg w S G Z) l us->∃n,r=.v (.int k n)/\(us.foldlM Builtin.min2 (.int k x)).run P w=.ok (.int k n) w
 |[],x,r,us,h,a=>by
  simp only[VG]at h;injection h with h
  subst h;rw[a.Jw];exact⟨x,rfl,by simp⟩
 |p::l,x,r,us,h,a=>by
  obtain⟨u,c,rfl,d,b⟩:=a.jr;unfold VG at h;split at h
  ·cases ‹p::l=[]›
  ·rename_i m y l' e;injection e with f g
   subst f;subst g;split at h
   ·rename_i i;subst i;obtain⟨rfl,_⟩:=d.wZ;obtain⟨n,rfl,j⟩:=dY h b;exact⟨n,rfl,by simp only[List.foldlM_cons,vr,Builtin.min2,Q7,ky];exact j⟩
   ·cases h
  ·cases h
theorem dZ{k:IntKind}:∀{l:zb} {x:Int} {r:O} {us:List Value},VH k x l=some r->Zip (qg w S G Z) l us->∃n,r=.v (.int k n)/\(us.foldlM Builtin.max2 (.int k x)).run P w=.ok (.int k n) w
 |[],x,r,us,h,a=>by
  simp only[VH]at h;injection h with h
  subst h;rw[a.Jw];exact⟨x,rfl,by simp⟩
 |p::l,x,r,us,h,a=>by
  obtain⟨u,c,rfl,d,b⟩:=a.jr;unfold VH at h;split at h
  ·cases ‹p::l=[]›
  ·rename_i m y l' e;injection e with f g
   subst f;subst g;split at h
   ·rename_i i;subst i;obtain⟨rfl,_⟩:=d.wZ;obtain⟨n,rfl,j⟩:=dZ h b;exact⟨n,rfl,by simp only[List.foldlM_cons,vr,Builtin.max2,Q7,ky];exact j⟩
   ·cases h
  ·cases h
theorem Ls(c:Inv P w S G Y Z){ts:Array TypeId}{ty:TypeId}{xs:zb}{x:O}{us:Array Value}(h:Lf xs=some x)(d:Zip (qg w S G Z) xs us.toList):Qo dr P w Y Z S G x Y Z ((Builtin.min_ ts ty us).run P w):=by
 unfold Lf at h;split at h
 ·rename_i k y l;obtain⟨u,e,a,f,b⟩:=d.jr;obtain⟨rfl,_⟩:=f.wZ;obtain⟨n,rfl,g⟩:=dY (P:=P) h b;exact qv (v:=_) c (by simp only[Builtin.min_,a];exact g) (xg _ rfl)
 ·cases h
theorem Lt(c:Inv P w S G Y Z){ts:Array TypeId}{ty:TypeId}{xs:zb}{x:O}{us:Array Value}(h:Lg xs=some x)(d:Zip (qg w S G Z) xs us.toList):Qo dr P w Y Z S G x Y Z ((Builtin.max_ ts ty us).run P w):=by
 unfold Lg at h;split at h
 ·rename_i k y l;obtain⟨u,e,a,f,b⟩:=d.jr;obtain⟨rfl,_⟩:=f.wZ;obtain⟨n,rfl,g⟩:=dZ (P:=P) h b;exact qv (v:=_) c (by simp only[Builtin.max_,a];exact g) (xg _ rfl)
 ·cases h
theorem oh:∀(l:List Value) (k off:Nat) (a:Array Value),off+k+l.length<=a.size ->
  ((l.zipIdx k).foldl (fun(cs:Array Value) (p:Value×Nat)=>cs.setIfInBounds (off+p.2) p.1) a).size=a.size /\
  ∀i:Nat,((l.zipIdx k).foldl (fun(cs:Array Value) (p:Value×Nat)=>cs.setIfInBounds (off+p.2) p.1) a)[i]?=if off+k<=i/\i<off+k+l.length then l[i-(off+k)]? else a[i]?
 |[],k,off,a,h=>by simp;omega
 |x::l,k,off,a,h=>by
  simp only[ze]at h;obtain⟨c,e⟩:=oh l (k+1) off (a.setIfInBounds (off+k) x) (by simp;omega);simp only[List.zipIdx_cons,List.foldl_cons];refine⟨by rw[c];simp,fun i=>?_⟩;rw[e];by_cases b:off+(k+1)<=i/\i<off+(k+1)+l.length
  ·rw[zl b,zl ⟨by omega,by simp;omega⟩];obtain⟨d,rfl⟩:∃d,i=off+(k+1)+d:=⟨i-(off+(k+1)),by omega⟩;rw[show off+(k+1)+d-(off+(k+1))=d from by omega,show off+(k+1)+d-(off+k)=d+1 from by omega];simp
  ·rw[zj b];by_cases f:i=off+k
   ·subst f;have hs:(a.setIfInBounds (off+k) x)[off+k]?=some x:=by rw[Y3 (by omega)]
    rw[zl ⟨by omega,by simp⟩,hs];simp
   ·rw[zj (by simp;omega),yi (by omega)]
theorem EN{u:Value}{off:Nat}{cells:Array Value}(h:off+u.cells.size<=cells.size) :
  (u.cells.zipIdx.foldl (fun cs (c,j)=>cs.setIfInBounds (off+j) c) cells).size=cells.size /\
  ∀i:Nat,(u.cells.zipIdx.foldl (fun cs (c,j)=>cs.setIfInBounds (off+j) c) cells)[i]?=if off<=i/\i<off+u.cells.size then u.cells[i-off]? else cells[i]?:=by
 have:=oh u.cells.toList 0 off cells (by simpa using h);simp only[xU,Array.length_toList,Array.getElem?_toList]at this;rw[<-Array.foldl_toList,Array.toList_zipIdx];exact this
theorem gF{a:Nat->Option (Nat×Nat)}:∀{o:List (Nat×O)} {vs:List (Nat×Value)} {cs cs':zb} {cells:Array Value},qJ a cs o=some cs' ->
  Zip (fun p v=>p.1=v.1/\qg w S G Z p.2 v.2) o vs->cs.length=cells.size->(∀(j:Nat) (d:O) (u:Value),cs[j]?=some d->cells[j]?=some u->qg w S G Z d u) ->
  ∃b,Instr.fill a cells vs=some b/\cs'.length=b.size/\∀(j:Nat) (d:O) (u:Value),cs'[j]?=some d->b[j]?=some u->qg w S G Z d u
 |[],vs,cs,cs',cells,h,q,r,s=>by
  simp only[qJ]at h;injection h with h
  subst h;rw[q.Jw];exact⟨cells,rfl,r,s⟩
 |(i,x)::o,vs,cs,cs',cells,h,q,r,s=>by
  obtain⟨⟨i',u⟩,g,rfl,⟨e,z⟩,t⟩:=q.jr;simp only at e z;subst e;simp only[qJ]at h;split at h
  ·rename_i off n Y;split at h
   ·rename_i B;obtain⟨A,C,D⟩:=B;obtain⟨E,F⟩:=cI z D;have y:u.cells.size=n:=by rw[<-E,A]
    obtain⟨H,I⟩:=EN (u:=u) (off:=off) (cells:=cells) (by omega);have f:Instr.fill a cells ((i,u)::g)=Instr.fill a (u.cells.zipIdx.foldl (fun cs (c,j)=>cs.setIfInBounds (off+j) c) cells) g:=by
     have J:¬(off+n>cells.size):=by omega
     simp[Instr.fill,Y,y];omega
    rw[f];refine gF h t (by rw[Q8,H,r]) (fun j d v k l=>?_);rw[JB _ _ _ _ (by rw[A];exact C)]at k;rw[I]at l;by_cases m:off<=j/\j<off+u.cells.size
    ·rw[zl m]at l;rw[zl (by omega)]at k;exact(F (j-off) d v k l).1
    ·rw[zj m]at l;rw[zj (by omega)]at k;exact s j d v k l
   ·cases h
  ·cases h
theorem cK{d:Operand->Option O}{a:Operand->Value}(b:∀y e,d y=some e->qg w S G Z e (a y)):∀{l:List (Nat×Operand)} {c:List (Nat×O)},kY d l=some c ->
  Zip (fun(p:Nat×O) (v:Nat×Value)=>p.1=v.1/\qg w S G Z p.2 v.2) c (l.map fun(i,x)=>(i,a x))
 |[],c,h=>by
  simp only[kY]at h;injection h with h
  subst h;exact .nil
 |(i,x)::l,c,h=>by
  simp only[kY]at h;split at h
  ·rename_i p r Y f;injection h with h
   subst h;exact .cons ⟨rfl,b _ _ Y⟩ (cK b f)
  ·cases h
theorem Cv(J:Inv P w S G Y Z){t:TypeId}{k:List (Nat×O)}{vs:Array (Nat×Value)}{x:O}(h:qi P t k=some x)(K:Zip (fun p v=>p.1=v.1/\qg w S G Z p.2 v.2) k vs.toList) :
  Qo dr P w Y Z S G x Y Z ((Instr.build t vs).run P w):=by
 unfold qi at h;split at h
 ·rename_i L z g o;obtain⟨i,q,r,s,y⟩:=JA o;obtain⟨A,B⟩:=kR (w:=w) (S:=S) y;cases b:qJ (fun i=>L[i]?) z k with
  |none=>simp[b]at h
  |some cs'=>
   simp[b]at h;subst h;obtain⟨a,C,D,E⟩:=gF b K (cells:=q.cells) (by rw[A];simp) (fun j F u H d=>.c (B j F u H (by simpa using d)).1);have I:P.built t vs.toList=some a:=by
    unfold jV at g;split at g
    ·rename_i M d;unfold Program.built;simp only[r,d,s,g];simpa using C
    ·cases g
   exact qv (v:=_) J (run_build w t vs a I) (.agg D E)
 ·rename_i z g o;split at h
  ·rename_i m e d;split at h
   ·rename_i n l;obtain⟨i,q,r,s,y⟩:=JA o;obtain⟨A,B⟩:=kR (w:=w) (S:=S) y;cases b:qJ (fun i=>some (i*n,n)) z k with
    |none=>simp[b]at h
    |some cs'=>
     simp[b]at h;subst h;obtain⟨a,C,D,E⟩:=gF b K (cells:=q.cells) (by rw[A];simp) (fun j F u H d=>.c (B j F u H (by simpa using d)).1);have I:P.built t vs.toList=some a:=by
      unfold Program.built;unfold qN at l;cases f:P.info? e with
      |none=>simp[f]at l
      |some N=>simp only[f,zY,qV]at l;simp only[r,d,s,f,l];exact C
     exact qv (v:=_) J (run_build w t vs a I) (.agg D E)
   ·cases h
  ·cases h
 ·cases h
theorem Ys:∀{d a:List (Nat×O)} {Y Y1:Hp} {S:Nat->Prop} {vs:List (Nat×Value)} (_:Inv P w S G Y Z),zw Y d=some (a,Y1) ->
  Zip (fun p v=>p.1=v.1/\qg w S G Z p.2 v.2) d vs->∃S',kd dr P Y Z S G w Y1 Z S' G w/\Zip (fun p v=>p.1=v.1/\wG w S' p.2 v.2) a vs
 |[],a,Y,Y1,S,vs,b,h,f=>by
  simp only[zw]at h;injection h with h
  injection h with j k;subst j;subst k;rw[f.Jw];exact⟨S,.refl b,.nil⟩
 |(i,x)::d,a,Y,Y1,S,vs,b,h,f=>by
  obtain⟨⟨i',u⟩,o,rfl,⟨e,l⟩,g⟩:=f.jr;simp only at e l;simp only[zw]at h;split at h
  ·rename_i y j q;split at h
   ·rename_i r k s;injection h with h
    injection h with t z;subst t;subst z;obtain⟨A,c,B,_⟩:=kP (dr:=dr) b q l;have C:=c.same b;obtain⟨D,m,E⟩:=Ys (S:=A) c.inv s (g.imp fun x u n=>⟨n.1,n.2.mono C (zk _) (fun _ _=>rfl)⟩);exact⟨D,c.trans m,.cons ⟨e,B.mono (m.same c.inv)⟩ E⟩
   ·cases h
  ·cases h
theorem Cw{y:O}{u:Value}(h:wG w S y u)(a:y.cells.all O.wY=true):y.cells.length=u.cells.size/\∀(j:Nat) (d:O) (c:Value),y.cells[j]?=some d->u.cells[j]?=some c->wG w S d c/\c.oneCell'=true:=by
 by_cases e:∃cs,y=.agg cs
 ·obtain⟨cs,rfl⟩:=e;cases h with
  |agg k l=>refine⟨k,fun j d c b f=>?_⟩;have g:=l j d c b f;refine⟨g,g.Kk ?_⟩;simp only[O.cells]at a b;exact zP.1 a d (zE b)
 ·have m:y.cells=[y]:=by cases y<;>first|rfl|exact(e ⟨_,rfl⟩).elim
  rw[m]at a⊢;have n:y.wY=true:=by simpa using a
  have i:=h.Kk n;have f:u.cells=#[u]:=by cases u<;>first|rfl|simp[Value.oneCell']at i
  rw[f];refine⟨rfl,fun j d c b a=>?_⟩;cases j with
  |zero=>simp at b a;subst b;subst a;exact⟨h,i⟩
  |succ j=>simp at b
theorem aV{n:Nat}:∀{t:List (Nat×O)} {vs:List (Nat×Value)} {es d:List zb} {cells:Array Value},zR n es t=some d->Zip (fun p v=>p.1=v.1/\wG w S p.2 v.2) t vs ->
  es.length*n=cells.size->(∀c∈es,c.length=n)->(∀(i j:Nat) (c:zb) (f:O),es[i]?=some c->c[j]?=some f->∃u,cells[i*n+j]?=some u/\wG w S f u/\u.oneCell'=true) ->
  ∃a,Instr.fill (fun i=>some (i*n,n)) cells vs=some a/\d.length=es.length/\a.size=cells.size/\(∀c∈d,c.length=n) /\
   ∀(i j:Nat) (c:zb) (f:O),d[i]?=some c->c[j]?=some f->∃u,a[i*n+j]?=some u/\wG w S f u/\u.oneCell'=true
 |[],vs,es,d,cells,h,y,D,r,z=>by
  simp only[zR]at h;injection h with h
  subst h;rw[y.Jw];exact⟨cells,rfl,rfl,rfl,r,z⟩
 |(i,x)::t,vs,es,d,cells,h,y,D,r,z=>by
  obtain⟨⟨i',u⟩,l,rfl,⟨e,E⟩,A⟩:=y.jr;simp only at e E;subst e;simp only[zR]at h;split at h
  ·rename_i B;obtain⟨C,F,I⟩:=B;obtain⟨J,K⟩:=Cw E I;have m:u.cells.size=n:=by rw[<-J,C]
   have G:i*n+n<=cells.size:=by have:(i+1)*n<=es.length*n:=qA _ F;rw[yV]at this;omega
   obtain⟨H,L⟩:=EN (u:=u) (off:=i*n) (cells:=cells) (by omega);have g:Instr.fill (fun i=>some (i*n,n)) cells ((i,u)::l)=Instr.fill (fun i=>some (i*n,n)) (u.cells.zipIdx.foldl (fun cs (c,j)=>cs.setIfInBounds (i*n+j) c) cells) l:=by simp[Instr.fill,m];omega
   rw[g];obtain⟨a,M,N,P,Q,R⟩:=aV h A (cells:=u.cells.zipIdx.foldl (fun cs (c,j)=>cs.setIfInBounds (i*n+j) c) cells) (by rw[H];simpa using D) (fun c B=>by
     rcases KB B with h|h
     ·exact r c h
     ·subst h;exact C) (fun i' j c f b s=>by
     rw[L];by_cases k:i'=i
     ·subst k;rw[WE F]at b;injection b with b
      subst b;have o:j<n:=by rw[<-C];exact(zd.1 s).1
      rw[zl ⟨by omega,by omega⟩,show i'*n+j-i'*n=j from by omega];have q:j<u.cells.size:=by omega
      have T:=K j f u.cells[j] s (by simp[q]);exact⟨u.cells[j],by simp[q],T⟩
     ·rw[Qj (fun e=>k e.symm)]at b;have o:j<n:=by rw[<-r c (zE b)];exact(zd.1 s).1
      have:=gy o k 0 n (by omega);rw[zj (by rw[m];simpa using this)];exact z i' j c f b s)
   exact⟨a,M,by rw[N];simp,by rw[P,H],Q,R⟩
  ·cases h
theorem eW(H:Inv P w S G Y Z){t:TypeId}{len:Nat}{I:List (Nat×O)}{vs:Array (Nat×Value)}{x:O}{Y':Hp}{Z':Nat}(h:zy P Y Z t len I=some (x,Y',Z'))(R:Zip (fun p v=>p.1=v.1/\qg w S G Z p.2 v.2) I vs.toList) :
  Qo dr P w Y Z S G x Y' Z' ((Instr.buildSlice t len vs).run P w):=by
 unfold zy at h;split at h
 ·rename_i e J;split at h
  ·rename_i n z qs Y1 q T U;split at h
   ·rename_i r;obtain⟨s,y,c3⟩:=r;split at h
    ·rename_i es A;injection h with h
     injection h with W h;injection h with X en;subst W;subst X;subst en;obtain⟨i,f,i1,i2,i3⟩:=JA T;obtain⟨z1,z2⟩:=kR (w:=w) (S:=S) i3;have B:f.cells.size=n:=by rw[<-y,z1];simp
     obtain⟨S1,C,q1⟩:=Ys (dr:=dr) H U R;obtain⟨a,K,g2,L,g4,g5⟩:=aV (w:=w) A q1 (cells:=madeCells f.cells (len*n)) (by simp[size_madeCells]) (fun c r=>by rw[(List.mem_replicate.1 r).2];exact y) (fun i' j c D d o=>by
      have g:i'<len:=by have:=(zd.1 d).1;simpa using this
      rw[List.getElem?_replicate,zl g]at d;injection d with d
      subst d;have E:j<n:=by rw[<-y];exact(zd.1 o).1
      have k:j<f.cells.size:=by omega
      rw[tF B g E];have M:=z2 j D f.cells[j] o (by simp[k]);exact⟨f.cells[j],by simp[k],M.1.mono (C.same (dr:=dr) H),M.2.1⟩)
     have F:es.length=len:=by rw[g2];simp
     have k2:=kd.alloc (dr:=dr) C.inv a e true es n s (by simpa[qN]using q) g4 (by rw[L,size_madeCells,F];exact zk _) (fun i' j c D d o=>by obtain⟨u,u1,N,u3⟩:=g5 i' j c D d o;exact⟨u,u1,fun _=>N,.c N,u3⟩)
     have Q:¬(len*n>2 ^ 24):=by simp;omega
     refine⟨.slice (some ⟨w.heap.size,0,none⟩) len len,_,_,_,?_,C.trans k2,?_⟩
     ·by_cases l:len*n=0
      ·have hl0:len=0:=by
        rcases Nat.mul_eq_zero.1 l with h|h
        ·exact h
        ·omega
       have b:Instr.fill (fun i=>some (i*n,n)) ((Array.range (len*n)).map ((#[]:Array Value)[· % (#[]:Array Value).size]!)) vs.toList=some a:=by rw[<-K];congr 1;rw[l];simp[madeCells]
       simp[Instr.buildSlice,zK (vU J),yw q,l,newRow];simp[l]at b;simp[b]
      ·have b:Instr.fill (fun i=>some (i*n,n)) ((Array.range (len*n)).map (f.cells[· % f.cells.size]!)) vs.toList=some a:=K;simp[Instr.buildSlice,zK (vU J),yw q,l,newRow,QN i1 i2,b];omega
     ·have m:len<=maxLen:=by have:len*1<=len*n:=Nat.mul_le_mul_left _ s;simp only[maxLen];omega
      have:=qg.own (w:=w.alloc (.cells a e)) (S:=S1) (G:=zI G Z ⟨w.heap.size,a.size,n⟩) (Z:=Z+1) (id:=Z) (off:=0) (n:=len) (cap:=len) (by omega) (zk _) m (by simp[L,size_madeCells]) (by simpa using s);simpa using this
    ·cases h
   ·cases h
  ·cases h
 ·cases h
end
variable{dr:Prop}
section
variable{P:Program}{w:World}{S:Nat->Prop}{G:Nat->GI}{Y:Hp}{Z:Nat}
theorem Gl(Q:Inv P w S G Y Z){t t' ty:TypeId}{d x y:O}{Y':Hp}{Z':Nat}{u v:Value}(h:EL P Y Z t d x=some (y,Y',Z'))(hd:qg w S G Z d u)(hx:qg w S G Z x v) :
  Qo dr P w Y Z S G y Y' Z' ((Builtin.copy_ #[t,t'] ty #[u,v]).run P w):=by
 unfold EL at h;split at h
 ·rename_i e id off k he;split at h
  ·rename_i b n hb hn;split at h
   ·rename_i xs hv;split at h
    ·rename_i hc;obtain⟨c1,c2,c3,c4⟩:=hc;injection h with h
     injection h with ey h;injection h with eh en;subst ey;subst eh;subst en;have a:=hd.xl;obtain⟨cap,g1,g2,g3,g4,rfl⟩:=hd.vO;obtain⟨A,c,f,rfl,R,f2⟩:=XQ Q hv hx;have l:=Q.live id b hb;obtain⟨cur,q1,q2,q3⟩:=l.row a;have T:=vU he;have p:(G id).s=n:=by
      have q:=l.size a;rw[c2]at q;have r:(P.info? e).map (·.size)=some n:=by simpa[qN]using hn
      rw[r]at q;injection q with q
      exact q.symm
     have J:Nat.min xs.length k=min xs.length k:=rfl;have U:min xs.length k<=xs.length:=Nat.min_le_left _ _;have hmk:min xs.length k<=k:=Nat.min_le_right _ _;generalize hm:min xs.length k=m at *;have E:=oe c4 R f2;have hmn:m*n<=xs.length*n:=qA _ U;have z:(Builtin.firstCells n m (.slice A xs.length c)).run P w=.ok ((List.range (m*n)).map f).toArray w:=by
      by_cases h0:m=0
      ·subst h0;cases A<;>simp[Builtin.firstCells,loadCells,loadCellsFrom]
      ·obtain⟨ad,rfl,_,_⟩:=E 0 (Nat.mul_pos (by omega) c4);have:=run_loadCells_list (P:=P) w ad ((List.range (m*n)).map f) (fun j u B=>by
        have W:j<m*n:=by have:=(zd.1 B).1;simpa using this
        obtain⟨X,e1,e2,_⟩:=E j (by omega);injection e1 with e1;subst e1;rw[qq,xG W]at B;simp at B;rw[e2,B])
       simpa[Builtin.firstCells]using this
     have C:off*n+m*n<=cur.size:=by rw[q2];have q:(off+m)*n<=b.es.length*n:=qA _ (by omega);have r:=l.fit a;rw[p]at r;rw[yV]at q;omega
     have K:=run_storeCells_at P (G id).g (off*n) b.e ((List.range (m*n)).map f) 0 cur w q1 (by simpa using C) (fun u T=>by obtain⟨k,hk,rfl⟩:=zZ.1 T;exact(E k (by have:=yK.1 hk;omega)).choose_spec.2.2)
     simp only[xU]at K;have L:((List.range (m*n)).map f).length=m*n:=by simp
     have M:off*n+((List.range (m*n)).map f).length<=cur.toList.length:=by simpa using C
     have k2:=kd.set (dr:=dr) Q hb a (cur.toList.take (off*n)++(List.range (m*n)).map f++cur.toList.drop (off*n+((List.range (m*n)).map f).length)).toArray (b.es.take off++xs.take m++b.es.drop (off+m))
      (by rw[List.size_toArray,QO _ _ _ M];simpa using q2)
      (fun D N=>by
       rw[z8]at N;rcases wy.1 N with h|h
       ·exact l.len a D (Kj _ _ h)
       ·rcases wy.1 h with h|h
        ·rw[p];exact R D (Kj _ _ h)
        ·exact l.len a D (fD _ _ h))
      (by
       have q:=l.fit a;have:(b.es.take off++xs.take m++b.es.drop (off+m)).length=b.es.length:=by simp;omega
       rw[this];exact q)
      (fun i' j D pv o B=>by
       have F:(xs.take m).length=m:=by simp;omega
       rw[show off+m=off+(xs.take m).length from by rw[F],QC _ _ _ _ (by rw[F];omega),F]at o;rw[List.getElem?_toArray,QC _ _ _ _ M,L,p];by_cases H:off<=i'/\i'<off+m
       ·rw[zl H,yu,zl (by omega)]at o;have I:j<n:=by rw[<-R D (zE o)];exact(zd.1 B).1
        have q:off*n<=i'*n:=qA _ H.1;have r:=ZZ (i:=i'-off) (n:=m) (by omega) I;have h7:i'*n+j-off*n=(i'-off)*n+j:=by rw[Nat.sub_mul];omega
        rw[zl ⟨by omega,by rw[Nat.sub_mul]at r;omega⟩,h7,qq,xG r];obtain⟨X,a1,a2,a3⟩:=f2 (i'-off) j D pv o B;refine⟨f ((i'-off)*n+j),rfl,?_⟩;rw[c1];exact a3
       ·rw[zj H]at o;have I:j<n:=by rw[<-p,<-l.len a D (zE o)];exact(zd.1 B).1
        have:¬(off*n<=i'*n+j/\i'*n+j<off*n+m*n):=by
         by_cases q:i'<off
         ·have r:=ZZ (n:=off) q I;omega
         ·have r:off+m<=i':=by omega
          have h7:(off+m)*n<=i'*n:=qA _ r;rw[yV]at h7;omega
        rw[zj this];obtain⟨u',u1,u2⟩:=q3 i' j D pv o B;rw[p]at u1;exact⟨u',by simpa using u1,u2⟩)
     rw[c1]at k2;refine⟨.int .i64 m,_,_,_,?_,k2,xg _ rfl⟩;simp[Builtin.copy_,zK T,Builtin.lenOf,yw hn,J,z,p,K,goInt]
    ·cases h
   ·cases h
  ·cases h
 ·cases h
theorem Lu{ts:Array TypeId}{us:Array Value}{t:TypeId}{u:Value}(ty:TypeId)(a:ts[0]?=some t)(b:us[0]?=some u):Builtin.clear_ ts ty us=Builtin.clear_ #[t] ty #[u]:=by simp[Builtin.clear_,a,b]
theorem Cx(hi:Inv P w S G Y Z){t ty:TypeId}{x y:O}{Y':Hp}{Z':Nat}{v:Value}(h:KK P Y Z t x=some (y,Y',Z'))(hd:qg w S G Z x v) :
  Qo dr P w Y Z S G y Y' Z' ((Builtin.clear_ #[t] ty #[v]).run P w):=by
 unfold KK at h;split at h
 ·rename_i e id off k he;split at h
  ·rename_i b n z hb hn hz;split at h
   ·rename_i hc;obtain⟨⟨c0,c5⟩,c1,c2,c3,c4⟩:=hc;injection h with h
    injection h with ey h;injection h with eh en;subst ey;subst eh;subst en;have l:=hd.xl;obtain⟨cap,g1,g2,g3,g4,rfl⟩:=hd.vO;have p:=hi.live id b hb;obtain⟨cur,q1,q2,q3⟩:=p.row l;have hu:=vU he;have A:(G id).s=n:=by
     have B:=p.size l;rw[c2]at B;have E:(P.info? e).map (·.size)=some n:=by simpa[qN]using hn
     rw[E]at B;injection B with B
     exact B.symm
    obtain⟨i,K,i1,i2,i3⟩:=JA hz;obtain⟨z1,z2⟩:=kR (w:=w) (S:=S) i3;have M:K.cells.size=n:=by have:=z1;simp at this;omega
    obtain⟨d,f⟩:=yb ((Builtin.zeroCells K.cells k).toList);have C:d.length=k*n:=by rw[<-f];simp[Builtin.zeroCells,M]
    have N:∀q r,q<k->r<n->d[q*n+r]?=K.cells[r]?:=fun q r hq hr=>by
     have hlt:=ZZ (n:=k) hq hr;have hm:(q*n+r) % n=r:=by rw[cz,Nat.add_mul_mod_self_right];exact fF hr
     rw[<-f];simp only[Builtin.zeroCells,M,Array.toList_map,Array.toList_range,qq];rw[xG hlt,zY,hm,zaq _ r (by omega),jf (by omega)]
    have Q:∀r H u,z[r]?=some H->K.cells[r]?=some u->wG w S H u/\u.oneCell'=true:=fun r H u h1 h2=>by obtain⟨a,b,_⟩:=z2 r H u h1 (by simpa using h2);exact⟨a,b⟩
    have R:∀u∈d,u.oneCell'=true:=fun u hu=>by
     obtain⟨m,hm⟩:=Qk hu;have hml:m<k*n:=by rw[<-C];exact(zd.1 hm).1
     have e1:m/n*n+m % n=m:=by rw[cA];exact Nat.div_add_mod m n
     have hmr:m % n<n:=Nat.mod_lt _ c0;have L:=N (m/n) (m % n) (Nat.div_lt_of_lt_mul (by rw[cA];exact hml)) hmr;rw[e1,hm]at L;exact(Q (m % n) (z[m % n]'(by omega)) u (zm (by omega)) L.symm).2
    have F:off*n+k*n<=cur.size:=by rw[q2];have B:(off+k)*n<=b.es.length*n:=qA _ c3;have E:=p.fit l;rw[A]at E;rw[yV]at B;omega
    have T:=run_storeCells_at P (G id).g (off*n) b.e d 0 cur w q1 (by rw[C];simpa using F) R;simp only[xU]at T;have U:off*n+d.length<=cur.toList.length:=by rw[C];simpa using F
    have k2:=kd.set (dr:=dr) hi hb l (cur.toList.take (off*n)++d++cur.toList.drop (off*n+d.length)).toArray (b.es.take off++List.replicate k z++b.es.drop (off+k))
     (by rw[List.size_toArray,QO _ _ _ U];simpa using q2)
     (fun W X=>by
      rw[z8]at X;rcases wy.1 X with h|h
      ·exact p.len l W (Kj _ _ h)
      ·rcases wy.1 h with h|h
       ·rw[A,List.eq_of_mem_replicate h];exact c5
       ·exact p.len l W (fD _ _ h))
     (by
      have B:=p.fit l;have:(b.es.take off++List.replicate k z++b.es.drop (off+k)).length=b.es.length:=by simp;omega
      rw[this];exact B)
     (fun i' j W H o hj=>by
      have I:(List.replicate k z).length=k:=by simp
      rw[show off+k=off+(List.replicate k z).length from by rw[I],QC _ _ _ _ (by rw[I];omega),I]at o;rw[List.getElem?_toArray,QC _ _ _ _ U,C,A];by_cases J:off<=i'/\i'<off+k
      ·rw[zl J,List.getElem?_replicate,zl (by omega)]at o;injection o with o
       subst o;have D:j<n:=by rw[<-c5];exact(zd.1 hj).1
       have B:off*n<=i'*n:=qA _ J.1;have E:=ZZ (i:=i'-off) (n:=k) (by omega) D;have L:i'*n+j-off*n=(i'-off)*n+j:=by rw[Nat.sub_mul];omega
       rw[zl ⟨by omega,by rw[Nat.sub_mul]at E;omega⟩,L,N _ _ (by omega) D];have h8:K.cells[j]?=some (K.cells[j]'(by omega)):=jf (by omega);obtain⟨r1,r2⟩:=Q j H _ hj h8;exact⟨_,h8,fun _=>r1,.c r1,r2⟩
      ·rw[zj J]at o;have D:j<n:=by rw[<-A,<-p.len l W (zE o)];exact(zd.1 hj).1
       have:¬(off*n<=i'*n+j/\i'*n+j<off*n+k*n):=by
        by_cases B:i'<off
        ·have E:=ZZ (n:=off) B D;omega
        ·have E:off+k<=i':=by omega
         have L:(off+k)*n<=i'*n:=qA _ E;rw[yV]at L;omega
       rw[zj this];obtain⟨u',u1,u2⟩:=q3 i' j W H o hj;rw[A]at u1;exact⟨u',by simpa using u1,u2⟩)
    rw[c1]at k2;refine⟨.tuple #[],_,_,_,?_,k2,.c (.qZ rfl (by simp))⟩;obtain⟨k',rfl⟩:∃k',k=k'+1:=⟨k-1,by omega⟩;simp[Builtin.clear_,zK hu,QN i1 i2,f,A,T]
   ·cases h
  ·cases h
 ·cases h
theorem ZM{c:Operand->Option O}{a:Operand->Value}(b:∀y f,c y=some f->qg w S G Z f (a y)):∀{l:List Operand} {xs:zb},wK (l.map c)=some xs->Zip (qg w S G Z) xs (l.map a)
 |[],xs,h=>by
  simp only[ji,wK]at h;injection h with h
  subst h;exact .nil
 |x::l,xs,h=>by
  simp only[zG]at h;cases d:c x with
  |none=>rw[d]at h;simp[wK]at h
  |some p=>
   rw[d]at h;simp only[wK]at h;cases e:wK (l.map c)with
   |none=>rw[e]at h;simp at h
   |some r=>rw[e]at h;simp at h;subst h;exact .cons (b _ _ d) (ZM b e)
def jl(dr:Prop)(P:Program)(g:FuncId)(a:AM.Spec):Prop:=
 (∃fn,P.funcs[g]?=some fn/\(fn.name== "runtime.NumGoroutine")=false/\fn.body.isNone=false) /\
 ∀(args:zb) (Y:Hp) (Z:Nat) (r:O) (Y':Hp) (Z':Nat),a args Y Z=some (r,Y',Z')->∀(w:World) (S:Nat->Prop) (G:Nat->GI) (vs:List Value),Inv P w S G Y Z->Zip (qg w S G Z) args vs ->
  Calls P g vs.toArray w fun e b=>∃v S' G',e=.returned v/\kd dr P Y Z S G w Y' Z' S' G' b/\qg b S' G' Z' r v
abbrev zh:=jl True
theorem jl.lax{d:Prop}{P:Program}{g:FuncId}{spec:AM.Spec}(h:jl d P g spec)(hd:dr->d:=by intro h;exact True.intro):jl dr P g spec:=
 ⟨h.1,fun args Y Z r Y' Z' e w S G vs a b=>(h.2 args Y Z r Y' Z' e w S G vs a b).mono fun _ _ ⟨v,S',G',c,k,f⟩=>⟨v,S',G',c,⟨k.inv,k.up,k.loc,k.kO,k.from_,k.own,k.fr.lax hd⟩,f⟩⟩
def zaH(dr:Prop)(P:Program)(w:World)(Y:Hp)(Z:Nat)(S:Nat->Prop)(G:Nat->GI)(x:O)(Y':Hp)(Z':Nat)(r:Result Next):Prop:=
 (∃v a S' G',(r=.ok (.value v) a\/(r=.ok .skip a/\v=undef))/\kd dr P Y Z S G w Y' Z' S' G' a/\qg a S' G' Z' x v) \/
 ∃g vs,r=.ok (.enter g vs) w/\Calls P g vs w fun e a=>∃v S' G',e=.returned v/\kd dr P Y Z S G w Y' Z' S' G' a/\qg a S' G' Z' x v
theorem Qo.op{x:O}{Y':Hp}{Z':Nat}{s:Sem Value}(h:Qo dr P w Y Z S G x Y' Z' (s.run P w)):zaH dr P w Y Z S G x Y' Z' ((do pure (.value (<-s)):Sem Next).run P w):=by obtain⟨v,a,S',G',b,c,d⟩:=h;exact .inl ⟨v,a,S',G',.inl (by simp[b]),c,d⟩
theorem zbC{ts:Array TypeId}{us:Array Value}{t:TypeId}{u:Value}(ty:TypeId)(a:ts[0]?=some t)(b:us[0]?=some u):Builtin.len_ ts ty us=Builtin.len_ #[t] ty #[u]:=by simp[Builtin.len_,a,b]
theorem Gm{ts:Array TypeId}{us:Array Value}{t t':TypeId}{u v:Value}(ty:TypeId)(a:ts[0]?=some t)(b:ts[1]?=some t')(c:us[0]?=some u)(d:us[1]?=some v):Builtin.append_ ts ty us=Builtin.append_ #[t,t'] ty #[u,v]:=by simp[Builtin.append_,a,b,c,d]
theorem RE{ts:Array TypeId}{us:Array Value}{t:TypeId}{u v:Value}(ty:TypeId)(a:ts[0]?=some t)(b:us[0]?=some u)(c:us[1]?=some v):Builtin.copy_ ts ty us=Builtin.copy_ #[t,t] ty #[u,v]:=by simp[Builtin.copy_,a,b,c]
theorem VJ{α a:Type}{R:α->a->Prop}{x:α}{us:List a}(h:Zip R [x] us):∃u,us=[u]/\R x u:=by obtain⟨u,b,rfl,c,d⟩:=h.jr;rw[d.Jw];exact⟨u,rfl,c⟩
theorem EO{α a:Type}{R:α->a->Prop}{x y:α}{us:List a}(h:Zip R [x,y] us):∃u v,us=[u,v]/\R x u/\R y v:=by obtain⟨u,b,rfl,c,d⟩:=h.jr;obtain⟨v,rfl,e⟩:=VJ d;exact⟨u,v,rfl,c,e⟩
theorem Zip.append{α c:Type}{R:α->c->Prop}{xs ys:List α}{us vs:List c}(h:Zip R xs us)(k:Zip R ys vs):Zip R (xs++ys) (us++vs):=by
 refine⟨by simp[h.1,k.1],fun j x u a b=>?_⟩;by_cases d:j<xs.length
 ·rw[je d]at a;rw[je (by rw[<-h.1];exact d)]at b;exact h.2 j x u a b
 ·rw[qo (by omega)]at a;rw[qo (by rw[<-h.1];omega),<-h.1]at b;exact k.2 _ x u a b
theorem zJ{α a:Type}{o:Option α}{f:α->a}{y:a}(h:o.map f=some y):∃x,o=some x/\f x=y:=by
 cases o with
 |none=>simp at h
 |some x=>exact⟨x,rfl,by simpa using h⟩
end
theorem aW{C:Ctx}{w:World}{S:Nat->Prop}{G:Nat->GI}{Y:Hp}{Z:Nat}(hΓ:∀g M,C.Γ g=some M->jl dr C.P g M)(H:Inv C.P w S G Y Z)
  {ρ:Operand->Option O} {a:Operand->Value} (d:∀y pv,ρ y=some pv->qg w S G Z pv (a y)) {o:Oper} {x:O} {Y':Hp} {Z':Nat} (h:zS C ρ Y Z o.op=some (x,Y',Z')) :
  zaH dr C.P w Y Z S G x Y' Z' ((execOp a o).run C.P w):=by
 have A:∀{f:O} {y:O},(f,Y,Z)=(y,Y',Z')->f=y/\Y=Y'/\Z=Z':=by
  intro f y h;injection h with L h
  injection h with Q R;exact⟨L,Q,R⟩
 unfold zS at h;unfold execOp;split at h
 ·rename_i y B;obtain⟨p,D,F⟩:=zJ h;obtain⟨rfl,rfl,rfl⟩:=A F;simp only[B];exact .inl ⟨a y,w,S,G,.inl rfl,.refl H,d _ _ D⟩
 ·rename_i y B;obtain⟨p,D,F⟩:=zJ h;obtain⟨rfl,rfl,rfl⟩:=A F;simp only[B];exact .inl ⟨a y,w,S,G,.inl rfl,.refl H,d _ _ D⟩
 ·rename_i c y z B;simp only[B];split at h
  ·rename_i W;obtain⟨p,D,F⟩:=zJ h;obtain⟨rfl,rfl,rfl⟩:=A F;obtain⟨e,_⟩:=(d _ _ W).wZ;exact .inl ⟨a y,w,S,G,.inl (by simp[e,asBool]),.refl H,d _ _ D⟩
  ·rename_i W;obtain⟨p,D,F⟩:=zJ h;obtain⟨rfl,rfl,rfl⟩:=A F;obtain⟨e,_⟩:=(d _ _ W).wZ;exact .inl ⟨a z,w,S,G,.inl (by simp[e,asBool]),.refl H,d _ _ D⟩
  ·cases h
 ·rename_i t B;simp only[B];split at h
  ·rename_i n z D F;split at h
   ·rename_i hl;injection h with h
    injection h with L h;injection h with Q R;subst L;subst Q;subst R;exact(Co H D F hl.1 hl.2).op
   ·cases h
  ·cases h
 ·rename_i t y B;simp only[B];split at h
  ·rename_i n p D F;split at h
   ·rename_i W;injection h with h
    injection h with L h;injection h with Q R;subst L;subst Q;subst R;exact(Li H D (d _ _ F) W.1 W.2.1 W.2.2).op
   ·cases h
  ·cases h
 ·rename_i t parts B;simp only[B];split at h
  ·rename_i ps hps;obtain⟨p,D,F⟩:=zJ h;obtain⟨rfl,rfl,rfl⟩:=A F;exact(Cv H D (by simpa using cK d hps)).op
  ·cases h
 ·rename_i t len parts B;simp only[B];split at h
  ·rename_i ps hps;exact(eW H h (by simpa using cK d hps)).op
  ·cases h
 ·rename_i t y B;simp only[B];split at h
  ·rename_i p Y1;obtain⟨q,D,F⟩:=zJ h;obtain⟨rfl,rfl,rfl⟩:=A F;exact(n9 H D (d _ _ Y1)).op
  ·cases h
 ·rename_i t y z B;simp only[B];split at h
  ·rename_i p q D F;obtain⟨Y1,J,I⟩:=zJ h;injection I with L I
   injection I with Q R;subst L;subst Q;subst R;obtain⟨w',S',G',r1,r2⟩:=gz H J (d _ _ D) (d _ _ F);exact .inl ⟨undef,w',S',G',.inr ⟨by simp[r1],rfl⟩,r2,kA⟩
  ·cases h
 ·rename_i y B;simp only[B];split at h
  ·rename_i id i j hy;injection h with h
   obtain⟨rfl,rfl,rfl⟩:=A h;have hr:=d _ _ hy;obtain⟨D,F⟩:=hr.kW;exact .inl ⟨a y,w,S,G,.inl (by rw[F];rfl),.refl H,hr⟩
  ·rename_i cs hy;injection h with h
   obtain⟨rfl,rfl,rfl⟩:=A h;have hr:=d _ _ hy;have hr2:=hr;have W:=hr.Kl;generalize hay:a y=u at *;cases W with
   |ptr us D F=>exact .inl ⟨_,w,S,G,.inl rfl,.refl H,hr2⟩
  ·cases h
 ·rename_i op t y z t2 B;simp only[B];split at h
  ·rename_i p q D F;obtain⟨r,J,I⟩:=zJ h;obtain⟨rfl,rfl,rfl⟩:=A I;exact(Gg H y z J (d _ _ D) (d _ _ F)).op
  ·cases h
 ·rename_i op t y B;simp only[B];split at h
  ·rename_i p D;obtain⟨r,J,I⟩:=zJ h;obtain⟨rfl,rfl,rfl⟩:=A I;exact(Gh H J (d _ _ D)).op
  ·cases h
 ·rename_i src dst y B;simp only[B];split at h
  ·rename_i p D;obtain⟨r,J,I⟩:=zJ h;obtain⟨rfl,rfl,rfl⟩:=A I;exact(Gi H J (d _ _ D)).op
  ·cases h
 ·rename_i f first K B
  simp only[B];split at h
  ·rename_i xs ys D F;injection h with h
   obtain⟨rfl,rfl,rfl⟩:=A h;exact(nh H (by simpa using ZM d D) (by simpa using ZM d F)).op
  ·cases h
 ·rename_i t l c B;simp only[B];split at h
  ·rename_i p q D F;exact(gD H h (d _ _ D) (d _ _ F)).op
  ·cases h
 ·rename_i t y lo hh B;simp only[B];split at h
  ·rename_i p D;obtain⟨r,J,I⟩:=zJ h;obtain⟨rfl,rfl,rfl⟩:=A I;have hd:∀o:Option Operand,o.map ρ=none->o.map a=none:=fun o h=>by cases o<;>simp_all
   have hs:∀(o:Option Operand) (p:O),o.map ρ=some (some p)->∃u,o.map a=some u/\qg w S G Z p u:=fun o p h=>by
    cases o with
    |none=>simp at h
    |some y=>exact⟨a y,rfl,d _ _ (by simpa using h)⟩
   exact(Cs H J (d _ _ D) (hd lo) (hs lo) (hd hh) (hs hh)).op
  ·cases h
 ·rename_i t y f B;simp only[B];split at h
  ·rename_i p D;obtain⟨r,J,I⟩:=zJ h;obtain⟨rfl,rfl,rfl⟩:=A I;exact(gA H J (d _ _ D)).op
  ·cases h
 ·rename_i t y f B;simp only[B];split at h
  ·rename_i p D;obtain⟨r,J,I⟩:=zJ h;obtain⟨rfl,rfl,rfl⟩:=A I;exact(Cp H J (d _ _ D)).op
  ·cases h
 ·rename_i t y z B;simp only[B];split at h
  ·rename_i p q D F;obtain⟨r,J,I⟩:=zJ h;obtain⟨rfl,rfl,rfl⟩:=A I;exact(gB H J (d _ _ D) (d _ _ F)).op
  ·cases h
 ·rename_i t y z B;simp only[B];split at h
  ·rename_i p q D F;obtain⟨r,J,I⟩:=zJ h;obtain⟨rfl,rfl,rfl⟩:=A I;exact(Cq H J (d _ _ D) (d _ _ F)).op
  ·cases h
 ·rename_i y i B;simp only[B];split at h
  ·rename_i vs D;obtain⟨r,J,I⟩:=zJ h;obtain⟨rfl,rfl,rfl⟩:=A I;exact(pZ H J (d _ _ D)).op
  ·cases h
 ·rename_i c B;simp only[B];obtain⟨callee,⟨E⟩,N⟩:=c;unfold xq at h;simp only at h;split at h
  ·rename_i xs T;have hz:=ZM d T;split at h
   ·rename_i b;unfold yr at h;split at h
    ·split at h
     ·rename_i y t ht;obtain⟨u,hu1,hu2⟩:=VJ hz;obtain⟨r,J,I⟩:=zJ h;obtain⟨rfl,rfl,rfl⟩:=A I;have hd:=(Lr (dr:=dr) (ty:=o.type) H J hu2).op;rw[<-zbC (us:=(E.map a).toArray) o.type ht (by simp[hu1])]at hd;simpa[resolve,invoke,builtin,-bind_pure_comp]using hd
     ·cases h
    ·obtain⟨r,J,I⟩:=zJ h;obtain⟨rfl,rfl,rfl⟩:=A I;have hd:=(Ls (dr:=dr) (us:=(E.map a).toArray) (ts:=N) (ty:=o.type) H J (by simpa using hz)).op;simpa[resolve,invoke,builtin,-bind_pure_comp]using hd
    ·obtain⟨r,J,I⟩:=zJ h;obtain⟨rfl,rfl,rfl⟩:=A I;have hd:=(Lt (dr:=dr) (us:=(E.map a).toArray) (ts:=N) (ty:=o.type) H J (by simpa using hz)).op;simpa[resolve,invoke,builtin,-bind_pure_comp]using hd
    ·split at h
     ·rename_i s y t t' ht ht';obtain⟨u,v,U,hu,hv⟩:=EO hz;have hd:=(tG (dr:=dr) (ty:=o.type) H h hu hv).op;rw[<-Gm (us:=(E.map a).toArray) o.type ht ht' (by simp[U]) (by simp[U])]at hd;simpa[resolve,invoke,builtin,-bind_pure_comp]using hd
     ·cases h
    ·split at h
     ·rename_i s y t ht;obtain⟨u,v,U,hu,hv⟩:=EO hz;have hd:=(Gl (dr:=dr) (t':=t) (ty:=o.type) H h hu hv).op;rw[<-RE (us:=(E.map a).toArray) o.type ht (by simp[U]) (by simp[U])]at hd;simpa[resolve,invoke,builtin,-bind_pure_comp]using hd
     ·cases h
    ·split at h
     ·rename_i y t ht;obtain⟨u,hu1,hu2⟩:=VJ hz;have hd:=(Cx (dr:=dr) (ty:=o.type) H h hu2).op;rw[<-Lu (us:=(E.map a).toArray) o.type ht (by simp[hu1])]at hd;simpa[resolve,invoke,builtin,-bind_pure_comp]using hd
     ·cases h
    ·cases h
   ·rename_i f;unfold jH at h;split at h
    ·rename_i g first K hf
     split at h
     ·rename_i M hg;obtain⟨⟨fn,f1,f2,f3⟩,X⟩:=hΓ g M hg;obtain⟨us,ts,L,l1,l2,r1,r2⟩:=(d _ _ hf).td;have hz:Zip (qg w S G Z) (first++xs++K) (us.toList++E.map a++ts.toList):=
       (Zip.append ⟨by simpa using l1,fun j pv x p q=>r1 j pv x p (by simpa using q)⟩ (ZM d T)).append ⟨by simpa using l2,fun j pv x p q=>r2 j pv x p (by simpa using q)⟩
      refine .inr ⟨g,(us.toList++E.map a++ts.toList).toArray,?_,X _ _ _ _ _ _ h w S G _ H hz⟩;have f2':¬fn.name= "runtime.NumGoroutine":=by simpa using f2
      have f3':¬fn.body=none:=by intro h;simp[h]at f3
      have e5:(us.toList++E.map a++ts.toList).toArray=us++(E.map a).toArray++ts:=by apply Array.ext';simp
      rw[e5];simp[resolve,L,Deferred.ofValue,invoke,callFunc,f1,f2',f3']
     ·cases h
    ·cases h
   ·cases h
  ·cases h
 ·rename_i t B;simp only[B];split at h
  ·rename_i kt hk;injection h with h
   injection h with L h;injection h with Q R;subst L;subst Q;subst R;exact(rb H t).op
  ·cases h
 ·rename_i t y z ok B;simp only[B];split at h
  ·rename_i p q D F;obtain⟨r,J,I⟩:=zJ h;obtain⟨rfl,rfl,rfl⟩:=A I;exact(tI H J (d _ _ D) (d _ _ F)).op
  ·cases h
 ·rename_i t m k y B;simp only[B];split at h
  ·rename_i p q r D F J;obtain⟨Y1,I,h5⟩:=zJ h;injection h5 with L h5
   injection h5 with Q R;subst L;subst Q;subst R;obtain⟨w',S',G',r1,r2⟩:=dX H I (d _ _ D) (d _ _ F) (d _ _ J);exact .inl ⟨undef,w',S',G',.inr ⟨by simp[r1],rfl⟩,r2,kA⟩
  ·cases h
 ·rename_i t m k y B;simp only[B];split at h
  ·rename_i p q r D F J;obtain⟨Y1,I,h5⟩:=zJ h;injection h5 with L h5
   injection h5 with Q R;subst L;subst Q;subst R;obtain⟨w',S',G',r1,r2⟩:=dX H I (d _ _ D) (d _ _ F) (d _ _ J);exact .inl ⟨undef,w',S',G',.inr ⟨by simp[r1],rfl⟩,r2,kA⟩
  ·cases h
 ·cases h
end Go.AM
