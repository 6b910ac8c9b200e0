/- Lemmas. -/
import Derived.Maps.AppendAt
import Derived.Lib.AppendStr
import Derived.MapKept
import Derived.Test.YtmdpcoooleipcaaGreatDoorG1
set_option maxRecDepth 8000
open Go Proofs Proofs.YtmdpcoooleipcaaGreatDoor Proofs.Tryz RowKit AM SpanLaw Q Zz
namespace Go.AM
variable{dr:Prop}
section
variable{P:Program}{w:World}{S:Nat->Prop}{G:Nat->GI}{Y:Hp}{Z:Nat}
theorem V2{o:Option (Option O)}{v:Option Value}{a n y:Nat}(code:BoundsCode)(h:je a o=some n)(e:n<=y)(b:o=none->v=none)(hs:∀p,o=some (some p)->∃u,v=some u/\zR w S G Z p u)(f:o≠some none) :
  (v=none/\n=a)\/∃k i,v=some (.int k i)/\(Instr.sliceBound (.int k i) y code).run P w=.ok n w:=by
 unfold je at h;split at h
 ·injection h with h;exact .inl ⟨b rfl,h.symm⟩
 ·rename_i k i;split at h
  ·rename_i c;injection h with h
   subst h;obtain⟨u,rfl,d⟩:=hs _ rfl;obtain⟨rfl,_⟩:=d.wj;refine .inr ⟨k,i,rfl,?_⟩;have:i<=y:=by omega
   simp[Instr.sliceBound,asIntOf,c,this]
  ·cases h
 ·cases h
theorem Wk{isS:Bool}{len cap l h:Nat}{b c:Option (Option O)}{d e:Option Value}(g:je 0 b=some l)(o:je len c=some h)(a:l<=h)(f:h<=cap)
  (j:b=none->d=none) (m:∀p,b=some (some p)->∃u,d=some u/\zR w S G Z p u) (n1:b≠some none)
  (q:c=none->e=none) (r:∀p,c=some (some p)->∃u,e=some u/\zR w S G Z p u) (s:c≠some none) :
  (Instr.sliceBounds isS len cap d e none).run P w=.ok (l,h,cap) w:=by
 rcases V2 (P:=P) (if isS then .sliceAcap else .sliceAlen) o f q r s with⟨rfl,rfl⟩|⟨k,i,rfl,v⟩
 ·rcases V2 (P:=P) .sliceB g a j m n1 with⟨rfl,rfl⟩|⟨t,i',rfl,n⟩
  ·simp[Instr.sliceBounds]
  ·simp[Instr.sliceBounds,n]
 ·rcases V2 (P:=P) .sliceB g a j m n1 with⟨rfl,rfl⟩|⟨t,i',rfl,n⟩
  ·cases isS<;>simp_all[Instr.sliceBounds]
  ·cases isS<;>simp_all[Instr.sliceBounds]
theorem oI(a:Inv P w S G Y Z){t:TypeId}{p x:O}{T U:Option (Option O)}{W vh:Option Value}{u:Value}(h:yL P Y t p T U=some x)(Y':zR w S G Z p u)
  (L:T=none->W=none) (M:∀p,T=some (some p)->∃u,W=some u/\zR w S G Z p u)
  (N:U=none->vh=none) (Q:∀p,U=some (some p)->∃u,vh=some u/\zR w S G Z p u):xq dr P w Y Z S G x Y Z ((Instr.sliceAt t u W vh none).run P w):=by
 have C:∀{d n:Nat} {o:Option (Option O)},je d o=some n->o≠some none:=by rintro d n o h rfl;simp[je]at h
 unfold yL at h;split at h
 ·rename_i s z;obtain⟨rfl,_⟩:=Y'.wj;split at h
  ·rename_i l q r y;split at h
   ·rename_i k;injection h with h
    subst h;have B:=Wk (P:=P) (isS:=false) (cap:=s.size) r y k.1 k.2 L M (C r) N Q (C y);exact zW (v:=.string (s.extract l q)) a (by simp[Instr.sliceAt,zy z,Instr.slice,B]) (ky _ rfl)
   ·cases h
  ·cases h
 ·rename_i e s es z;split at h
  ·rename_i n l q f r y;split at h
   ·rename_i k;obtain⟨rfl,k⟩:=k;injection h with h
    subst h;cases Y'.KG with
    |sl us h0 h1 h2 h3 h4 h5=>
     rename_i A cap;have B:=Wk (P:=P) (isS:=true) (cap:=cap) r y k.1 (by omega) L M (C r) N Q (C y);have E:((es.drop l).take (q-l)).length=q-l:=by simp;omega
     have D:∀(i:Nat) (c:zb),((es.drop l).take (q-l))[i]?=some c->i<q-l/\es[l+i]?=some c:=by
      intro i c a;rw[wG]at a;split at a
      ·rw[wu]at a;exact⟨by assumption,a⟩
      ·cases a
     have F:qO w S (.sl s ((es.drop l).take (q-l))) (.slice (if cap=l then A else A.map (·.add (l*s))) ((es.drop l).take (q-l)).length (cap-l)):=by
      refine .sl (fun i j=>us (l+i) j) (fun ha=>by have:A=none:=(by split at ha<;>simp_all);have:=h0 this;omega) (by omega) (by omega) (fun c k=>h3 c (aR _ _ (W4 _ _ k))) (fun i j c pv a hj=>?_) (fun i j c pv a hj=>h5 _ j c pv (D i c a).2 hj);obtain⟨hil,hi'⟩:=D i c a;obtain⟨ad,rfl,R,g2,g3⟩:=h4 (l+i) j c pv hi' hj;rw[zg (by omega)];refine⟨ad.add (l*s),rfl,by rw[xy];exact R,?_,g3⟩;rw[KL];have:l*s+(i*s+j)=(l+i)*s+j:=by rw[w8];omega
      rw[this];exact g2
     rw[E]at F;exact zW (v:=_) a (by simp[Instr.sliceAt,zy z,Instr.slice,B,wH f]) (.c F)
   ·cases h
  ·cases h
 ·rename_i e z;have:=Y'.xp;subst this;split at h
  ·rename_i n l q f r y;split at h
   ·rename_i k;obtain⟨rfl,rfl⟩:=k;injection h with h
    subst h;have B:=Wk (P:=P) (isS:=true) (len:=0) (cap:=0) r y (zi _) (zi _) L M (C r) N Q (C y);exact zW (v:=.slice none 0 0) a (by simp[Instr.sliceAt,zy z,Instr.slice,B,wH f]) (.c .nil)
   ·cases h
  ·cases h
 ·rename_i e id off n z;have H:=Y'.vI;obtain⟨cap,R,g2,g3,g4,rfl⟩:=Y'.ve;split at h
  ·rename_i m l q f r y;split at h;rename_i b HG;split at h
   ·rename_i k;obtain⟨hbm,k⟩:=k;injection h with h
    have B:=Wk (P:=P) (isS:=true) (cap:=cap) r y k.1 (by omega) L M (C r) N Q (C y);by_cases I:l=0
    ·subst I;simp only[qa]at h;subst h;refine zW (v:=.slice (some ⟨(G id).g,off*(G id).s,none⟩) q cap) a ?_ (.own R (by omega) g3 g4 H);by_cases J:cap=0
     ·subst J;simp[Instr.sliceAt,zy z,Instr.slice,B,wH f]
     ·simp[Instr.sliceAt,zy z,Instr.slice,B,wH f,J,JR]
    ·rw[zg I]at h;by_cases K:q=l
     ·subst K;simp only[qa]at h;subst h;refine zW (v:=_) a (by simp[Instr.sliceAt,zy z,Instr.slice,B,wH f];rfl) (.c ?_);exact .sl (es:=[]) (fun _ _=>undef) (fun ha=>by split at ha<;>simp_all) (by simp) (by omega) (by simp) (by simp) (by simp)
     ·rw[zg K]at h;subst h;have hcl:¬cap=l:=by omega
      refine zW (v:=.slice (some ⟨(G id).g,(off+l)*(G id).s,none⟩) (q-l) (cap-l)) a ?_ (.own R (by omega) (by omega) ?_ H)
      ·have OW:(G id).s=m:=by rw[<-(a.live id b HG).bs,hbm]
       simp[Instr.sliceAt,zy z,Instr.slice,B,wH f,hcl,JR,OW,w8]
      ·rw[show off+l+(cap-l)=off+cap from by omega];exact g4
   ·cases h
   ·cases h
  ·cases h
 ·cases h
theorem ei(g:Inv P w S G Y Z){f:Fn}{xs ys:zb}{us ts:Array Value}(d:Zip (zR w S G Z) xs us.toList)(e:Zip (zR w S G Z) ys ts.toList) :
  xq dr P w Y Z S G (.fn f xs ys) Y Z ((Instr.makeFunc f us ts).run P w):=
 zW (v:=.func f us ts) g rfl (.fn (by simpa using d.1) (by simpa using e.1) (fun j c x a b=>d.2 j c x a (by simpa using b)) (fun j c x a b=>e.2 j c x a (by simpa using b)))
theorem lC{z:Array Value}{n s i j:Nat}(hs:z.size=s)(c:i<n)(b:j<s):(madeCells z (n*s))[i*s+j]?=z[j]?:=by
 have a:i*s+j<n*s:=v7 c b;unfold madeCells;rw[Array.getElem?_map,Array.getElem?_range,zl a];have d:(i*s+j) % s=j:=by rw[iW,Nat.add_mul_mod_self_right];exact aT b
 simp only[zO,hs,d];rw[jO (by omega)];simp only[qu];exact(HE z j (by omega))
theorem bD(K:Inv P w S G Y Z){t:TypeId}{p q x:O}{Y':Hp}{Z':Nat}{u v:Value}(h:ZK P Y Z t p q=some (x,Y',Z'))(L:zR w S G Z p u)(M:zR w S G Z q v) :
  xq dr P w Y Z S G x Y' Z' ((Instr.makeSlice t u v).run P w):=by
 unfold ZK at h;split at h
 ·rename_i N l Q c;obtain⟨rfl,_⟩:=L.wj;obtain⟨rfl,_⟩:=M.wj;split at h
  ·rename_i e R;split at h
   ·rename_i n g z F T U;split at h
    ·rename_i W;obtain⟨H,r,c3,c4,I,c6⟩:=W;injection h with h
     injection h with ex h;injection h with eh en;subst ex;subst eh;subst en;obtain⟨i,d,s,i2,i3⟩:=Wg U;obtain⟨z1,z2⟩:=jz (w:=w) (S:=S) i3;have f:i.size=n:=by simpa[qF,s]using F
     have y:i.bytes=g:=by simpa[vX,s]using T
     have A:d.cells.size=n:=by rw[<-r,z1];simp
     have hm:c.toNat<=9223372036854775807:=by simpa[maxLen]using I
     have b:(i.bytes:Int)*c<=281474976710656:=by
      have:((c.toNat*g:Nat):Int)<=140737488355328:=by omega
      rw[Int.natCast_mul,Int.toNat_of_nonneg (by omega)]at this;rw[y,Int.mul_comm];omega
     have hr:=run_make (P:=P) w t e i d (kn R) s i2 N Q l c c3 c4 b (by omega);have m:l.toNat<=c.toNat:=by omega
     have k:=jN.alloc (dr:=dr) K (madeCells d.cells (c.toNat*i.size)) e true (List.replicate l.toNat z) n H (by simpa[qF]using F) (fun c' B=>by rw[(List.mem_replicate.1 B).2];exact r)
      (by rw[size_madeCells,f,List.length_replicate];exact z6 _ m) (fun i' j c' pv a J=>by
       have C:i'<l.toNat:=by have:=(ze.1 a).1;simpa using this
       rw[List.getElem?_replicate,zl C]at a;injection a with a
       subst a;have D:j<n:=by rw[<-r];exact(ze.1 J).1
       have o:j<d.cells.size:=by omega
       rw[f,lC A (by omega) D];have E:=z2 j pv d.cells[j] J (by simp[o]);exact⟨d.cells[j],by simp[o],fun _=>E.1,.c E.1,E.2.1⟩)
     refine⟨_,_,_,_,hr,k,?_⟩;have:=zR.own (w:=w.alloc (.cells (madeCells d.cells (c.toNat*i.size)) e)) (S:=S) (G:=qb G Z ⟨w.heap.size,(madeCells d.cells (c.toNat*i.size)).size,n⟩) (Z:=Z+1) (id:=Z) (off:=0) (n:=l.toNat) (cap:=c.toNat) (by omega) m I (by simp[size_madeCells,f]) (by simpa using H);simpa using this
    ·cases h
   ·cases h
  ·cases h
 ·cases h
end
variable{dr:Prop}
section
variable{P:Program}{w:World}{S:Nat->Prop}{G:Nat->GI}{Y:Hp}{Z:Nat}
theorem jN.I0{Y1:Hp}{r:World}(n:Inv P w S G Y Z)(a:∀id b,Y1 id=some b->Y id=some b)(f:GI)(e:TypeId)(B:Bool)(es:List zb)(t:Array Value)
  (os:r.os=w.os) (F:r.tape=w.tape) (v:r.output=w.output) (y:w.heap.size<=r.heap.size) (C:w.drawn<=r.drawn)
  (D:Nat->Prop) (Q:∀b,D b->yu Y G b/\¬S b/\∀id x,Y1 id=some x->(G id).g≠b)
  (m:∀b,b<w.heap.size->b≠f.g->¬D b->r.heap[b]?=w.heap[b]?) (E:∀id b,Y1 id=some b->(G id).g≠f.g) (H:¬S f.g) (I:yu Y G f.g\/w.heap.size<=f.g)
  (R:0<f.s) (T:(P.info? e).map (·.size)=some f.s) (J:∀c∈es,c.length=f.s) (K:es.length*f.s<=f.z) (L:r.heap[f.g]?=some (.cells t e (0,0))) (U:t.size=f.z)
  (M:∀(i j:Nat) (c:zb) (N:O),es[i]?=some c->c[j]?=some N->∃u,t[i*f.s+j]?=some u/\jP w S G Z B N u) :
  jN dr P Y Z S G w (qb Y1 Z (some ⟨e,f.s,B,es⟩)) (Z+1) S (qb G Z f) r:=by
 have W:∀b,S b->S b/\r.heap[b]?=w.heap[b]?:=fun b d=>⟨d,m b (n.st b d) (fun e=>H (e ▸ d)) fun h=>(Q b h).2.1 d⟩
 have q:∀id,id<Z->qb G Z f id=G id:=fun id hid=>zc _ _ _ _ (by omega)
 have l:∀id,id≠Z->qb Y1 Z (some ⟨e,f.s,B,es⟩) id=Y1 id:=fun id hid=>zc _ _ _ _ hid
 refine⟨⟨fun b d=>q8 (n.st b d) y,fun id b d=>?_,fun id b d=>?_,fun id b d=>?_,fun id id' b x d o A=>?_,n.KJ.mono W⟩,by omega,q,fun _ d=>d,fun _ d=>.inl d,fun id b d=>?_,⟨os,F,v,y,fun _=>C,fun k hk hn=>m k hk (fun e=>?_) fun h=>hn (Q k h).1⟩⟩
 ·by_cases hid:id=Z
  ·omega
  ·rw[l id hid]at d;have:=n.top id b (a id b d);omega
 ·by_cases hid:id=Z
  ·subst hid;simp only[q9]at d⊢;injection d with d
   subst d;refine .jE R rfl ⟨T,J,K,t,L,U,fun i j c N hi' hj=>?_⟩;obtain⟨u,h1,h2⟩:=M i j c N hi' hj;exact⟨u,h1,h2.mono W (by omega) q⟩
  ·rw[l id hid]at d;have ht:=n.top id b (a id b d);rw[q id ht];have hl:=n.live id b (a id b d);exact hl.mono W (by omega) q (m _ hl.lt (E id b d) fun h=>(Q _ h).2.2 id b d rfl)
 ·by_cases hid:id=Z
  ·subst hid;simpa using H
  ·rw[l id hid]at d;rw[q id (n.top id b (a id b d))];exact n.apart id b (a id b d)
 ·by_cases hid:id=Z<;>by_cases p:id'=Z
  ·omega
  ·subst hid;rw[l id' p]at o;rw[q id' (n.top id' x (a id' x o))]at A;simp only[q9]at A;exact(E id' x o A.symm).elim
  ·subst p;rw[l id hid]at d;rw[q id (n.top id b (a id b d))]at A;simp only[q9]at A;exact(E id b d A).elim
  ·rw[l id hid]at d;rw[l id' p]at o;rw[q id (n.top id b (a id b d)),q id' (n.top id' x (a id' x o))]at A;exact n.inj id id' b x (a id b d) (a id' x o) A
 ·by_cases hid:id=Z
  ·subst hid;simpa using I
  ·rw[l id hid]at d;rw[q id (n.top id b (a id b d))];exact .inl ⟨id,b,a id b d,rfl⟩
 ·subst e;rcases I with h|h
  ·exact hn h
  ·omega
theorem Ke(Q:Inv P w S G Y Z){n:Nat}{x:O}{xs:List zb}{u:Value}(h:view Y n x=some xs)(t:zR w S G Z x u) :
  ∃(A:Option Addr) (c:Nat) (f:Nat->Value),u=.slice A xs.length c/\(∀m∈xs,m.length=n) /\
   ∀(i j:Nat) (m:zb) (d:O),xs[i]?=some m->m[j]?=some d->∃l,A=some l/\w.cell? (l.add (i*n+j))=some (f (i*n+j))/\jP w S G Z true d (f (i*n+j)):=by
 have R:∀(A:Option Addr) (xs:List zb) (c:Nat),qO w S (.sl n xs) (.slice A xs.length c)->(∃us:Nat->Nat->Value,(∀m∈xs,m.length=n) /\
   (∀(i j:Nat) (c:zb) (d:O),xs[i]?=some c->c[j]?=some d->∃l,A=some l/\w.cell? (l.add (i*n+j))=some (us i j)/\(us i j).oneCell'=true/\qO w S d (us i j))):=by
  intro A xs c h;cases h with
  |sl us T I J y K F=>refine⟨us,y,fun i j c d a b=>?_⟩;obtain⟨l,e,_,p,r⟩:=K i j c d a b;exact⟨l,e,p,r,F i j c d a b⟩
 have z:∀(A:Option Addr) (c:Nat) (us:Nat->Nat->Value),(∀m∈xs,m.length=n) ->
   (∀(i j:Nat) (c:zb) (d:O),xs[i]?=some c->c[j]?=some d->∃l,A=some l/\w.cell? (l.add (i*n+j))=some (us i j)/\jP w S G Z true d (us i j))->u=.slice A xs.length c ->
   ∃(A:Option Addr) (c:Nat) (f:Nat->Value),u=.slice A xs.length c/\(∀m∈xs,m.length=n) /\
    ∀(i j:Nat) (m:zb) (d:O),xs[i]?=some m->m[j]?=some d->∃l,A=some l/\w.cell? (l.add (i*n+j))=some (f (i*n+j))/\jP w S G Z true d (f (i*n+j)):=by
  intro A c us I J y;refine⟨A,c,fun k=>match A with|some l=>(w.cell? (l.add k)).getD undef|none=>undef,y,I,fun i j m d o L=>?_⟩;obtain⟨l,rfl,p,r⟩:=J i j m d o L;exact⟨l,rfl,by simp[p],by simpa[p]using r⟩
 unfold view at h;split at h
 ·injection h with h;subst h;have:=t.xp;subst this;exact⟨none,0,fun _=>undef,rfl,by simp,by simp⟩
 ·injection h with h;subst h;obtain⟨l,cap,rfl,_⟩:=t.ed;exact⟨some l,cap,fun _=>undef,rfl,by simp,by simp⟩
 ·rename_i s es;split at h
  ·rename_i hs;subst hs;injection h with h
   subst h;have M:=t.KG;cases M with
   |sl us T I J y K F=>refine z _ _ us y (fun i j c d a b=>?_) rfl;obtain⟨l,e,_,p,r⟩:=K i j c d a b;exact⟨l,e,p,fun _=>F i j c d a b,.c (F i j c d a b),r⟩
  ·cases h
 ·rename_i id off k;split at h
  ·rename_i b U;split at h
   ·rename_i M;injection h with h
    obtain⟨W,c2,c3⟩:=M;have B:=t.vI;obtain⟨cap,p,r,g3,g4,rfl⟩:=t.ve;have q:=Q.live id b U;obtain⟨C,r1,r2,r3⟩:=q.row B;have hs:(G id).s=n:=by rw[<-q.bs,c2]
    have hl:xs.length=k:=by rw[<-h];simp;omega
    have D:∀(i:Nat) (c:zb),xs[i]?=some c->b.es[off+i]?=some c:=by
     intro i c o;rw[<-h,wG]at o;split at o
     ·rwa [wu]at o
     ·cases o
    refine z (some ⟨(G id).g,off*(G id).s,none⟩) cap (fun i j=>(C[(off+i)*n+j]?).getD undef) (fun m E=>?_) (fun i j c d o L=>?_) (by rw[hl])
    ·rw[<-h]at E;rw[<-hs];exact q.len B m (aR _ _ (W4 _ _ E))
    ·obtain⟨v,H,N⟩:=r3 (off+i) j c d (D i c o) L;refine⟨_,rfl,?_,?_⟩
     ·rw[JR,cell_of_row w _ _ C _ _ r1,hs];rw[hs]at H;rw[show off*n+(i*n+j)=(off+i)*n+j from by rw[w8];omega,H];rfl
     ·rw[hs]at H;simp only[H,aV];rw[W]at N;exact N
   ·cases h
  ·cases h
 ·cases h
theorem Ba{n k m:Nat}(a:0<n)(b:k<m*n):k/n<m/\k % n<n/\k/n*n+k % n=k:=by refine⟨(Nat.div_lt_iff_lt_mul a).2 b,Nat.mod_lt _ a,?_⟩;rw[VU];exact Nat.div_add_mod k n
theorem eX{n:Nat}{xs:List zb}{A:Option Addr}{f:Nat->Value}(m:0<n)(o:∀b∈xs,b.length=n)
  (h:∀(i j:Nat) (b:zb) (c:O),xs[i]?=some b->b[j]?=some c->∃a,A=some a/\w.cell? (a.add (i*n+j))=some (f (i*n+j))/\jP w S G Z true c (f (i*n+j))) :
  ∀k,k<xs.length*n->∃a,A=some a/\w.cell? (a.add k)=some (f k)/\(f k).oneCell'=true:=by
 intro k p;obtain⟨d,t,q⟩:=Ba m p;have r:xs[k/n]?=some xs[k/n]:=zm d;have s:xs[k/n].length=n:=o _ (zz d);obtain⟨a,e,g,l⟩:=h (k/n) (k % n) _ (xs[k/n][k % n]'(by omega)) r (zm (by omega));rw[q]at g l;exact⟨a,e,g,l.2.2⟩
theorem gq(t ty e:TypeId)(i:TypeInfo)(z:Value)(x:P.underlying t=some (.slice e))(y:P.info? e=some i)(E:i.zero=some z)(G:0<i.size)
  (v:Value) (n:Nat) (xs:List Value) (h:w.ownsRow 0 e i.size v n xs) (a:Addr) (m c:Nat) (b:List Value) (p:b.length=m*i.size) (d:∀j u,b[j]?=some u->w.cell? (a.add j)=some u) (H:∀u∈b,u.oneCell'=true)
  (B:n+m<=maxLen) (f:(n+m)*i.bytes<=140737488355328) {I:Value} {F:World} (r:(Builtin.append_ #[t,t] ty #[v,.slice (some a) m c]).run P w=.ok I F):w.drawn<=F.drawn:=by
 have A:n+m<=9223372036854775807:=by simp only[maxLen]at B;omega
 rcases h.2 with⟨rfl,rfl⟩|⟨g,cap,q,rfl,J,K,L,M,C,D⟩
 ·by_cases N:m=0
  ·subst N;have Q:b=[]:=yh (by simpa using p);subst Q;have l:(Builtin.append_ #[t,t] ty #[.slice none 0 0,.slice (some a) 0 c]).run P w=.ok (.slice none 0 0) w:=by simp[Builtin.append_,zy x,sizeOf,typeInfo,y,Builtin.lenOf,Builtin.firstCells,loadCells,loadCellsFrom]
   rw[l]at r;injection r with _ r
   rw[<-r];exact zi _
  ·have l:=run_append_nil (P:=P) w t ty e i z x y E a m c b p d (by omega) (by omega) (by have R:=f;simp only[zo]at R;omega);rw[l]at r;injection r with _ r
   rw[<-r];exact wS _
 ·by_cases k:n+m<=cap
  ·have s:n*i.size+b.length<=q.size:=by rw[p,C,<-w8];exact z6 _ k
   have l:=run_append_room (P:=P) w t ty e i x y g n cap q K a m c b p d H k s;rw[l]at r;injection r with _ r
   rw[<-r];exact zi _
  ·have o:∀j u,xs[j]?=some u->w.cell? ((⟨g,0,none⟩:Addr).add j)=some u:=h.cells (g:=g) rfl;have l:=run_append_grow (P:=P) w t ty e i z x y E ⟨g,0,none⟩ n cap xs h.1 o a m c b p d (by omega) (by omega) (growslice_fits (by omega) f);rw[l]at r;injection r with _ r
   rw[<-r];exact wS _
def oJ(P:Program)(w:World)(t t' ty e:TypeId)(n f m:Nat)(x:Value)(b:List Value):Prop:=
 ∀(base:Nat) (v:Value) (k:Nat) (a:List Value),w.ownsRow base e n v k a->base<=w.heap.size->k+m<=maxLen->(k+m)*f<=140737488355328 ->
  ∃c d,(Builtin.append_ #[t,t'] ty #[v,x]).run P w=.ok c d/\d.ownsRow base e n c (k+m) (a++b)/\w.grownBy d v.ownBlock/\(c.ownBlock=v.ownBlock\/c.ownBlock=some w.heap.size)/\w.drawn<=d.drawn/\(m=0->c=v/\d=w)
theorem tC{t ty e:TypeId}{n d:Nat}{i:TypeInfo}{z:Value}(p:P.underlying t=some (.slice e))(B:P.info? e=some i)(G:i.zero=some z)(l:i.size=n)(r:i.bytes=d)(D:z.cells.size=n)(H:0<n)
  {A:Option Addr} {m c:Nat} {f:Nat->Value} (E:∀k,k<m*n->∃q,A=some q/\w.cell? (q.add k)=some (f k)/\(f k).oneCell'=true):oJ P w t t ty e n d m (.slice A m c) ((List.range (m*n)).map f):=by
 intro base v k b a o s I;by_cases J:m=0
 ·subst J;refine⟨v,w,?_,by simpa using a,World.grownBy.refl w _,.inl rfl,zi _,fun _=>⟨rfl,rfl⟩⟩;rcases a.2 with⟨rfl,_⟩|⟨g,cap,x,rfl,_,_,N,_⟩
  ·cases A<;>simp[Builtin.append_,zy p,sizeOf,typeInfo,B,Builtin.lenOf,Builtin.firstCells,loadCells,loadCellsFrom]
  ·cases A<;>simp[Builtin.append_,zy p,sizeOf,typeInfo,B,Builtin.lenOf,Builtin.firstCells,loadCells,loadCellsFrom,N,storeCells]
 ·obtain⟨q,rfl,_,_⟩:=E 0 (Nat.mul_pos (by omega) H);have K:∀j u,((List.range (m*n)).map f)[j]?=some u->w.cell? (q.add j)=some u:=fun j u C=>by
   have y:j<m*n:=by have:=(ze.1 C).1;simpa using this
   obtain⟨Q,F,R,_⟩:=E j y;injection F with F;subst F;rw[z8,xR y]at C;simp at C;rw[R,C]
  have L:∀u∈(List.range (m*n)).map f,u.oneCell'=true:=fun u p=>by obtain⟨k,S,rfl⟩:=zZ.1 p;exact(E k (vy.1 S)).choose_spec.2.2
  obtain⟨T,U,M,W,r3,r4,r5⟩:=run_append_own_at (P:=P) w base t ty e i z n d p B G l r D H v k b a q m c ((List.range (m*n)).map f) (by simp) K L s I o;refine⟨T,U,M,W,r3,r5,?_,fun h=>(J h).elim⟩;exact gq t ty e i z p B G (by omega) v k b (by rw[l];exact⟨a.1,a.2.imp (fun h=>h) fun⟨g,cap,x,q1,_,q2⟩=>⟨g,cap,x,q1,kj _,q2⟩⟩) q m c ((List.range (m*n)).map f) (by simp[l]) K L s (by rw[r];exact I) M
theorem Fe{t u ty e:TypeId}{i:TypeInfo}(r:P.underlying t=some (.slice e))(hs:P.underlying u=some .string)(x:P.info? e=some i)(A:i.zero=some (.int .u8 0))(b:i.size=1)(f:i.bytes=1)(s:ByteArray) :
  oJ P w t u ty e 1 1 s.size (.string s) (Lib.strCells s):=by
 intro base v k c a j y E;rw[Nat.mul_one]at E;have G:c.length=k:=by simpa using a.1
 have z:k+s.size<=9223372036854775807:=by simp only[maxLen]at y;omega
 obtain⟨H,I,d,J,K,T⟩:=Lib.run_append_own_string (P:=P) w base t u ty e i r hs x A b f v k c a s y E j;refine⟨H,I,d,J,K,?_⟩;by_cases l:s.size=0
 ·have m:(Builtin.append_ #[t,u] ty #[v,.string s]).run P w=.ok v w:=by
   have L:Lib.strCells s=[]:=yh (by rw[Lib.strCells_length];exact l);have B:=Lib.run_firstCells_string (P:=P) w 1 s;rw[l,L]at B;rcases a.2 with⟨rfl,_⟩|⟨g,cap,n,rfl,_,_,M,_⟩
   ·simp[Builtin.append_,zy r,zy hs,sizeOf,typeInfo,x,b,Builtin.lenOf,l,B]
   ·simp[Builtin.append_,zy r,zy hs,sizeOf,typeInfo,x,b,Builtin.lenOf,l,B,M,storeCells]
  rw[m]at d;injection d with o p
  subst o;subst p;exact⟨.inl rfl,zi _,fun _=>⟨rfl,rfl⟩⟩
 ·rcases a.2 with⟨rfl,rfl⟩|⟨g,cap,n,rfl,N,Q,R,S,C,D⟩
  ·have m:=run_append_nil_string (P:=P) w t u ty e i (.int .u8 0) r hs x A s (by omega) (by omega) (by rw[f];omega);rw[m]at d;injection d with o p
   subst o;subst p;exact⟨.inr rfl,wS _,fun h=>(l h).elim⟩
  ·have F:n.size=cap:=by simpa using C
   by_cases q:k+s.size<=cap
   ·have m:=Lib.run_append_room_string (P:=P) w t u ty e i r hs x b g k cap n Q s q (by omega);rw[m]at d;injection d with o p
    subst o;subst p;exact⟨.inl rfl,zi _,fun h=>(l h).elim⟩
   ·have m:=Lib.run_append_grow_string (P:=P) w t u ty e i (.int .u8 0) r hs x A ⟨g,0,none⟩ k cap c (by rw[b];omega) (a.cells (g:=g) rfl) s (by omega) (by omega) (growslice_fits (by omega) (by rw[f];omega));rw[m]at d;injection d with o p
    subst o;subst p;exact⟨.inr rfl,wS _,fun h=>(l h).elim⟩
theorem tD{e:TypeId}(h:ly P e=true):∃i,P.info? e=some i/\i.zero=some (.int .u8 0)/\i.size=1/\i.bytes=1:=by
 unfold ly at h;split at h
 ·rename_i i a;split at h
  ·rename_i z b;simp only[zs,yJ]at h;obtain⟨⟨rfl,c⟩,d⟩:=h;exact⟨i,a,b,c,d⟩
  ·cases h
 ·cases h
theorem Bb{u:TypeId}(h:A4 P u=true):P.underlying u=some .string:=by
 unfold A4 at h;split at h
 ·assumption
 ·cases h
theorem lD(C:Inv P w S G Y Z){t t' ty:TypeId}{s x y:O}{Y':Hp}{Z':Nat}{u v:Value}(h:yM P Y Z t t' s x=some (y,Y',Z'))(hs:zR w S G Z s u)(hx:zR w S G Z x v) :
  xq dr P w Y Z S G y Y' Z' ((Builtin.append_ #[t,t'] ty #[u,v]).run P w):=by
 unfold yM at h;split at h
 ·rename_i e he;split at h
  ·rename_i n R z h1 h2 h3;split at h
   ·rename_i xs I;obtain⟨i,vz,i1,i2,i3⟩:=Wg h3;have hsz:i.size=n:=by simpa[qF,i1]using h1
    have hby:i.bytes=R:=by simpa[vX,i1]using h2
    have hzl:=(jz (w:=w) (S:=S) i3).1;have hu:=kn he;have N:0<n->z.length=n->∃o,oJ P w t t' ty e n R xs.length v o/\o.length=xs.length*n/\(∀d∈xs,d.length=n) /\
      ∀(i j:Nat) (d:zb) (q:O),xs[i]?=some d->d[j]?=some q->∃T,o[i*n+j]?=some T/\jP w S G Z true q T:=by
     intro hn hzl';unfold bt at I;split at I
     ·rename_i b;split at I
      ·rename_i hc;injection I with I
       subst I;obtain⟨i',j1,j2,j3,j4⟩:=tD hc.2;rw[i1]at j1;injection j1 with j1
       subst j1;have hn1:n=1:=by omega
       have lr:R=1:=by omega
       subst hn1;subst lr;have hvs:v=.string b:=by
        cases hx with
        |c h=>cases h;rfl
       subst hvs;have hl:(b.data.toList.map fun c=>[O.v (.int .u8 c.toNat)]).length=b.size:=by rw[yK,Array.length_toList];rfl
       refine⟨Lib.strCells b,by rw[hl];exact Fe hu (Bb hc.1) i1 j2 j3 j4 b,by rw[hl,Lib.strCells_length,Nat.mul_one],fun d U=>?_,fun i j d q a r=>?_⟩
       ·obtain⟨x,_,rfl⟩:=zZ.1 U;rfl
       ·rw[z8]at a;obtain⟨x,hx1,rfl⟩:=VT.1 a;obtain rfl:j=0:=by have:=(ze.1 r).1;simpa using this
        simp only[Kc,qu]at r;subst r;refine⟨.int .u8 x.toNat,?_,fun _=>.v rfl,.c (.v rfl),rfl⟩;unfold Lib.strCells;rw[z8,Nat.mul_one,xm,hx1];rfl
      ·cases I
     ·split at I
      ·rename_i SC;subst SC;obtain⟨A,c,f,rfl,K,f2⟩:=Ke C I hx;have hzc:vz.cells.size=n:=by rw[<-hzl',hzl];simp
       refine⟨(List.range (xs.length*n)).map f,tC hu i1 i2 hsz hby hzc hn (eX hn K f2),by simp,K,fun i j d q a r=>?_⟩;obtain⟨ad',a1,a2,a3⟩:=f2 i j d q a r;have B:j<n:=by rw[<-K d (zI a)];exact(ze.1 r).1
       have E:i<xs.length:=(ze.1 a).1;have F:=v7 (n:=xs.length) E B;exact⟨f (i*n+j),by rw[z8,xR F];rfl,a3⟩
      ·cases I
    split at h
    ·split at h
     ·rename_i hc;obtain⟨c1,c2,c3,c4⟩:=hc;have:=hs.xp;subst this;obtain⟨o,hA,_,K,f2⟩:=N c1 c2;split at h
      ·rename_i hm;injection h with h
       injection h with ey h;injection h with eh en;subst ey;subst eh;subst en;obtain⟨v',w',r1,_,_,_,_,r6⟩:=hA w.heap.size (.slice none 0 0) 0 [] (World.ownsRow_nil w _ e n) (zi _) (by simpa using c3) (by simpa using c4);obtain⟨rfl,rfl⟩:=r6 hm;exact zW (v:=.slice none 0 0) C r1 (.c .nil)
      ·rename_i hm;injection h with h
       injection h with ey h;injection h with eh en;subst ey;subst eh;subst en;obtain⟨v',w',r1,r2,D,r5,rd,_⟩:=hA w.heap.size (.slice none 0 0) 0 [] (World.ownsRow_nil w _ e n) (zi _) (by simpa using c3) (by simpa using c4);simp only[zo,jh]at r2;rcases r2.2 with⟨e1,e2⟩|⟨g,cap,m,rfl,e2,e3,e4,e5,e6,e7⟩
       ·exact(hm e2).elim
       ·have hg:g=w.heap.size:=by rcases r5 with h5|h5<;>simp[Value.ownBlock]at h5;exact h5
        subst hg;have k:=jN.I0 (dr:=dr) (Y1:=Y) C (fun _ _ h=>h) ⟨w.heap.size,m.size,n⟩ e true xs m D.os D.tape D.output D.size rd (fun _=>False) (fun _ h=>h.elim) (fun b J W _=>D.block b J (by simp[Value.ownBlock])) (fun id b J=>Nat.ne_of_lt (C.live id b J).lt)
         (fun hS=>by have:=C.st _ hS;simp at this) (.inr (zi _)) c1 (by simpa[qF]using h1) K (by rw[e6];exact z6 _ e4) e3 rfl (fun i' j d q a r=>by
          obtain⟨T,a1,a3⟩:=f2 i' j d q a r;have B:j<n:=by rw[<-K d (zI a)];exact(ze.1 r).1
          have E:i'<xs.length:=(ze.1 a).1;have F:=v7 (n:=xs.length) E B;refine⟨T,?_,a3⟩;have h7:(m.toList.take (xs.length*n))[i'*n+j]?=some T:=by rw[e7];exact a1
          rw[wG,zl F]at h7;simpa using h7)
        refine⟨_,_,_,_,r1,k,?_⟩;have:=zR.own (w:=w') (S:=S) (G:=qb G Z ⟨w.heap.size,m.size,n⟩) (Z:=Z+1) (id:=Z) (off:=0) (n:=xs.length) (cap:=cap) (by omega) e4 e5 (by simp[e6]) (by simpa using c1);simpa using this
     ·cases h
    ·rename_i id k;split at h
     ·rename_i b J;split at h
      ·rename_i hc;obtain⟨c0,c1,c2,c3,c4,c5,c6⟩:=hc;injection h with h
       injection h with ey h;injection h with eh en;subst ey;subst eh;subst en;have L:=hs.vI;obtain⟨cap,g1,g2,g3,g4,rfl⟩:=hs.ve;have hzc:vz.cells.size=n:=by rw[<-c4,hzl];simp
       have H:=C.live id b J;obtain⟨m,q1,q2,q3⟩:=H.row L;have M:(G id).s=n:=by
        have h5:=H.size L;rw[c1]at h5;have h6:(P.info? e).map (·.size)=some n:=by simpa[qF]using h1
        rw[h6]at h5;injection h5 with h5
        exact h5.symm
       have hg0:(⟨(G id).g,0*(G id).s,none⟩:Addr)=⟨(G id).g,0,none⟩:=by simp
       rw[hg0];have hcz:m.size=cap*n:=by rw[q2,<-g4,M];simp
       have Q:w.ownsRow 0 e n (.slice (some ⟨(G id).g,0,none⟩) k cap) k (m.toList.take (k*n)):=by refine⟨?_,.inr ⟨(G id).g,cap,m,rfl,kj _,by rw[<-c1];exact q1,g2,g3,hcz,rfl⟩⟩;simp only[Eu,Array.length_toList,hcz];exact Nat.min_eq_left (z6 _ g2)
       have hsub:∀id' p,qb Y id none id'=some p->Y id'=some p:=fun id' p h=>yH h
       have UL:∀id' p,qb Y id none id'=some p->(G id').g≠(G id).g:=fun id' p h he=>by
        have W:id'≠id:=by rintro rfl;simp at h
        exact W (C.inj id' id p b (yH h) J he)
       obtain⟨o,hA,_,K,f2⟩:=N c3 c4;obtain⟨v',w',r1,r2,D,r5,rd,_⟩:=hA 0 _ k _ Q (kj _) c5 c6;simp only[Value.ownBlock]at D r5;rcases r2.2 with⟨e1,e2⟩|⟨g,cap',l,rfl,e2,e3,e4,e5,e6,e7⟩
       ·subst e1;simp[Value.ownBlock]at r5
       ·have hg:g=(G id).g\/g=w.heap.size:=by simpa[Value.ownBlock]using r5
        have hgl:=H.lt;have hrow:∀(i' j:Nat) (d:zb) (q:O),(b.es++xs)[i']?=some d->d[j]?=some q->∃u,l[i'*n+j]?=some u/\jP w S G Z true q u:=by
         intro i' j d q a r;have hcl:d.length=n:=by
          rcases wg.1 (zI a)with h|h
          ·rw[<-M];exact H.len L d h
          ·exact K d h
         have B:j<n:=by rw[<-hcl];exact(ze.1 r).1
         have E:i'<k+xs.length:=by have:=(ze.1 a).1;simp at this;omega
         have F:=v7 (n:=k+xs.length) E B;have h7:(l.toList.take ((k+xs.length)*n))[i'*n+j]?=l[i'*n+j]?:=by rw[wG,zl F];simp
         rw[<-h7,e7];have Nw:(m.toList.take (k*n)).length=k*n:=Q.1;by_cases UJ:i'<k
         ·have hlt':=v7 (n:=k) UJ B;rw[yi (by rw[c2]at UJ;exact UJ)]at a;rw[yi (by omega),wG,zl hlt'];obtain⟨T,u1,u2⟩:=q3 i' j d q a r;rw[M]at u1;rw[c0]at u2;exact⟨T,by simpa using u1,u2⟩
         ·rw[qQ (by omega),<-c2]at a;have hge:k*n<=i'*n:=z6 _ (by omega);rw[qQ (by omega),Nw];have SD:i'*n+j-k*n=(i'-k)*n+j:=by rw[Nat.sub_mul];omega
          rw[SD];exact f2 (i'-k) j d q a r
        have k2:=jN.I0 (dr:=dr) (Y1:=qb Y id none) C hsub ⟨g,l.size,n⟩ e true (b.es++xs) l D.os D.tape D.output D.size rd
         (fun p=>p=(G id).g) (fun p hb'=>by subst hb';exact⟨⟨id,b,J,rfl⟩,C.apart id b J,UL⟩)
         (fun p hb' W hbg=>D.block p hb' (by simpa using hbg))
         (fun id' p h=>by
          rcases hg with h'|h'
          ·simp only[h'];exact UL id' p h
          ·simp only[h'];exact Nat.ne_of_lt (C.live id' p (yH h)).lt)
         (by
          rcases hg with h'|h'
          ·simp only[h'];exact C.apart id b J
          ·simp only[h'];intro hS;have:=C.st _ hS;simp at this)
         (by
          rcases hg with h'|h'
          ·simp only[h'];exact .inl ⟨id,b,J,rfl⟩
          ·simp only[h'];exact .inr (zi _))
         c3 (by simpa[qF]using h1)
         (fun d U=>by
          rcases wg.1 U with h|h
          ·simp only[<-M];exact H.len L d h
          ·exact K d h)
         (by rw[qK,<-c2,e6];exact z6 _ e4) e3 rfl hrow
        refine⟨_,_,_,_,r1,k2,?_⟩;have:=zR.own (w:=w') (S:=S) (G:=qb G Z ⟨g,l.size,n⟩) (Z:=Z+1) (id:=Z) (off:=0) (n:=k+xs.length) (cap:=cap') (by omega) e4 e5 (by simp[e6]) (by simpa using c3);simpa using this
      ·cases h
     ·cases h
    ·cases h
   ·cases h
  ·cases h
 ·cases h
end
variable{dr:Prop}
section
variable{P:Program}{w:World}{S:Nat->Prop}{G:Nat->GI}{Y:Hp}{Z:Nat}
theorem jN.allocMap(h:Inv P w S G Y Z)(t:TypeId):jN dr P Y Z S G w (qb Y Z (some ⟨t,0,false,[]⟩)) (Z+1) S (qb G Z ⟨w.heap.size,0,0⟩) (w.alloc (.map #[] 0)):=by
 have j:∀b,b<w.heap.size->(w.alloc (.map #[] 0)).heap[b]?=w.heap[b]?:=fun b a=>Below.heap_alloc w _ b a
 have r:∀b,S b->S b/\(w.alloc (.map #[] 0)).heap[b]?=w.heap[b]?:=fun b a=>⟨a,j b (h.st b a)⟩
 have n:∀id,id<Z->qb G Z ⟨w.heap.size,0,0⟩ id=G id:=fun id hid=>zc _ _ _ _ (by omega)
 have d:∀id,id≠Z->qb Y Z (some (⟨t,0,false,[]⟩:Blk)) id=Y id:=fun id hid=>zc _ _ _ _ hid
 have l:(w.alloc (.map #[] 0)).heap.size=w.heap.size+1:=by show(w.heap.push _).size=_;simp
 have o:∀id b,Y id=some b->(G id).g<w.heap.size:=fun id b a=>(h.live id b a).lt
 refine⟨⟨fun b a=>by rw[l];have:=h.st b a;omega,fun id b a=>?_,fun id b a=>?_,fun id b a=>?_,fun id id' b q a f p=>?_,h.KJ.mono r⟩,by omega,n,fun _ a=>a,fun _ a=>.inl a,fun id b a=>?_,⟨rfl,rfl,rfl,by rw[l];omega,fun _=>zi _,fun k s _=>j k s⟩⟩
 ·by_cases hid:id=Z
  ·omega
  ·rw[d id hid]at a;have:=h.top id b a;omega
 ·by_cases hid:id=Z
  ·subst hid;simp only[q9]at a⊢;injection a with a
   subst a;exact⟨rfl,fun u=>absurd u (by simp),fun _=>⟨⟨#[],0,heap_alloc_new w _,rfl,fun i c e v _=>by simp at v⟩,#[],0,heap_alloc_new w _,by simp[Stamped]⟩⟩
  ·rw[d id hid]at a;have x:=h.top id b a;rw[n id x];exact(h.live id b a).mono r (by omega) n (j _ (o id b a))
 ·by_cases hid:id=Z
  ·subst hid;simp only[q9];intro hs;have:=h.st _ hs;omega
  ·rw[d id hid]at a;rw[n id (h.top id b a)];exact h.apart id b a
 ·by_cases hid:id=Z<;>by_cases m:id'=Z
  ·omega
  ·subst hid;rw[d id' m]at f;rw[n id' (h.top id' q f)]at p;have:=o id' q f;simp at p;omega
  ·subst m;rw[d id hid]at a;rw[n id (h.top id b a)]at p;have:=o id b a;simp at p;omega
  ·rw[d id hid]at a;rw[d id' m]at f;rw[n id (h.top id b a),n id' (h.top id' q f)]at p;exact h.inj id id' b q a f p
 ·by_cases hid:id=Z
  ·subst hid;simp
  ·rw[d id hid]at a;rw[n id (h.top id b a)];exact .inl ⟨id,b,a,rfl⟩
theorem Stamped.push{en:Array MapEntry}{c:Nat}(h:Stamped en c)(v z:Value):Stamped (en.push {key:=v,val:=z,born:=c}) (c+1):=by
 obtain⟨e,f⟩:=h;refine⟨fun x d=>?_,?_⟩
 ·simp only[Array.toList_push,wg,yk]at d;rcases d with d|rfl
  ·exact Nat.lt_succ_of_lt (e x d)
  ·exact Nat.lt_succ_self _
 ·rw[Array.toList_push,JI,List.nodup_append];refine⟨f,by simp,fun a g b i=>?_⟩;obtain⟨x,d,rfl⟩:=zZ.1 g;simp only[zL,xn,yk]at i;have:=e x d;omega
theorem Stamped.modify{en:Array MapEntry}{clock:Nat}(h:Stamped en clock)(i:Nat)(v z:Value):Stamped (en.modify i fun e=>{e with key:=v,val:=z}) clock:=by
 have a:((en.modify i fun e=>{e with key:=v,val:=z}).toList.map (·.born))=en.toList.map (·.born):=by
  apply List.ext_getElem?;intro j;simp only[z8,Array.getElem?_toList,vH];split
  ·cases en[j]?<;>rfl
  ·rfl
 refine⟨fun x b=>?_,by rw[a];exact h.2⟩;have:x.born∈en.toList.map (·.born):=by rw[<-a];exact zZ.2 ⟨x,b,rfl⟩
 obtain⟨y,c,e⟩:=zZ.1 this;have:=h.1 y c;omega
theorem jN.EA(h:Inv P w S G Y Z){id:Nat}{b:Blk}(hid:Y id=some b)(r:(G id).s=0)(en:Array MapEntry)(a:Nat)(es:List zb)(t:Stamped en a)(B:en.size=es.length)
  (n:∀(i:Nat) (c:zb) (e:MapEntry),es[i]?=some c->en[i]?=some e->VY w S c e) :
  jN dr P Y Z S G w (qb Y id (some ⟨b.e,b.s,b.arr,es⟩)) Z S G {w with heap:=w.heap.setIfInBounds (G id).g (.map en a)}:=by
 obtain⟨C,p,o,_⟩:=((h.live id b hid).Fa r).row;have l:=MapKept.heap_set (o':=Obj.map en a) o;have j:∀k,k≠(G id).g->(w.heap.setIfInBounds (G id).g (.map en a))[k]?=w.heap[k]?:=l.2;have u:∀b,S b->S b/\(w.heap.setIfInBounds (G id).g (.map en a))[b]?=w.heap[b]?:=fun k f=>⟨f,j k fun e=>h.apart id b hid (e ▸ f)⟩
 have m:∀k,k≠id->qb Y id (some (⟨b.e,b.s,b.arr,es⟩:Blk)) k=Y k:=fun k f=>zc _ _ _ _ f
 refine⟨⟨fun k f=>by show k<(w.heap.setIfInBounds _ _).size;simpa using h.st k f,fun k c f=>?_,fun k c f=>?_,fun k c f=>?_,fun k q c v f x y=>?_,h.KJ.mono u⟩,zi _,fun _ _=>rfl,fun _ z=>z,fun _ z=>.inl z,fun k c f=>?_,⟨rfl,rfl,rfl,by simp,fun _=>zi _,fun k _ D=>j k fun e=>D ⟨id,b,hid,e.symm⟩⟩⟩
 ·by_cases d:k=id
  ·subst d;exact h.top _ b hid
  ·rw[m k d]at f;exact h.top k c f
 ·by_cases d:k=id
  ·subst d;simp only[q9]at f;injection f with f
   subst f;refine⟨(h.live _ b hid).bs,fun R=>by omega,fun _=>⟨⟨en,a,l.1,B,fun i c e E y=>?_⟩,en,a,l.1,t⟩⟩;obtain⟨q,F,H,I,J,K⟩:=n i c e E y;exact⟨q,F,H,I,J,K.mono u⟩
  ·rw[m k d]at f;exact(h.live k c f).mono u (zi _) (fun _ _=>rfl) (j _ fun e=>d (h.inj k id c b f hid e))
 ·by_cases d:k=id
  ·subst d;exact h.apart _ b hid
  ·rw[m k d]at f;exact h.apart k c f
 ·have A:∀k c,qb Y id (some (⟨b.e,b.s,b.arr,es⟩:Blk)) k=some c->∃v,Y k=some v:=by
   intro k c f;by_cases d:k=id
   ·subst d;exact⟨b,hid⟩
   ·rw[m k d]at f;exact⟨c,f⟩
  obtain⟨L,M⟩:=A k c f;obtain⟨N,Q⟩:=A q v x;exact h.inj k q L N M Q y
 ·by_cases d:k=id
  ·subst d;exact .inl ⟨_,b,hid,rfl⟩
  ·rw[m k d]at f;exact .inl ⟨k,c,f,rfl⟩
theorem gr(a:Inv P w S G Y Z)(t:TypeId):xq dr P w Y Z S G (.mp Z) (qb Y Z (some ⟨t,0,false,[]⟩)) (Z+1) ((Instr.makeMap t none).run P w):=by refine⟨.map (some w.heap.size),w.alloc (.map #[] 0),S,qb G Z ⟨w.heap.size,0,0⟩,by simp[Instr.makeMap],jN.allocMap a t,?_⟩;have:=zR.mp (w:=w.alloc (.map #[] 0)) (S:=S) (G:=qb G Z ⟨w.heap.size,0,0⟩) (Z:=Z+1) (id:=Z) (by omega) (by simp);simpa using this
theorem bE{t:TypeId}{f:Option IntKind}{g:TypeId}(h:KM P t=some (f,g)):∃a d,P.underlying t=some (.map a g)/\P.underlying a=some d/\(∀k,KN f k=true->MapKept.IsKey d k)/\(d=.string\/∃i,d=.int i):=by
 unfold KM at h;split at h
 ·rename_i a l j;split at h
  ·rename_i i b;injection h with h
   injection h with c e;subst c;subst e;exact⟨a,.int i,j,b,fun k b=>by cases k<;>simp_all[KN,MapKept.IsKey],.inr ⟨i,rfl⟩⟩
  ·rename_i b;injection h with h
   injection h with c e;subst c;subst e;exact⟨a,.string,j,b,fun k b=>by cases k<;>simp_all[KN,MapKept.IsKey],.inl rfl⟩
  ·cases h
 ·cases h
theorem XJ{d:TypeDesc}{a b:Value}{r:Bool}(c:d=.string\/∃i,d=.int i)(f:MapKept.IsKey d a)(h:Zt a b=some r):Instr.sameNow d a b=some r:=by
 unfold Zt at h;split at h
 ·rename_i k x g y;rcases c with rfl|⟨i,rfl⟩
  ·simp[MapKept.IsKey]at f
  ·split at h
   ·rename_i e;simpa[Instr.sameNow,e]using h
   ·cases h
 ·rename_i x y;rcases c with rfl|⟨i,rfl⟩
  ·injection h with h;simp only[Instr.sameNow,qu];rw[<-h,vU,MapKept.bytes_beq,yJ];exact⟨fun e=>by rw[e],fun e=>by obtain⟨x⟩:=x;obtain⟨y⟩:=y;congr 1;exact(by rw[tk,tk]at e;exact Ev.1 e)⟩
  ·simp[MapKept.IsKey]at f
 ·cases h
theorem QQ{d:TypeDesc}{k:Value}(b:d=.string\/∃i,d=.int i)(f:MapKept.IsKey d k):∀{es:List zb} {en:List MapEntry} {i:Nat} {r:Option (Nat×O)},es.length=en.length->(∀(j:Nat) (c:zb) (e:MapEntry),es[j]?=some c->en[j]?=some e->VY w S c e)->QO k es i=some r ->
  (r=none/\Instr.findNow d k en i=some none)\/∃j v e,r=some (i+j,v)/\Instr.findNow d k en i=some (some (i+j,e.val))/\en[j]?=some e/\qO w S v e.val/\Zt k e.key=some true/\j<es.length
 |[],[],i,r,_,_,h=>by
  simp only[QO]at h;injection h with h
  exact .inl ⟨h.symm,rfl⟩
 |[],e::en,_,_,a,_,_=>by simp at a
 |c::es,[],_,_,a,_,_=>by simp at a
 |c::es,e::en,i,r,a,m,h=>by
  obtain⟨A,v,rfl,o,_,p⟩:=m 0 c e rfl rfl;simp only[QO]at h;subst o;split at h
  ·rename_i hs;injection h with h
   subst h;refine .inr ⟨0,v,e,rfl,?_,rfl,p,hs,by simp⟩;simp[Instr.findNow,XJ b f hs]
  ·rename_i hs;have n:=XJ b f hs;rcases QQ b f (es:=es) (en:=en) (i:=i+1) (r:=r) (by simpa using a) (fun j c e q s=>m (j+1) c e (by simpa using q) (by simpa using s)) h with⟨g,l⟩|⟨j,t,u,g,l,x,y,z,B⟩
   ·exact .inl ⟨g,by simp[Instr.findNow,n,l]⟩
   ·refine .inr ⟨j+1,t,u,by rw[g];congr 2;omega,?_,by simpa using x,y,z,by simp;omega⟩;simp only[Instr.findNow,n,l];congr 3;omega
  ·cases h
theorem eY{t:TypeId}{z:O}(h:KO P t=some z):∃v,(zeroValue t).run P w=.ok v w/\qO w S z v:=by
 unfold KO at h;cases a:P.info? t with
 |none=>rw[a]at h;cases h
 |some i=>
  rw[a]at h;simp only[zH]at h;cases b:i.zero with
  |none=>rw[b]at h;cases h
  |some v=>rw[b]at h;exact⟨v,xL a b w,XI h⟩
theorem Bc(f:Inv P w S G Y Z){x:O}{u:Value}{es:List zb}(h:lA Y x=some es)(d:zR w S G Z x u) :
  (u=.map none/\es=[])\/∃r en a,u=.map (some r)/\w.heap[r]?=some (.map en a)/\en.size=es.length/\∀(i:Nat) (c:zb) (e:MapEntry),es[i]?=some c->en[i]?=some e->VY w S c e:=by
 unfold lA at h;split at h
 ·rename_i id;obtain⟨n,g,rfl⟩:=d.Ey;split at h
  ·rename_i b j;split at h
   ·injection h with h;subst h;obtain⟨en,a,k,l,m⟩:=((f.live id b j).Fa g).row;exact .inr ⟨_,en,a,rfl,k,l,m⟩
   ·cases h
  ·cases h
 ·injection h with h;obtain⟨rfl,_⟩:=d.wj;exact .inl ⟨rfl,h.symm⟩
 ·cases h
theorem lE(o:Inv P w S G Y Z){t:TypeId}{p q x:O}{u v:Value}{s:Bool}(h:Qc P Y t p q s=some x)(Y':zR w S G Z p u)(hq:zR w S G Z q v):xq dr P w Y Z S G x Y Z ((Instr.lookup t u v s).run P w):=by
 unfold Qc at h;split at h
 ·rename_i kk E es k H I;obtain⟨kt,d,A,g,J,W⟩:=bE H;obtain⟨rfl,_⟩:=hq.wj;split at h
  ·rename_i hc;have f:=J v hc;rcases Bc o I Y' with⟨rfl,rfl⟩|⟨r,en,K,rfl,F,g2,g3⟩
   ·simp only[QO]at h;obtain⟨z,L,m⟩:∃z,KO P E=some z/\(if s=true then O.qS [z,.v (.bool false)]else z)=x:=by
     cases B:KO P E with
     |none=>rw[B]at h;cases h
     |some z=>rw[B]at h;injection h with h;exact⟨z,rfl,h⟩
    obtain⟨C,l,n⟩:=eY (w:=w) (S:=S) L;have D:Instr.findNow d v [] 0=some none:=rfl;cases s with
    |true=>
     simp only[qa]at m;subst m;refine zW (v:=.tuple #[C,.bool false]) o ?_ (.c (.qS rfl fun j M y a b=>?_))
     ·simp[Instr.lookup,zy A,kT g f,vA g D,l,Result.andThen]
     ·match j,a,b with
      | 0,a,b=>simp at a b;subst a;subst b;exact n
      | 1,a,b=>simp at a b;subst a;subst b;exact .v rfl
      |j+2,a,b=>simp at a
    |false=>simp only[zq,qf]at m;subst m;refine zW (v:=C) o ?_ (.c n);simp[Instr.lookup,zy A,kT g f,vA g D,l,Result.andThen]
   ·split at h
    ·rename_i i M N;rcases QQ W f (en:=en.toList) (by simpa using g2.symm) (fun j c e Q R=>g3 j c e Q (by simpa using R)) N with⟨T,_⟩|⟨j,y,e,l,n,e3,e4,e5,e6⟩
     ·cases T
     ·injection l with l;injection l with l U;subst U;injection h with h;cases s with
      |true=>
       simp only[qa]at h;subst h;refine zW (v:=.tuple #[e.val,.bool true]) o ?_ (.c (.qS rfl fun j M y a b=>?_))
       ·simp[Instr.lookup,zy A,QL F,kT g f,vA g n,Result.andThen]
       ·match j,a,b with
        | 0,a,b=>simp at a b;subst a;subst b;exact e4
        | 1,a,b=>simp at a b;subst a;subst b;exact .v rfl
        |j+2,a,b=>simp at a
      |false=>simp only[zq,qf]at h;subst h;refine zW (v:=e.val) o ?_ (.c e4);simp[Instr.lookup,zy A,QL F,kT g f,vA g n,Result.andThen]
    ·rename_i N;obtain⟨z,L,m⟩:∃z,KO P E=some z/\(if s=true then O.qS [z,.v (.bool false)]else z)=x:=by
      cases B:KO P E with
      |none=>rw[B]at h;cases h
      |some z=>rw[B]at h;injection h with h;exact⟨z,rfl,h⟩
     obtain⟨C,l,n⟩:=eY (w:=w) (S:=S) L;rcases QQ W f (en:=en.toList) (by simpa using g2.symm) (fun j c e Q R=>g3 j c e Q (by simpa using R)) N with⟨_,D⟩|⟨j,y,e,T,_⟩
     ·cases s with
      |true=>
       simp only[qa]at m;subst m;refine zW (v:=.tuple #[C,.bool false]) o ?_ (.c (.qS rfl fun j M y a b=>?_))
       ·simp[Instr.lookup,zy A,QL F,kT g f,vA g D,l,Result.andThen]
       ·match j,a,b with
        | 0,a,b=>simp at a b;subst a;subst b;exact n
        | 1,a,b=>simp at a b;subst a;subst b;exact .v rfl
        |j+2,a,b=>simp at a
      |false=>simp only[zq,qf]at m;subst m;refine zW (v:=C) o ?_ (.c n);simp[Instr.lookup,zy A,QL F,kT g f,vA g D,l,Result.andThen]
     ·cases T
    ·cases h
  ·cases h
 ·cases h
theorem oK{a b:Value}(h:Zt a b=some true):b=a:=by
 unfold Zt at h;split at h
 ·rename_i k x c y;split at h
  ·rename_i e;subst e;injection h with h
   rw[yJ]at h;rw[h]
  ·cases h
 ·rename_i x y;injection h with h
  rw[yJ]at h;obtain⟨x⟩:=x;obtain⟨y⟩:=y;congr 2
  (rw[tk,tk]at h;exact Ev.1 h.symm)
 ·cases h
theorem XK(hi:Inv P w S G Y Z){t:TypeId}{p q y:O}{Y':Hp}{u v z:Value}(h:vY P Y t p q y=some Y')(hu:zR w S G Z p u)(hq:zR w S G Z q v)(hy:zR w S G Z y z) :
  ∃w' S' G',(Instr.mapUpdate t u v z).run P w=.ok () w'/\jN dr P Y Z S G w Y' Z S' G' w':=by
 unfold vY at h;split at h
 ·rename_i kk et id k L;obtain⟨kt,d,s,D,M,hd⟩:=bE L;obtain⟨rfl,m⟩:=hq.wj;obtain⟨m1,E,rfl⟩:=hu.Ey;split at h
  ·rename_i hc;have g:=M v hc;split at h
   ·rename_i F Y1 hf;obtain⟨S1,r,hr,_,_⟩:=jy hi hf hy;split at h
    ·rename_i b H;split at h
     ·obtain⟨en,clock,A,I,J⟩:=((r.inv.live id b H).Fa E).row;have B:Stamped en clock:=by
       obtain⟨N,l,q1,q2⟩:=((r.inv.live id b H).Fa E).IZ;rw[A]at q1;obtain⟨rfl,rfl⟩:en=N/\clock=l:=by simpa using q1
       exact q2
      split at h
      ·rename_i i pv n;injection h with h
       subst h;rcases QQ hd g (en:=en.toList) (by simpa using I.symm) (fun j c e Q R=>J j c e Q (by simpa using R)) n with⟨T,_⟩|⟨j,x,e,K,e2,e3,e4,e5,e6⟩
       ·cases T
       ·injection K with K;injection K with K e1';have U:i=j:=by omega
        subst U;have C:en[i]?=some e:=by simpa using e3
        have W:e.key=v:=oK e5;have k2:=jN.EA (dr:=dr) r.inv H E (en.modify i fun e=>{e with key:=v,val:=z}) clock (b.es.set i [.v v,F]) (B.modify i v z) (by simpa using I) (fun i' c e' f a=>by
         rw[vH]at a;by_cases o:i=i'
         ·subst o;rw[zl rfl,C]at a;rw[HD e6]at f;injection f with f
          simp only[zO,qu]at a;subst a;subst f;exact⟨v,F,rfl,rfl,m,hr⟩
         ·rw[zg o]at a;rw[ea o]at f;exact J i' c e' f a)
        refine⟨_,S1,G,?_,r.trans k2⟩;simp[Instr.mapUpdate,zy s,QL A,kT D g,vA D e2,C,W,MapKept.run_keyThatStays g,MapKept.run_setObj_map _ A,Result.andThen]
      ·rename_i n;injection h with h
       subst h;rcases QQ hd g (en:=en.toList) (by simpa using I.symm) (fun j c e Q R=>J j c e Q (by simpa using R)) n with⟨_,hn⟩|⟨j,x,e,T,_⟩
       ·have k2:=jN.EA (dr:=dr) r.inv H E (en.push {key:=v,val:=z,born:=clock}) (clock+1) (b.es++[[.v v,F]]) (B.push v z) (by simp[I]) (fun i' c e' f a=>by
         rw[Array.getElem?_push]at a;split at a
         ·rename_i hil;injection a with a
          subst a;rw[qQ (by omega)]at f;have:i'-b.es.length=0:=by omega
          rw[this]at f;simp at f;exact⟨v,F,f.symm,rfl,m,hr⟩
         ·rename_i hil;have hlt:i'<en.size:=(qd.1 a).1;rw[yi (by omega)]at f;exact J i' c e' f a)
        refine⟨_,S1,G,?_,r.trans k2⟩;simp[Instr.mapUpdate,zy s,QL A,kT D g,vA D hn,MapKept.run_setObj_map _ A,Result.andThen]
       ·cases T
      ·cases h
     ·cases h
    ·cases h
   ·cases h
  ·cases h
 ·cases h
end
variable{dr:Prop}
section
variable{P:Program}{w:World}{S:Nat->Prop}{G:Nat->GI}{Y:Hp}{Z:Nat}
theorem Be(b:Inv P w S G Y Z){t ty:TypeId}{p x:O}{u:Value}(h:Yp P t p=some x)(d:zR w S G Z p u):xq dr P w Y Z S G x Y Z ((Builtin.len_ #[t] ty #[u]).run P w):=by
 have sl:∀{A:Option Addr} {n c:Nat} {e:TypeId},w5 P t=some e->(Builtin.len_ #[t] ty #[.slice A n c]).run P w=.ok (.int .i64 n) w:=fun a=>by simp[Builtin.len_,zy (kn a),goInt]
 unfold Yp at h;split at h
 ·obtain⟨rfl,_⟩:=d.wj;split at h
  ·rename_i f;injection h with h
   subst h;exact zW (v:=_) b (by simp[Builtin.len_,zy f,goInt]) (ky _ rfl)
  ·cases h
 ·cases a:w5 P t with
  |none=>simp[a]at h
  |some e=>simp[a]at h;subst h;obtain⟨rfl,_⟩:=d.wj;exact zW (v:=_) b (sl a) (ky _ rfl)
 ·cases a:w5 P t with
  |none=>simp[a]at h
  |some e=>
   simp[a]at h;subst h;cases d.KG with
   |sl us g i j k l m=>exact zW (v:=_) b (sl a) (ky _ rfl)
 ·cases a:w5 P t with
  |none=>simp[a]at h
  |some e=>simp[a]at h;subst h;have:=d.xp;subst this;exact zW (v:=_) b (sl a) (ky _ rfl)
 ·cases a:w5 P t with
  |none=>simp[a]at h
  |some e=>simp[a]at h;subst h;obtain⟨o,cap,rfl,_⟩:=d.ed;exact zW (v:=_) b (sl a) (ky _ rfl)
 ·cases a:w5 P t with
  |none=>simp[a]at h
  |some e=>simp[a]at h;subst h;obtain⟨cap,_,_,_,_,rfl⟩:=d.ve;exact zW (v:=_) b (sl a) (ky _ rfl)
 ·cases h
theorem XL{k:IntKind}:∀{l:zb} {x:Int} {r:O} {us:List Value},Jg k x l=some r->Zip (zR w S G Z) l us->∃n,r=.v (.int k n)/\(us.foldlM Builtin.min2 (.int k x)).run P w=.ok (.int k n) w
 |[],x,r,us,h,a=>by
  simp only[Jg]at h;injection h with h
  subst h;rw[a.Wb];exact⟨x,rfl,by simp⟩
 |p::l,x,r,us,h,a=>by
  obtain⟨u,c,rfl,d,b⟩:=a.y8;unfold Jg at h;split at h
  ·cases ‹p::l=[]›
  ·rename_i m y l' e;injection e with f g
   subst f;subst g;split at h
   ·rename_i i;subst i;obtain⟨rfl,_⟩:=d.wj;obtain⟨n,rfl,j⟩:=XL h b;exact⟨n,rfl,by simp only[List.foldlM_cons,jY,Builtin.min2,Zd,jm];exact j⟩
   ·cases h
  ·cases h
theorem XM{k:IntKind}:∀{l:zb} {x:Int} {r:O} {us:List Value},Jh k x l=some r->Zip (zR w S G Z) l us->∃n,r=.v (.int k n)/\(us.foldlM Builtin.max2 (.int k x)).run P w=.ok (.int k n) w
 |[],x,r,us,h,a=>by
  simp only[Jh]at h;injection h with h
  subst h;rw[a.Wb];exact⟨x,rfl,by simp⟩
 |p::l,x,r,us,h,a=>by
  obtain⟨u,c,rfl,d,b⟩:=a.y8;unfold Jh at h;split at h
  ·cases ‹p::l=[]›
  ·rename_i m y l' e;injection e with f g
   subst f;subst g;split at h
   ·rename_i i;subst i;obtain⟨rfl,_⟩:=d.wj;obtain⟨n,rfl,j⟩:=XM h b;exact⟨n,rfl,by simp only[List.foldlM_cons,jY,Builtin.max2,Zd,jm];exact j⟩
   ·cases h
  ·cases h
theorem Bf(c:Inv P w S G Y Z){ts:Array TypeId}{ty:TypeId}{xs:zb}{x:O}{us:Array Value}(h:A2 xs=some x)(d:Zip (zR w S G Z) xs us.toList):xq dr P w Y Z S G x Y Z ((Builtin.min_ ts ty us).run P w):=by
 unfold A2 at h;split at h
 ·rename_i k y l;obtain⟨u,e,a,f,b⟩:=d.y8;obtain⟨rfl,_⟩:=f.wj;obtain⟨n,rfl,g⟩:=XL (P:=P) h b;exact zW (v:=_) c (by simp only[Builtin.min_,a];exact g) (ky _ rfl)
 ·cases h
theorem Bg(c:Inv P w S G Y Z){ts:Array TypeId}{ty:TypeId}{xs:zb}{x:O}{us:Array Value}(h:A3 xs=some x)(d:Zip (zR w S G Z) xs us.toList):xq dr P w Y Z S G x Y Z ((Builtin.max_ ts ty us).run P w):=by
 unfold A3 at h;split at h
 ·rename_i k y l;obtain⟨u,e,a,f,b⟩:=d.y8;obtain⟨rfl,_⟩:=f.wj;obtain⟨n,rfl,g⟩:=XM (P:=P) h b;exact zW (v:=_) c (by simp only[Builtin.max_,a];exact g) (ky _ rfl)
 ·cases h
theorem eZ:∀(l:List Value) (k off:Nat) (a:Array Value),off+k+l.length<=a.size ->
  ((l.zipIdx k).foldl (fun(cs:Array Value) (p:Value×Nat)=>cs.setIfInBounds (off+p.2) p.1) a).size=a.size /\
  ∀i:Nat,((l.zipIdx k).foldl (fun(cs:Array Value) (p:Value×Nat)=>cs.setIfInBounds (off+p.2) p.1) a)[i]?=if off+k<=i/\i<off+k+l.length then l[i-(off+k)]? else a[i]?
 |[],k,off,a,h=>by simp;omega
 |x::l,k,off,a,h=>by
  simp only[zd]at h;obtain⟨c,e⟩:=eZ l (k+1) off (a.setIfInBounds (off+k) x) (by simp;omega);simp only[List.zipIdx_cons,List.foldl_cons];refine⟨by rw[c];simp,fun i=>?_⟩;rw[e];by_cases b:off+(k+1)<=i/\i<off+(k+1)+l.length
  ·rw[zl b,zl ⟨by omega,by simp;omega⟩];obtain⟨d,rfl⟩:∃d,i=off+(k+1)+d:=⟨i-(off+(k+1)),by omega⟩;rw[show off+(k+1)+d-(off+(k+1))=d from by omega,show off+(k+1)+d-(off+k)=d+1 from by omega];simp
  ·rw[zg b];by_cases f:i=off+k
   ·subst f;have hs:(a.setIfInBounds (off+k) x)[off+k]?=some x:=by rw[Array.getElem?_setIfInBounds_self_of_lt (by omega)]
    rw[zl ⟨by omega,by simp⟩,hs];simp
   ·rw[zg (by simp;omega),XH (by omega)]
theorem sg{u:Value}{off:Nat}{cells:Array Value}(h:off+u.cells.size<=cells.size) :
  (u.cells.zipIdx.foldl (fun cs (c,j)=>cs.setIfInBounds (off+j) c) cells).size=cells.size /\
  ∀i:Nat,(u.cells.zipIdx.foldl (fun cs (c,j)=>cs.setIfInBounds (off+j) c) cells)[i]?=if off<=i/\i<off+u.cells.size then u.cells[i-off]? else cells[i]?:=by
 have:=eZ u.cells.toList 0 off cells (by simpa using h);simp only[xm,Array.length_toList,Array.getElem?_toList]at this;rw[<-Array.foldl_toList,Array.toList_zipIdx];exact this
theorem bF{a:Nat->Option (Nat×Nat)}:∀{o:List (Nat×O)} {vs:List (Nat×Value)} {cs cs':zb} {cells:Array Value},qn a cs o=some cs' ->
  Zip (fun p v=>p.1=v.1/\zR w S G Z p.2 v.2) o vs->cs.length=cells.size->(∀(j:Nat) (d:O) (u:Value),cs[j]?=some d->cells[j]?=some u->zR w S G Z d u) ->
  ∃b,Instr.fill a cells vs=some b/\cs'.length=b.size/\∀(j:Nat) (d:O) (u:Value),cs'[j]?=some d->b[j]?=some u->zR w S G Z d u
 |[],vs,cs,cs',cells,h,q,r,s=>by
  simp only[qn]at h;injection h with h
  subst h;rw[q.Wb];exact⟨cells,rfl,r,s⟩
 |(i,x)::o,vs,cs,cs',cells,h,q,r,s=>by
  obtain⟨⟨i',u⟩,g,rfl,⟨e,z⟩,t⟩:=q.y8;simp only at e z;subst e;simp only[qn]at h;split at h
  ·rename_i off n Y;split at h
   ·rename_i B;obtain⟨A,C,D⟩:=B;obtain⟨E,F⟩:=V1 z D;have y:u.cells.size=n:=by rw[<-E,A]
    obtain⟨H,I⟩:=sg (u:=u) (off:=off) (cells:=cells) (by omega);have f:Instr.fill a cells ((i,u)::g)=Instr.fill a (u.cells.zipIdx.foldl (fun cs (c,j)=>cs.setIfInBounds (off+j) c) cells) g:=by
     have J:¬(off+n>cells.size):=by omega
     simp[Instr.fill,Y,y];omega
    rw[f];refine bF h t (by rw[Ze,H,r]) (fun j d v k l=>?_);rw[Wh _ _ _ _ (by rw[A];exact C)]at k;rw[I]at l;by_cases m:off<=j/\j<off+u.cells.size
    ·rw[zl m]at l;rw[zl (by omega)]at k;exact(F (j-off) d v k l).1
    ·rw[zg m]at l;rw[zg (by omega)]at k;exact s j d v k l
   ·cases h
  ·cases h
theorem V3{d:Operand->Option O}{a:Operand->Value}(b:∀y e,d y=some e->zR w S G Z e (a y)):∀{l:List (Nat×Operand)} {c:List (Nat×O)},jG d l=some c ->
  Zip (fun(p:Nat×O) (v:Nat×Value)=>p.1=v.1/\zR w S G Z p.2 v.2) c (l.map fun(i,x)=>(i,a x))
 |[],c,h=>by
  simp only[jG]at h;injection h with h
  subst h;exact .nil
 |(i,x)::l,c,h=>by
  simp only[jG]at h;split at h
  ·rename_i p r Y f;injection h with h
   subst h;exact .cons ⟨rfl,b _ _ Y⟩ (V3 b f)
  ·cases h
theorem oL(J:Inv P w S G Y Z){t:TypeId}{k:List (Nat×O)}{vs:Array (Nat×Value)}{x:O}(h:zU P t k=some x)(K:Zip (fun p v=>p.1=v.1/\zR w S G Z p.2 v.2) k vs.toList) :
  xq dr P w Y Z S G x Y Z ((Instr.build t vs).run P w):=by
 unfold zU at h;split at h
 ·rename_i L z g o;obtain⟨i,q,r,s,y⟩:=Wg o;obtain⟨A,B⟩:=jz (w:=w) (S:=S) y;cases b:qn (fun i=>L[i]?) z k with
  |none=>simp[b]at h
  |some cs'=>
   simp[b]at h;subst h;obtain⟨a,C,D,E⟩:=bF b K (cells:=q.cells) (by rw[A];simp) (fun j F u H d=>.c (B j F u H (by simpa using d)).1);have I:P.built t vs.toList=some a:=by
    unfold kV at g;split at g
    ·rename_i M d;unfold Program.built;simp only[r,d,s,g];simpa using C
    ·cases g
   exact zW (v:=_) J (run_build w t vs a I) (.agg D E)
 ·rename_i z g o;split at h
  ·rename_i m e d;split at h
   ·rename_i n l;obtain⟨i,q,r,s,y⟩:=Wg o;obtain⟨A,B⟩:=jz (w:=w) (S:=S) y;cases b:qn (fun i=>some (i*n,n)) z k with
    |none=>simp[b]at h
    |some cs'=>
     simp[b]at h;subst h;obtain⟨a,C,D,E⟩:=bF b K (cells:=q.cells) (by rw[A];simp) (fun j F u H d=>.c (B j F u H (by simpa using d)).1);have I:P.built t vs.toList=some a:=by
      unfold Program.built;unfold qF at l;cases f:P.info? e with
      |none=>simp[f]at l
      |some N=>simp only[f,zO,qu]at l;simp only[r,d,s,f,l];exact C
     exact zW (v:=_) J (run_build w t vs a I) (.agg D E)
   ·cases h
  ·cases h
 ·cases h
theorem Qg:∀{d a:List (Nat×O)} {Y Y1:Hp} {S:Nat->Prop} {vs:List (Nat×Value)} (_:Inv P w S G Y Z),zr Y d=some (a,Y1) ->
  Zip (fun p v=>p.1=v.1/\zR w S G Z p.2 v.2) d vs->∃S',jN dr P Y Z S G w Y1 Z S' G w/\Zip (fun p v=>p.1=v.1/\qO w S' p.2 v.2) a vs
 |[],a,Y,Y1,S,vs,b,h,f=>by
  simp only[zr]at h;injection h with h
  injection h with j k;subst j;subst k;rw[f.Wb];exact⟨S,.refl b,.nil⟩
 |(i,x)::d,a,Y,Y1,S,vs,b,h,f=>by
  obtain⟨⟨i',u⟩,o,rfl,⟨e,l⟩,g⟩:=f.y8;simp only at e l;simp only[zr]at h;split at h
  ·rename_i y j q;split at h
   ·rename_i r k s;injection h with h
    injection h with t z;subst t;subst z;obtain⟨A,c,B,_⟩:=jy (dr:=dr) b q l;have C:=c.same b;obtain⟨D,m,E⟩:=Qg (S:=A) c.inv s (g.imp fun x u n=>⟨n.1,n.2.mono C (zi _) (fun _ _=>rfl)⟩);exact⟨D,c.trans m,.cons ⟨e,B.mono (m.same c.inv)⟩ E⟩
   ·cases h
  ·cases h
theorem oM{y:O}{u:Value}(h:qO w S y u)(a:y.cells.all O.we=true):y.cells.length=u.cells.size/\∀(j:Nat) (d:O) (c:Value),y.cells[j]?=some d->u.cells[j]?=some c->qO w S d c/\c.oneCell'=true:=by
 by_cases e:∃cs,y=.agg cs
 ·obtain⟨cs,rfl⟩:=e;cases h with
  |agg k l=>refine⟨k,fun j d c b f=>?_⟩;have g:=l j d c b f;refine⟨g,g.W5 ?_⟩;simp only[O.cells]at a b;exact qc.1 a d (zI b)
 ·have m:y.cells=[y]:=by cases y<;>first|rfl|exact(e ⟨_,rfl⟩).elim
  rw[m]at a⊢;have n:y.we=true:=by simpa using a
  have i:=h.W5 n;have f:u.cells=#[u]:=by cases u<;>first|rfl|simp[Value.oneCell']at i
  rw[f];refine⟨rfl,fun j d c b a=>?_⟩;cases j with
  |zero=>simp at b a;subst b;subst a;exact⟨h,i⟩
  |succ j=>simp at b
theorem KR{n:Nat}:∀{t:List (Nat×O)} {vs:List (Nat×Value)} {es d:List zb} {cells:Array Value},zP n es t=some d->Zip (fun p v=>p.1=v.1/\qO w S p.2 v.2) t vs ->
  es.length*n=cells.size->(∀c∈es,c.length=n)->(∀(i j:Nat) (c:zb) (f:O),es[i]?=some c->c[j]?=some f->∃u,cells[i*n+j]?=some u/\qO w S f u/\u.oneCell'=true) ->
  ∃a,Instr.fill (fun i=>some (i*n,n)) cells vs=some a/\d.length=es.length/\a.size=cells.size/\(∀c∈d,c.length=n) /\
   ∀(i j:Nat) (c:zb) (f:O),d[i]?=some c->c[j]?=some f->∃u,a[i*n+j]?=some u/\qO w S f u/\u.oneCell'=true
 |[],vs,es,d,cells,h,y,D,r,z=>by
  simp only[zP]at h;injection h with h
  subst h;rw[y.Wb];exact⟨cells,rfl,rfl,rfl,r,z⟩
 |(i,x)::t,vs,es,d,cells,h,y,D,r,z=>by
  obtain⟨⟨i',u⟩,l,rfl,⟨e,E⟩,A⟩:=y.y8;simp only at e E;subst e;simp only[zP]at h;split at h
  ·rename_i B;obtain⟨C,F,I⟩:=B;obtain⟨J,K⟩:=oM E I;have m:u.cells.size=n:=by rw[<-J,C]
   have G:i*n+n<=cells.size:=by have:(i+1)*n<=es.length*n:=z6 _ F;rw[w8]at this;omega
   obtain⟨H,L⟩:=sg (u:=u) (off:=i*n) (cells:=cells) (by omega);have g:Instr.fill (fun i=>some (i*n,n)) cells ((i,u)::l)=Instr.fill (fun i=>some (i*n,n)) (u.cells.zipIdx.foldl (fun cs (c,j)=>cs.setIfInBounds (i*n+j) c) cells) l:=by simp[Instr.fill,m];omega
   rw[g];obtain⟨a,M,N,P,Q,R⟩:=KR h A (cells:=u.cells.zipIdx.foldl (fun cs (c,j)=>cs.setIfInBounds (i*n+j) c) cells) (by rw[H];simpa using D) (fun c B=>by
     rcases rX B with h|h
     ·exact r c h
     ·subst h;exact C) (fun i' j c f b s=>by
     rw[L];by_cases k:i'=i
     ·subst k;rw[HD F]at b;injection b with b
      subst b;have o:j<n:=by rw[<-C];exact(ze.1 s).1
      rw[zl ⟨by omega,by omega⟩,show i'*n+j-i'*n=j from by omega];have q:j<u.cells.size:=by omega
      have T:=K j f u.cells[j] s (by simp[q]);exact⟨u.cells[j],by simp[q],T⟩
     ·rw[ea (fun e=>k e.symm)]at b;have o:j<n:=by rw[<-r c (zI b)];exact(ze.1 s).1
      have:=bw o k 0 n (by omega);rw[zg (by rw[m];simpa using this)];exact z i' j c f b s)
   exact⟨a,M,by rw[N];simp,by rw[P,H],Q,R⟩
  ·cases h
theorem al(H:Inv P w S G Y Z){t:TypeId}{len:Nat}{I:List (Nat×O)}{vs:Array (Nat×Value)}{x:O}{Y':Hp}{Z':Nat}(h:zu P Y Z t len I=some (x,Y',Z'))(R:Zip (fun p v=>p.1=v.1/\zR w S G Z p.2 v.2) I vs.toList) :
  xq dr P w Y Z S G x Y' Z' ((Instr.buildSlice t len vs).run P w):=by
 unfold zu at h;split at h
 ·rename_i e J;split at h
  ·rename_i n z qs Y1 q T U;split at h
   ·rename_i r;obtain⟨s,y,c3⟩:=r;split at h
    ·rename_i es A;injection h with h
     injection h with W h;injection h with eh en;subst W;subst eh;subst en;obtain⟨i,f,i1,i2,i3⟩:=Wg T;obtain⟨z1,z2⟩:=jz (w:=w) (S:=S) i3;have B:f.cells.size=n:=by rw[<-y,z1];simp
     obtain⟨S1,C,q1⟩:=Qg (dr:=dr) H U R;obtain⟨a,K,g2,L,g4,g5⟩:=KR (w:=w) A q1 (cells:=madeCells f.cells (len*n)) (by simp[size_madeCells]) (fun c r=>by rw[(List.mem_replicate.1 r).2];exact y) (fun i' j c D d o=>by
      have g:i'<len:=by have:=(ze.1 d).1;simpa using this
      rw[List.getElem?_replicate,zl g]at d;injection d with d
      subst d;have E:j<n:=by rw[<-y];exact(ze.1 o).1
      have k:j<f.cells.size:=by omega
      rw[lC B g E];have M:=z2 j D f.cells[j] o (by simp[k]);exact⟨f.cells[j],by simp[k],M.1.mono (C.same (dr:=dr) H),M.2.1⟩)
     have F:es.length=len:=by rw[g2];simp
     have k2:=jN.alloc (dr:=dr) C.inv a e true es n s (by simpa[qF]using q) g4 (by rw[L,size_madeCells,F];exact zi _) (fun i' j c D d o=>by obtain⟨u,u1,N,u3⟩:=g5 i' j c D d o;exact⟨u,u1,fun _=>N,.c N,u3⟩)
     have Q:¬(len*n>2 ^ 24):=by simp;omega
     refine⟨.slice (some ⟨w.heap.size,0,none⟩) len len,_,_,_,?_,C.trans k2,?_⟩
     ·by_cases l:len*n=0
      ·have hl0:len=0:=by
        rcases Nat.mul_eq_zero.1 l with h|h
        ·exact h
        ·omega
       have b:Instr.fill (fun i=>some (i*n,n)) ((Array.range (len*n)).map ((#[]:Array Value)[· % (#[]:Array Value).size]!)) vs.toList=some a:=by rw[<-K];congr 1;rw[l];simp[madeCells]
       simp[Instr.buildSlice,zy (kn J),wH q,l,newRow];simp[l]at b;simp[b]
      ·have b:Instr.fill (fun i=>some (i*n,n)) ((Array.range (len*n)).map (f.cells[· % f.cells.size]!)) vs.toList=some a:=K;simp[Instr.buildSlice,zy (kn J),wH q,l,newRow,xL i1 i2,b];omega
     ·have m:len<=maxLen:=by have:len*1<=len*n:=Nat.mul_le_mul_left _ s;simp only[maxLen];omega
      have:=zR.own (w:=w.alloc (.cells a e)) (S:=S1) (G:=qb G Z ⟨w.heap.size,a.size,n⟩) (Z:=Z+1) (id:=Z) (off:=0) (n:=len) (cap:=len) (by omega) (zi _) m (by simp[L,size_madeCells]) (by simpa using s);simpa using this
    ·cases h
   ·cases h
  ·cases h
 ·cases h
end
variable{dr:Prop}
section
variable{P:Program}{w:World}{S:Nat->Prop}{G:Nat->GI}{Y:Hp}{Z:Nat}
theorem tE(R:Inv P w S G Y Z){t t' ty:TypeId}{d x y:O}{Y':Hp}{Z':Nat}{u v:Value}(h:se P Y Z t d x=some (y,Y',Z'))(hd:zR w S G Z d u)(hx:zR w S G Z x v) :
  xq dr P w Y Z S G y Y' Z' ((Builtin.copy_ #[t,t'] ty #[u,v]).run P w):=by
 unfold se at h;split at h
 ·rename_i e id off k he;split at h
  ·rename_i b n hb hn;split at h
   ·rename_i xs hv;split at h
    ·rename_i hc;obtain⟨c1,c2,c3,c4⟩:=hc;injection h with h
     injection h with ey h;injection h with eh en;subst ey;subst eh;subst en;have a:=hd.vI;obtain⟨cap,g1,g2,g3,g4,rfl⟩:=hd.ve;obtain⟨A,c,f,rfl,T,f2⟩:=Ke R hv hx;have l:=R.live id b hb;obtain⟨r,q1,q2,q3⟩:=l.row a;have U:=kn he;have p:(G id).s=n:=by
      have q:=l.size a;rw[c2]at q;have z:(P.info? e).map (·.size)=some n:=by simpa[qF]using hn
      rw[z]at q;injection q with q
      exact q.symm
     have K:Nat.min xs.length k=min xs.length k:=rfl;have W:min xs.length k<=xs.length:=Nat.min_le_left _ _;have hmk:min xs.length k<=k:=Nat.min_le_right _ _;generalize hm:min xs.length k=m at *;have F:=eX c4 T f2;have UM:m*n<=xs.length*n:=z6 _ W;have B:(Builtin.firstCells n m (.slice A xs.length c)).run P w=.ok ((List.range (m*n)).map f).toArray w:=by
      by_cases h0:m=0
      ·subst h0;cases A<;>simp[Builtin.firstCells,loadCells,loadCellsFrom]
      ·obtain⟨ad,rfl,_,_⟩:=F 0 (Nat.mul_pos (by omega) c4);have:=run_loadCells_list (P:=P) w ad ((List.range (m*n)).map f) (fun j u C=>by
        have UK:j<m*n:=by have:=(ze.1 C).1;simpa using this
        obtain⟨ad',e1,e2,_⟩:=F j (by omega);injection e1 with e1;subst e1;rw[z8,xR UK]at C;simp at C;rw[e2,C])
       simpa[Builtin.firstCells]using this
     have D:off*n+m*n<=r.size:=by rw[q2];have q:(off+m)*n<=b.es.length*n:=z6 _ (by omega);have z:=l.fit a;rw[p]at z;rw[w8]at q;omega
     have L:=run_storeCells_at P (G id).g (off*n) b.e ((List.range (m*n)).map f) 0 r w q1 (by simpa using D) (fun u U=>by obtain⟨k,hk,rfl⟩:=zZ.1 U;exact(F k (by have:=vy.1 hk;omega)).choose_spec.2.2)
     simp only[xm]at L;have M:((List.range (m*n)).map f).length=m*n:=by simp
     have N:off*n+((List.range (m*n)).map f).length<=r.toList.length:=by simpa using D
     have k2:=jN.set (dr:=dr) R hb a (r.toList.take (off*n)++(List.range (m*n)).map f++r.toList.drop (off*n+((List.range (m*n)).map f).length)).toArray (b.es.take off++xs.take m++b.es.drop (off+m))
      (by rw[List.size_toArray,xM _ _ _ N];simpa using q2)
      (fun E Q=>by
       rw[qt]at Q;rcases wg.1 Q with h|h
       ·exact l.len a E (W4 _ _ h)
       ·rcases wg.1 h with h|h
        ·rw[p];exact T E (W4 _ _ h)
        ·exact l.len a E (aR _ _ h))
      (by
       have q:=l.fit a;have:(b.es.take off++xs.take m++b.es.drop (off+m)).length=b.es.length:=by simp;omega
       rw[this];exact q)
      (fun i' j E pv o C=>by
       have H:(xs.take m).length=m:=by simp;omega
       rw[show off+m=off+(xs.take m).length from by rw[H],xC _ _ _ _ (by rw[H];omega),H]at o;rw[List.getElem?_toArray,xC _ _ _ _ N,M,p];by_cases I:off<=i'/\i'<off+m
       ·rw[zl I,wG,zl (by omega)]at o;have J:j<n:=by rw[<-T E (zI o)];exact(ze.1 C).1
        have q:off*n<=i'*n:=z6 _ I.1;have z:=v7 (i:=i'-off) (n:=m) (by omega) J;have h7:i'*n+j-off*n=(i'-off)*n+j:=by rw[Nat.sub_mul];omega
        rw[zl ⟨by omega,by rw[Nat.sub_mul]at z;omega⟩,h7,z8,xR z];obtain⟨ad',a1,a2,a3⟩:=f2 (i'-off) j E pv o C;refine⟨f ((i'-off)*n+j),rfl,?_⟩;rw[c1];exact a3
       ·rw[zg I]at o;have J:j<n:=by rw[<-p,<-l.len a E (zI o)];exact(ze.1 C).1
        have:¬(off*n<=i'*n+j/\i'*n+j<off*n+m*n):=by
         by_cases q:i'<off
         ·have z:=v7 (n:=off) q J;omega
         ·have z:off+m<=i':=by omega
          have h7:(off+m)*n<=i'*n:=z6 _ z;rw[w8]at h7;omega
        rw[zg this];obtain⟨u',u1,u2⟩:=q3 i' j E pv o C;rw[p]at u1;exact⟨u',by simpa using u1,u2⟩)
     rw[c1]at k2;refine⟨.int .i64 m,_,_,_,?_,k2,ky _ rfl⟩;simp[Builtin.copy_,zy U,Builtin.lenOf,wH hn,K,B,p,L,goInt]
    ·cases h
   ·cases h
  ·cases h
 ·cases h
theorem Bh{ts:Array TypeId}{us:Array Value}{t:TypeId}{u:Value}(ty:TypeId)(a:ts[0]?=some t)(b:us[0]?=some u):Builtin.clear_ ts ty us=Builtin.clear_ #[t] ty #[u]:=by simp[Builtin.clear_,a,b]
theorem oN(hi:Inv P w S G Y Z){t ty:TypeId}{x y:O}{Y':Hp}{Z':Nat}{v:Value}(h:Yq P Y Z t x=some (y,Y',Z'))(hd:zR w S G Z x v) :
  xq dr P w Y Z S G y Y' Z' ((Builtin.clear_ #[t] ty #[v]).run P w):=by
 unfold Yq at h;split at h
 ·rename_i e id off k he;split at h
  ·rename_i b n z hb hn hz;split at h
   ·rename_i hc;obtain⟨⟨c0,c5⟩,c1,c2,c3,c4⟩:=hc;injection h with h
    injection h with ey h;injection h with eh en;subst ey;subst eh;subst en;have l:=hd.vI;obtain⟨cap,g1,g2,g3,g4,rfl⟩:=hd.ve;have p:=hi.live id b hb;obtain⟨C,q1,q2,q3⟩:=p.row l;have hu:=kn he;have A:(G id).s=n:=by
     have B:=p.size l;rw[c2]at B;have F:(P.info? e).map (·.size)=some n:=by simpa[qF]using hn
     rw[F]at B;injection B with B
     exact B.symm
    obtain⟨i,L,i1,i2,i3⟩:=Wg hz;obtain⟨z1,z2⟩:=jz (w:=w) (S:=S) i3;have N:L.cells.size=n:=by have:=z1;simp at this;omega
    obtain⟨d,f⟩:=yX ((Builtin.zeroCells L.cells k).toList);have D:d.length=k*n:=by rw[<-f];simp[Builtin.zeroCells,N]
    have Q:∀q r,q<k->r<n->d[q*n+r]?=L.cells[r]?:=fun q r hq hr=>by
     have hlt:=v7 (n:=k) hq hr;have hm:(q*n+r) % n=r:=by rw[iW,Nat.add_mul_mod_self_right];exact aT hr
     rw[<-f];simp only[Builtin.zeroCells,N,Array.toList_map,Array.toList_range,z8];rw[xR hlt,zO,hm,HE _ r (by omega),jO (by omega)]
    have R:∀r I u,z[r]?=some I->L.cells[r]?=some u->qO w S I u/\u.oneCell'=true:=fun r I u h1 h2=>by obtain⟨a,b,_⟩:=z2 r I u h1 (by simpa using h2);exact⟨a,b⟩
    have T:∀u∈d,u.oneCell'=true:=fun u hu=>by
     obtain⟨m,hm⟩:=List.getElem?_of_mem hu;have hml:m<k*n:=by rw[<-D];exact(ze.1 hm).1
     have e1:m/n*n+m % n=m:=by rw[VU];exact Nat.div_add_mod m n
     have hmr:m % n<n:=Nat.mod_lt _ c0;have M:=Q (m/n) (m % n) (Nat.div_lt_of_lt_mul (by rw[VU];exact hml)) hmr;rw[e1,hm]at M;exact(R (m % n) (z[m % n]'(by omega)) u (zm (by omega)) M.symm).2
    have H:off*n+k*n<=C.size:=by rw[q2];have B:(off+k)*n<=b.es.length*n:=z6 _ c3;have F:=p.fit l;rw[A]at F;rw[w8]at B;omega
    have U:=run_storeCells_at P (G id).g (off*n) b.e d 0 C w q1 (by rw[D];simpa using H) T;simp only[xm]at U;have W:off*n+d.length<=C.toList.length:=by rw[D];simpa using H
    have k2:=jN.set (dr:=dr) hi hb l (C.toList.take (off*n)++d++C.toList.drop (off*n+d.length)).toArray (b.es.take off++List.replicate k z++b.es.drop (off+k))
     (by rw[List.size_toArray,xM _ _ _ W];simpa using q2)
     (fun c' hc'=>by
      rw[qt]at hc';rcases wg.1 hc' with h|h
      ·exact p.len l c' (W4 _ _ h)
      ·rcases wg.1 h with h|h
       ·rw[A,List.eq_of_mem_replicate h];exact c5
       ·exact p.len l c' (aR _ _ h))
     (by
      have B:=p.fit l;have:(b.es.take off++List.replicate k z++b.es.drop (off+k)).length=b.es.length:=by simp;omega
      rw[this];exact B)
     (fun i' j c' I o hj=>by
      have J:(List.replicate k z).length=k:=by simp
      rw[show off+k=off+(List.replicate k z).length from by rw[J],xC _ _ _ _ (by rw[J];omega),J]at o;rw[List.getElem?_toArray,xC _ _ _ _ W,D,A];by_cases K:off<=i'/\i'<off+k
      ·rw[zl K,List.getElem?_replicate,zl (by omega)]at o;injection o with o
       subst o;have E:j<n:=by rw[<-c5];exact(ze.1 hj).1
       have B:off*n<=i'*n:=z6 _ K.1;have F:=v7 (i:=i'-off) (n:=k) (by omega) E;have M:i'*n+j-off*n=(i'-off)*n+j:=by rw[Nat.sub_mul];omega
       rw[zl ⟨by omega,by rw[Nat.sub_mul]at F;omega⟩,M,Q _ _ (by omega) E];have h8:L.cells[j]?=some (L.cells[j]'(by omega)):=jO (by omega);obtain⟨r1,r2⟩:=R j I _ hj h8;exact⟨_,h8,fun _=>r1,.c r1,r2⟩
      ·rw[zg K]at o;have E:j<n:=by rw[<-A,<-p.len l c' (zI o)];exact(ze.1 hj).1
       have:¬(off*n<=i'*n+j/\i'*n+j<off*n+k*n):=by
        by_cases B:i'<off
        ·have F:=v7 (n:=off) B E;omega
        ·have F:off+k<=i':=by omega
         have M:(off+k)*n<=i'*n:=z6 _ F;rw[w8]at M;omega
       rw[zg this];obtain⟨u',u1,u2⟩:=q3 i' j c' I o hj;rw[A]at u1;exact⟨u',by simpa using u1,u2⟩)
    rw[c1]at k2;refine⟨.tuple #[],_,_,_,?_,k2,.c (.qS rfl (by simp))⟩;obtain⟨k',rfl⟩:∃k',k=k'+1:=⟨k-1,by omega⟩;simp[Builtin.clear_,zy hu,xL i1 i2,f,A,U]
   ·cases h
  ·cases h
 ·cases h
theorem xV{c:Operand->Option O}{a:Operand->Value}(b:∀y f,c y=some f->zR w S G Z f (a y)):∀{l:List Operand} {xs:zb},wz (l.map c)=some xs->Zip (zR w S G Z) xs (l.map a)
 |[],xs,h=>by
  simp only[xn,wz]at h;injection h with h
  subst h;exact .nil
 |x::l,xs,h=>by
  simp only[zL]at h;cases d:c x with
  |none=>rw[d]at h;simp[wz]at h
  |some p=>
   rw[d]at h;simp only[wz]at h;cases e:wz (l.map c)with
   |none=>rw[e]at h;simp at h
   |some r=>rw[e]at h;simp at h;subst h;exact .cons (b _ _ d) (xV b e)
def yU(dr:Prop)(P:Program)(g:FuncId)(a:AM.Spec):Prop:=
 (∃fn,P.funcs[g]?=some fn/\(fn.name== "runtime.NumGoroutine")=false/\fn.body.isNone=false) /\
 ∀(args:zb) (Y:Hp) (Z:Nat) (r:O) (Y':Hp) (Z':Nat),a args Y Z=some (r,Y',Z')->∀(w:World) (S:Nat->Prop) (G:Nat->GI) (vs:List Value),Inv P w S G Y Z->Zip (zR w S G Z) args vs ->
  Calls P g vs.toArray w fun e b=>∃v S' G',e=.returned v/\jN dr P Y Z S G w Y' Z' S' G' b/\zR b S' G' Z' r v
abbrev zh:=yU True
def HZ(dr:Prop)(P:Program)(w:World)(Y:Hp)(Z:Nat)(S:Nat->Prop)(G:Nat->GI)(x:O)(Y':Hp)(Z':Nat)(r:Result Next):Prop:=
 (∃v a S' G',(r=.ok (.value v) a\/(r=.ok .skip a/\v=undef))/\jN dr P Y Z S G w Y' Z' S' G' a/\zR a S' G' Z' x v) \/
 ∃g vs,r=.ok (.enter g vs) w/\Calls P g vs w fun e a=>∃v S' G',e=.returned v/\jN dr P Y Z S G w Y' Z' S' G' a/\zR a S' G' Z' x v
theorem xq.op{x:O}{Y':Hp}{Z':Nat}{s:Sem Value}(h:xq dr P w Y Z S G x Y' Z' (s.run P w)):HZ dr P w Y Z S G x Y' Z' ((do pure (.value (<-s)):Sem Next).run P w):=by obtain⟨v,a,S',G',b,c,d⟩:=h;exact .inl ⟨v,a,S',G',.inl (by simp[b]),c,d⟩
theorem La{ts:Array TypeId}{us:Array Value}{t:TypeId}{u:Value}(ty:TypeId)(a:ts[0]?=some t)(b:us[0]?=some u):Builtin.len_ ts ty us=Builtin.len_ #[t] ty #[u]:=by simp[Builtin.len_,a,b]
theorem tF{ts:Array TypeId}{us:Array Value}{t t':TypeId}{u v:Value}(ty:TypeId)(a:ts[0]?=some t)(b:ts[1]?=some t')(c:us[0]?=some u)(d:us[1]?=some v):Builtin.append_ ts ty us=Builtin.append_ #[t,t'] ty #[u,v]:=by simp[Builtin.append_,a,b,c,d]
theorem Ff{ts:Array TypeId}{us:Array Value}{t:TypeId}{u v:Value}(ty:TypeId)(a:ts[0]?=some t)(b:us[0]?=some u)(c:us[1]?=some v):Builtin.copy_ ts ty us=Builtin.copy_ #[t,t] ty #[u,v]:=by simp[Builtin.copy_,a,b,c]
theorem Wl{α a:Type}{R:α->a->Prop}{x:α}{us:List a}(h:Zip R [x] us):∃u,us=[u]/\R x u:=by obtain⟨u,b,rfl,c,d⟩:=h.y8;rw[d.Wb];exact⟨u,rfl,c⟩
theorem si{α a:Type}{R:α->a->Prop}{x y:α}{us:List a}(h:Zip R [x,y] us):∃u v,us=[u,v]/\R x u/\R y v:=by obtain⟨u,b,rfl,c,d⟩:=h.y8;obtain⟨v,rfl,e⟩:=Wl d;exact⟨u,v,rfl,c,e⟩
theorem Zip.append{α c:Type}{R:α->c->Prop}{xs ys:List α}{us vs:List c}(h:Zip R xs us)(k:Zip R ys vs):Zip R (xs++ys) (us++vs):=by
 refine⟨by simp[h.1,k.1],fun j x u a b=>?_⟩;by_cases d:j<xs.length
 ·rw[yi d]at a;rw[yi (by rw[<-h.1];exact d)]at b;exact h.2 j x u a b
 ·rw[qQ (by omega)]at a;rw[qQ (by rw[<-h.1];omega),<-h.1]at b;exact k.2 _ x u a b
theorem zD{α a:Type}{o:Option α}{f:α->a}{y:a}(h:o.map f=some y):∃x,o=some x/\f x=y:=by
 cases o with
 |none=>simp at h
 |some x=>exact⟨x,rfl,by simpa using h⟩
end
theorem KS{C:Ctx}{w:World}{S:Nat->Prop}{G:Nat->GI}{Y:Hp}{Z:Nat}(hΓ:∀g N,C.Γ g=some N->yU dr C.P g N)(H:Inv C.P w S G Y Z)
  {ρ:Operand->Option O} {a:Operand->Value} (d:∀y pv,ρ y=some pv->zR w S G Z pv (a y)) {o:Oper} {x:O} {Y':Hp} {Z':Nat} (h:zF C ρ Y Z o.op=some (x,Y',Z')) :
  HZ dr C.P w Y Z S G x Y' Z' ((execOp a o).run C.P w):=by
 have A:∀{f:O} {y:O},(f,Y,Z)=(y,Y',Z')->f=y/\Y=Y'/\Z=Z':=by
  intro f y h;injection h with M h
  injection h with R T;exact⟨M,R,T⟩
 unfold zF at h;unfold execOp;split at h
 ·rename_i y B;obtain⟨p,D,F⟩:=zD h;obtain⟨rfl,rfl,rfl⟩:=A F;simp only[B];exact .inl ⟨a y,w,S,G,.inl rfl,.refl H,d _ _ D⟩
 ·rename_i y B;obtain⟨p,D,F⟩:=zD h;obtain⟨rfl,rfl,rfl⟩:=A F;simp only[B];exact .inl ⟨a y,w,S,G,.inl rfl,.refl H,d _ _ D⟩
 ·rename_i c y z B;simp only[B];split at h
  ·rename_i hc;obtain⟨p,D,F⟩:=zD h;obtain⟨rfl,rfl,rfl⟩:=A F;obtain⟨e,_⟩:=(d _ _ hc).wj;exact .inl ⟨a y,w,S,G,.inl (by simp[e,asBool]),.refl H,d _ _ D⟩
  ·rename_i hc;obtain⟨p,D,F⟩:=zD h;obtain⟨rfl,rfl,rfl⟩:=A F;obtain⟨e,_⟩:=(d _ _ hc).wj;exact .inl ⟨a z,w,S,G,.inl (by simp[e,asBool]),.refl H,d _ _ D⟩
  ·cases h
 ·rename_i t B;simp only[B];split at h
  ·rename_i n z D F;split at h
   ·rename_i hl;injection h with h
    injection h with M h;injection h with R T;subst M;subst R;subst T;exact(oE H D F hl.1 hl.2).op
   ·cases h
  ·cases h
 ·rename_i t y B;simp only[B];split at h
  ·rename_i n p D F;split at h
   ·rename_i hc;injection h with h
    injection h with M h;injection h with R T;subst M;subst R;subst T;exact(A5 H D (d _ _ F) hc.1 hc.2.1 hc.2.2).op
   ·cases h
  ·cases h
 ·rename_i t parts B;simp only[B];split at h
  ·rename_i ps hps;obtain⟨p,D,F⟩:=zD h;obtain⟨rfl,rfl,rfl⟩:=A F;exact(oL H D (by simpa using V3 d hps)).op
  ·cases h
 ·rename_i t len parts B;simp only[B];split at h
  ·rename_i ps hps;exact(al H h (by simpa using V3 d hps)).op
  ·cases h
 ·rename_i t y B;simp only[B];split at h
  ·rename_i p Y1;obtain⟨q,D,F⟩:=zD h;obtain⟨rfl,rfl,rfl⟩:=A F;exact(eS H D (d _ _ Y1)).op
  ·cases h
 ·rename_i t y z B;simp only[B];split at h
  ·rename_i p q D F;obtain⟨Y1,J,I⟩:=zD h;injection I with M I
   injection I with R T;subst M;subst R;subst T;obtain⟨w',S',G',r1,r2⟩:=bz H J (d _ _ D) (d _ _ F);exact .inl ⟨undef,w',S',G',.inr ⟨by simp[r1],rfl⟩,r2,jn⟩
  ·cases h
 ·rename_i y B;simp only[B];split at h
  ·rename_i id i j hy;injection h with h
   obtain⟨rfl,rfl,rfl⟩:=A h;have hr:=d _ _ hy;obtain⟨D,F⟩:=hr.jQ;exact .inl ⟨a y,w,S,G,.inl (by rw[F];rfl),.refl H,hr⟩
  ·rename_i cs hy;injection h with h
   obtain⟨rfl,rfl,rfl⟩:=A h;have hr:=d _ _ hy;have SE:=hr;have hc:=hr.W6;generalize hay:a y=u at *;cases hc with
   |ptr us D F=>exact .inl ⟨_,w,S,G,.inl rfl,.refl H,SE⟩
  ·cases h
 ·rename_i op t y z t2 B;simp only[B];split at h
  ·rename_i p q D F;obtain⟨r,J,I⟩:=zD h;obtain⟨rfl,rfl,rfl⟩:=A I;exact(tz H y z J (d _ _ D) (d _ _ F)).op
  ·cases h
 ·rename_i op t y B;simp only[B];split at h
  ·rename_i p D;obtain⟨r,J,I⟩:=zD h;obtain⟨rfl,rfl,rfl⟩:=A I;exact(tA H J (d _ _ D)).op
  ·cases h
 ·rename_i src dst y B;simp only[B];split at h
  ·rename_i p D;obtain⟨r,J,I⟩:=zD h;obtain⟨rfl,rfl,rfl⟩:=A I;exact(tB H J (d _ _ D)).op
  ·cases h
 ·rename_i f first K B
  simp only[B];split at h
  ·rename_i xs ys D F;injection h with h
   obtain⟨rfl,rfl,rfl⟩:=A h;exact(ei H (by simpa using xV d D) (by simpa using xV d F)).op
  ·cases h
 ·rename_i t l c B;simp only[B];split at h
  ·rename_i p q D F;exact(bD H h (d _ _ D) (d _ _ F)).op
  ·cases h
 ·rename_i t y lo hh B;simp only[B];split at h
  ·rename_i p D;obtain⟨r,J,I⟩:=zD h;obtain⟨rfl,rfl,rfl⟩:=A I;have L:∀o:Option Operand,o.map ρ=none->o.map a=none:=fun o h=>by cases o<;>simp_all
   have hs:∀(o:Option Operand) (p:O),o.map ρ=some (some p)->∃u,o.map a=some u/\zR w S G Z p u:=fun o p h=>by
    cases o with
    |none=>simp at h
    |some y=>exact⟨a y,rfl,d _ _ (by simpa using h)⟩
   exact(oI H J (d _ _ D) (L lo) (hs lo) (L hh) (hs hh)).op
  ·cases h
 ·rename_i t y f B;simp only[B];split at h
  ·rename_i p D;obtain⟨r,J,I⟩:=zD h;obtain⟨rfl,rfl,rfl⟩:=A I;exact(bA H J (d _ _ D)).op
  ·cases h
 ·rename_i t y f B;simp only[B];split at h
  ·rename_i p D;obtain⟨r,J,I⟩:=zD h;obtain⟨rfl,rfl,rfl⟩:=A I;exact(oF H J (d _ _ D)).op
  ·cases h
 ·rename_i t y z B;simp only[B];split at h
  ·rename_i p q D F;obtain⟨r,J,I⟩:=zD h;obtain⟨rfl,rfl,rfl⟩:=A I;exact(bB H J (d _ _ D) (d _ _ F)).op
  ·cases h
 ·rename_i t y z B;simp only[B];split at h
  ·rename_i p q D F;obtain⟨r,J,I⟩:=zD h;obtain⟨rfl,rfl,rfl⟩:=A I;exact(oG H J (d _ _ D) (d _ _ F)).op
  ·cases h
 ·rename_i y i B;simp only[B];split at h
  ·rename_i vs D;obtain⟨r,J,I⟩:=zD h;obtain⟨rfl,rfl,rfl⟩:=A I;exact(gn H J (d _ _ D)).op
  ·cases h
 ·rename_i c B;simp only[B];obtain⟨callee,⟨E⟩,Q⟩:=c;unfold kH at h;simp only at h;split at h
  ·rename_i xs U;have hz:=xV d U;split at h
   ·rename_i b;unfold wF at h;split at h
    ·split at h
     ·rename_i y t ht;obtain⟨u,SF,hu2⟩:=Wl hz;obtain⟨r,J,I⟩:=zD h;obtain⟨rfl,rfl,rfl⟩:=A I;have L:=(Be (dr:=dr) (ty:=o.type) H J hu2).op;rw[<-La (us:=(E.map a).toArray) o.type ht (by simp[SF])]at L;simpa[resolve,invoke,builtin,-bind_pure_comp]using L
     ·cases h
    ·obtain⟨r,J,I⟩:=zD h;obtain⟨rfl,rfl,rfl⟩:=A I;have L:=(Bf (dr:=dr) (us:=(E.map a).toArray) (ts:=Q) (ty:=o.type) H J (by simpa using hz)).op;simpa[resolve,invoke,builtin,-bind_pure_comp]using L
    ·obtain⟨r,J,I⟩:=zD h;obtain⟨rfl,rfl,rfl⟩:=A I;have L:=(Bg (dr:=dr) (us:=(E.map a).toArray) (ts:=Q) (ty:=o.type) H J (by simpa using hz)).op;simpa[resolve,invoke,builtin,-bind_pure_comp]using L
    ·split at h
     ·rename_i s y t t' ht UN;obtain⟨u,v,W,hu,hv⟩:=si hz;have L:=(lD (dr:=dr) (ty:=o.type) H h hu hv).op;rw[<-tF (us:=(E.map a).toArray) o.type ht UN (by simp[W]) (by simp[W])]at L;simpa[resolve,invoke,builtin,-bind_pure_comp]using L
     ·cases h
    ·split at h
     ·rename_i s y t ht;obtain⟨u,v,W,hu,hv⟩:=si hz;have L:=(tE (dr:=dr) (t':=t) (ty:=o.type) H h hu hv).op;rw[<-Ff (us:=(E.map a).toArray) o.type ht (by simp[W]) (by simp[W])]at L;simpa[resolve,invoke,builtin,-bind_pure_comp]using L
     ·cases h
    ·split at h
     ·rename_i y t ht;obtain⟨u,SF,hu2⟩:=Wl hz;have L:=(oN (dr:=dr) (ty:=o.type) H h hu2).op;rw[<-Bh (us:=(E.map a).toArray) o.type ht (by simp[SF])]at L;simpa[resolve,invoke,builtin,-bind_pure_comp]using L
     ·cases h
    ·cases h
   ·rename_i f;unfold yF at h;split at h
    ·rename_i g first K hf
     split at h
     ·rename_i N hg;obtain⟨⟨fn,f1,f2,f3⟩,Nx⟩:=hΓ g N hg;obtain⟨us,ts,M,l1,l2,r1,r2⟩:=(d _ _ hf).iY;have hz:Zip (zR w S G Z) (first++xs++K) (us.toList++E.map a++ts.toList):=
       (Zip.append ⟨by simpa using l1,fun j pv x p q=>r1 j pv x p (by simpa using q)⟩ (xV d U)).append ⟨by simpa using l2,fun j pv x p q=>r2 j pv x p (by simpa using q)⟩
      refine .inr ⟨g,(us.toList++E.map a++ts.toList).toArray,?_,Nx _ _ _ _ _ _ h w S G _ H hz⟩;have f2':¬fn.name= "runtime.NumGoroutine":=by simpa using f2
      have f3':¬fn.body=none:=by intro h;simp[h]at f3
      have e5:(us.toList++E.map a++ts.toList).toArray=us++(E.map a).toArray++ts:=by apply Array.ext';simp
      rw[e5];simp[resolve,M,Deferred.ofValue,invoke,callFunc,f1,f2',f3']
     ·cases h
    ·cases h
   ·cases h
  ·cases h
 ·rename_i t B;simp only[B];split at h
  ·rename_i kt hk;injection h with h
   injection h with M h;injection h with R T;subst M;subst R;subst T;exact(gr H t).op
  ·cases h
 ·rename_i t y z ok B;simp only[B];split at h
  ·rename_i p q D F;obtain⟨r,J,I⟩:=zD h;obtain⟨rfl,rfl,rfl⟩:=A I;exact(lE H J (d _ _ D) (d _ _ F)).op
  ·cases h
 ·rename_i t m k y B;simp only[B];split at h
  ·rename_i p q r D F J;obtain⟨Y1,I,h5⟩:=zD h;injection h5 with M h5
   injection h5 with R T;subst M;subst R;subst T;obtain⟨w',S',G',r1,r2⟩:=XK H I (d _ _ D) (d _ _ F) (d _ _ J);exact .inl ⟨undef,w',S',G',.inr ⟨by simp[r1],rfl⟩,r2,jn⟩
  ·cases h
 ·rename_i t m k y B;simp only[B];split at h
  ·rename_i p q r D F J;obtain⟨Y1,I,h5⟩:=zD h;injection h5 with M h5
   injection h5 with R T;subst M;subst R;subst T;obtain⟨w',S',G',r1,r2⟩:=XK H I (d _ _ D) (d _ _ F) (d _ _ J);exact .inl ⟨undef,w',S',G',.inr ⟨by simp[r1],rfl⟩,r2,jn⟩
  ·cases h
 ·cases h
end Go.AM
