/- Lemmas. -/
import Derived.Maps.AppendAt
import Derived.Lib.AppendStr
import Derived.MapKept
import Derived.Test.YtgkaeihkflnckaaGreatDoorG1
set_option maxRecDepth 8000
open Go Proofs Proofs.YtgkaeihkflnckaaGreatDoor Proofs.Tryz RowKit AM SpanLaw Q Zz
namespace Go.AM
variable{dr:Prop}
section
variable{P:Program}{w:World}{S:Nat->Prop}{G:Nat->GI}{Y:Hp}{Z:Nat}
theorem eo{o:Option (Option O)}{v:Option Value}{a n y:Nat}(code:BoundsCode)(h:kJ a o=some n)(d:n<=y)(hd:o=none->v=none)(hs:∀p,o=some (some p)->∃u,v=some u/\qf w S G Z p u)(e:o≠some none) :
  (v=none/\n=a)\/∃k i,v=some (.int k i)/\(Instr.sliceBound (.int k i) y code).run P w=.ok n w:=by
 unfold kJ at h;split at h
 ·injection h with h;exact .inl ⟨hd rfl,h.symm⟩
 ·rename_i k i;split at h
  ·rename_i b;injection h with h
   subst h;obtain⟨u,rfl,c⟩:=hs _ rfl;obtain⟨rfl,_⟩:=c.w8;refine .inr ⟨k,i,rfl,?_⟩;have:i<=y:=by omega
   simp[Instr.sliceBound,asIntOf,b,this]
  ·cases h
 ·cases h
theorem YC{isS:Bool}{len cap l h:Nat}{lo hi:Option (Option O)}{vl vh:Option Value}(c:kJ 0 lo=some l)(g:kJ len hi=some h)(a:l<=h)(b:h<=cap)
  (d:lo=none->vl=none) (e:∀p,lo=some (some p)->∃u,vl=some u/\qf w S G Z p u) (n1:lo≠some none)
  (j:hi=none->vh=none) (m:∀p,hi=some (some p)->∃u,vh=some u/\qf w S G Z p u) (n:hi≠some none) :
  (Instr.sliceBounds isS len cap vl vh none).run P w=.ok (l,h,cap) w:=by
 rcases eo (P:=P) (if isS then .sliceAcap else .sliceAlen) g b j m n with⟨rfl,rfl⟩|⟨k,i,rfl,q⟩
 ·rcases eo (P:=P) .sliceB c a d e n1 with⟨rfl,rfl⟩|⟨o,i',rfl,f⟩
  ·simp[Instr.sliceBounds]
  ·simp[Instr.sliceBounds,f]
 ·rcases eo (P:=P) .sliceB c a d e n1 with⟨rfl,rfl⟩|⟨o,i',rfl,f⟩
  ·cases isS<;>simp_all[Instr.sliceBounds]
  ·cases isS<;>simp_all[Instr.sliceBounds]
theorem EV(hi:Inv P w S G Y Z){t:TypeId}{p x:O}{lo T:Option (Option O)}{vl vh:Option Value}{u:Value}(h:jy P Y t p lo T=some x)(D:qf w S G Z p u)
  (L:lo=none->vl=none) (M:∀p,lo=some (some p)->∃u,vl=some u/\qf w S G Z p u)
  (N:T=none->vh=none) (Q:∀p,T=some (some p)->∃u,vh=some u/\qf w S G Z p u):QG dr P w Y Z S G x Y Z ((Instr.sliceAt t u vl vh none).run P w):=by
 have B:∀{d n:Nat} {o:Option (Option O)},kJ d o=some n->o≠some none:=by rintro d n o h rfl;simp[kJ]at h
 unfold jy at h;split at h
 ·rename_i s y;obtain⟨rfl,_⟩:=D.w8;split at h
  ·rename_i l k q r;split at h
   ·rename_i f;injection h with h
    subst h;have z:=YC (P:=P) (isS:=false) (cap:=s.size) q r f.1 f.2 L M (B q) N Q (B r);exact qt (v:=.string (s.extract l k)) hi (by simp[Instr.sliceAt,zA y,Instr.slice,z]) (xw _ rfl)
   ·cases h
  ·cases h
 ·rename_i e s es y;split at h
  ·rename_i n l k a q r;split at h
   ·rename_i f;obtain⟨rfl,f⟩:=f;injection h with h
    subst h;cases D.ch with
    |sl us h0 h1 h2 h3 h4 h5=>
     rename_i A cap;have z:=YC (P:=P) (isS:=true) (cap:=cap) q r f.1 (by omega) L M (B q) N Q (B r);have E:((es.drop l).take (k-l)).length=k-l:=by simp;omega
     have C:∀(i:Nat) (c:zb),((es.drop l).take (k-l))[i]?=some c->i<k-l/\es[l+i]?=some c:=by
      intro i c hi;rw[qu]at hi;split at hi
      ·rw[qN]at hi;exact⟨by assumption,hi⟩
      ·cases hi
     have F:wJ w S (.sl s ((es.drop l).take (k-l))) (.slice (if cap=l then A else A.map (·.add (l*s))) ((es.drop l).take (k-l)).length (cap-l)):=by
      refine .sl (fun i j=>us (l+i) j) (fun W=>by have:A=none:=(by split at W<;>simp_all);have:=h0 this;omega) (by omega) (by omega) (fun c f=>h3 c (WK _ _ (K6 _ _ f))) (fun i j c X hi hj=>?_) (fun i j c X hi hj=>h5 _ j c X (C i c hi).2 hj);obtain⟨Sn,hi'⟩:=C i c hi;obtain⟨ad,rfl,R,g2,g3⟩:=h4 (l+i) j c X hi' hj;rw[zc (by omega)];refine⟨ad.add (l*s),rfl,by rw[QT];exact R,?_,g3⟩;rw[ck];have:l*s+(i*s+j)=(l+i)*s+j:=by rw[qI];omega
      rw[this];exact g2
     rw[E]at F;exact qt (v:=_) hi (by simp[Instr.sliceAt,zA y,Instr.slice,z,yc a]) (.c F)
   ·cases h
  ·cases h
 ·rename_i e y;have:=D.Zj;subst this;split at h
  ·rename_i n l k a q r;split at h
   ·rename_i f;obtain⟨rfl,rfl⟩:=f;injection h with h
    subst h;have z:=YC (P:=P) (isS:=true) (len:=0) (cap:=0) q r (zf _) (zf _) L M (B q) N Q (B r);exact qt (v:=.slice none 0 0) hi (by simp[Instr.sliceAt,zA y,Instr.slice,z,yc a]) (.c .nil)
   ·cases h
  ·cases h
 ·rename_i e id off n y;have H:=D.xh;obtain⟨cap,R,g2,g3,g4,rfl⟩:=D.vK;split at h
  ·rename_i m l k a q r;split at h;rename_i b hbl;split at h
   ·rename_i f;obtain⟨hbm,f⟩:=f;injection h with h
    have z:=YC (P:=P) (isS:=true) (cap:=cap) q r f.1 (by omega) L M (B q) N Q (B r);by_cases I:l=0
    ·subst I;simp only[qH]at h;subst h;refine qt (v:=.slice (some ⟨(G id).g,off*(G id).s,none⟩) k cap) hi ?_ (.own R (by omega) g3 g4 H);by_cases J:cap=0
     ·subst J;simp[Instr.sliceAt,zA y,Instr.slice,z,yc a]
     ·simp[Instr.sliceAt,zA y,Instr.slice,z,yc a,J,ka]
    ·rw[zc I]at h;by_cases K:k=l
     ·subst K;simp only[qH]at h;subst h;refine qt (v:=_) hi (by simp[Instr.sliceAt,zA y,Instr.slice,z,yc a];rfl) (.c ?_);exact .sl (es:=[]) (fun _ _=>undef) (fun W=>by split at W<;>simp_all) (by simp) (by omega) (by simp) (by simp) (by simp)
     ·rw[zc K]at h;subst h;have hcl:¬cap=l:=by omega
      refine qt (v:=.slice (some ⟨(G id).g,(off+l)*(G id).s,none⟩) (k-l) (cap-l)) hi ?_ (.own R (by omega) (by omega) ?_ H)
      ·have hgs:(G id).s=m:=by rw[<-(hi.live id b hbl).bs,hbm]
       simp[Instr.sliceAt,zA y,Instr.slice,z,yc a,hcl,ka,hgs,qI]
      ·rw[show off+l+(cap-l)=off+cap from by omega];exact g4
   ·cases h
   ·cases h
  ·cases h
 ·cases h
theorem o7(hi:Inv P w S G Y Z){f:Fn}{xs ys:zb}{us ts:Array Value}(d:Zip (qf w S G Z) xs us.toList)(e:Zip (qf w S G Z) ys ts.toList) :
  QG dr P w Y Z S G (.fn f xs ys) Y Z ((Instr.makeFunc f us ts).run P w):=
 qt (v:=.func f us ts) hi rfl (.fn (by simpa using d.1) (by simpa using e.1) (fun j c x a b=>d.2 j c x a (by simpa using b)) (fun j c x a b=>e.2 j c x a (by simpa using b)))
theorem A8{z:Array Value}{n s i j:Nat}(hs:z.size=s)(hi:i<n)(b:j<s):(madeCells z (n*s))[i*s+j]?=z[j]?:=by
 have a:i*s+j<n*s:=kR hi b;unfold madeCells;rw[Array.getElem?_map,Array.getElem?_range,zd a];have c:(i*s+j) % s=j:=by rw[AO,Nat.add_mul_mod_self_right];exact Nat.mod_eq_of_lt b
 simp only[zC,hs,c];rw[Qf (by omega)];simp only[z6];exact(yn z j (by omega))
theorem lH(hi:Inv P w S G Y Z){t:TypeId}{p q x:O}{E:Hp}{F:Nat}{u v:Value}(h:xM P Y Z t p q=some (x,E,F))(L:qf w S G Z p u)(M:qf w S G Z q v) :
  QG dr P w Y Z S G x E F ((Instr.makeSlice t u v).run P w):=by
 unfold xM at h;split at h
 ·rename_i N l Q c;obtain⟨rfl,_⟩:=L.w8;obtain⟨rfl,_⟩:=M.w8;split at h
  ·rename_i e R;split at h
   ·rename_i n by_ z H T W;split at h
    ·rename_i X;obtain⟨I,o,c3,c4,J,c6⟩:=X;injection h with h
     injection h with ex h;injection h with eh en;subst ex;subst eh;subst en;obtain⟨i,d,r,i2,i3⟩:=Qk W;obtain⟨z1,z2⟩:=jg (w:=w) (S:=S) i3;have f:i.size=n:=by simpa[qz,r]using H
     have s:i.bytes=by_:=by simpa[js,r]using T
     have y:d.cells.size=n:=by rw[<-o,z1];simp
     have hm:c.toNat<=9223372036854775807:=by simpa[maxLen]using J
     have b:(i.bytes:Int)*c<=281474976710656:=by
      have:((c.toNat*by_:Nat):Int)<=140737488355328:=by omega
      rw[Int.natCast_mul,Int.toNat_of_nonneg (by omega)]at this;rw[s,Int.mul_comm];omega
     have hr:=run_make (P:=P) w t e i d (kO R) r i2 N Q l c c3 c4 b (by omega);have g:l.toNat<=c.toNat:=by omega
     have k:=kx.alloc (dr:=dr) hi (madeCells d.cells (c.toNat*i.size)) e true (List.replicate l.toNat z) n I (by simpa[qz]using H) (fun c' A=>by rw[(List.mem_replicate.1 A).2];exact o)
      (by rw[size_madeCells,f,List.length_replicate];exact zK _ g) (fun i' j c' pv a K=>by
       have B:i'<l.toNat:=by have:=(zi.1 a).1;simpa using this
       rw[WM,zd B]at a;injection a with a
       subst a;have C:j<n:=by rw[<-o];exact(zi.1 K).1
       have m:j<d.cells.size:=by omega
       rw[f,A8 y (by omega) C];have D:=z2 j pv d.cells[j] K (by simp[m]);exact⟨d.cells[j],by simp[m],fun _=>D.1,.c D.1,D.2.1⟩)
     refine⟨_,_,_,_,hr,k,?_⟩;have:=qf.own (w:=w.alloc (.cells (madeCells d.cells (c.toNat*i.size)) e)) (S:=S) (G:=qv G Z ⟨w.heap.size,(madeCells d.cells (c.toNat*i.size)).size,n⟩) (Z:=Z+1) (id:=Z) (off:=0) (n:=l.toNat) (cap:=c.toNat) (by omega) g J (by simp[size_madeCells,f]) (by simpa using I);simpa using this
    ·cases h
   ·cases h
  ·cases h
 ·cases h
end
variable{dr:Prop}
section
variable{P:Program}{w:World}{S:Nat->Prop}{G:Nat->GI}{Y:Hp}{Z:Nat}
theorem kx.tj{Y1:Hp}{w':World}(hi:Inv P w S G Y Z)(a:∀id b,Y1 id=some b->Y id=some b)(f:GI)(e:TypeId)(y:Bool)(es:List zb)(q:Array Value)
  (os:w'.os=w.os) (C:w'.tape=w.tape) (r:w'.output=w.output) (v:w.heap.size<=w'.heap.size) (A:w.drawn<=w'.drawn)
  (D:Nat->Prop) (M:∀b,D b->jz Y G b/\¬S b/\∀id t,Y1 id=some t->(G id).g≠b)
  (m:∀b,b<w.heap.size->b≠f.g->¬D b->w'.heap[b]?=w.heap[b]?) (B:∀id b,Y1 id=some b->(G id).g≠f.g) (E:¬S f.g) (F:jz Y G f.g\/w.heap.size<=f.g)
  (N:0<f.s) (Q:(P.info? e).map (·.size)=some f.s) (H:∀c∈es,c.length=f.s) (I:es.length*f.s<=f.z) (J:w'.heap[f.g]?=some (.cells q e (0,0))) (R:q.size=f.z)
  (K:∀(i j:Nat) (c:zb) (L:O),es[i]?=some c->c[j]?=some L->∃u,q[i*f.s+j]?=some u/\jl w S G Z y L u) :
  kx dr P Y Z S G w (qv Y1 Z (some ⟨e,f.s,y,es⟩)) (Z+1) S (qv G Z f) w':=by
 have T:∀b,S b->S b/\w'.heap[b]?=w.heap[b]?:=fun b d=>⟨d,m b (hi.st b d) (fun e=>E (e ▸ d)) fun h=>(M b h).2.1 d⟩
 have p:∀id,id<Z->qv G Z f id=G id:=fun id hid=>qO _ _ _ _ (by omega)
 have l:∀id,id≠Z->qv Y1 Z (some ⟨e,f.s,y,es⟩) id=Y1 id:=fun id hid=>qO _ _ _ _ hid
 refine⟨⟨fun b d=>yb (hi.st b d) v,fun id b d=>?_,fun id b d=>?_,fun id b d=>?_,fun id id' b t d n x=>?_,hi.iQ.mono T⟩,by omega,p,fun _ d=>d,fun _ d=>.inl d,fun id b d=>?_,⟨os,C,r,v,fun _=>A,fun k hk X=>m k hk (fun e=>?_) fun h=>X (M k h).1⟩⟩
 ·by_cases hid:id=Z
  ·omega
  ·rw[l id hid]at d;have:=hi.top id b (a id b d);omega
 ·by_cases hid:id=Z
  ·subst hid;simp only[wQ]at d⊢;injection d with d
   subst d;refine .vJ N rfl ⟨Q,H,I,q,J,R,fun i j c L W hj=>?_⟩;obtain⟨u,h1,h2⟩:=K i j c L W hj;exact⟨u,h1,h2.mono T (by omega) p⟩
  ·rw[l id hid]at d;have ht:=hi.top id b (a id b d);rw[p id ht];have hl:=hi.live id b (a id b d);exact hl.mono T (by omega) p (m _ hl.lt (B id b d) fun h=>(M _ h).2.2 id b d rfl)
 ·by_cases hid:id=Z
  ·subst hid;simpa using E
  ·rw[l id hid]at d;rw[p id (hi.top id b (a id b d))];exact hi.apart id b (a id b d)
 ·by_cases hid:id=Z<;>by_cases o:id'=Z
  ·omega
  ·subst hid;rw[l id' o]at n;rw[p id' (hi.top id' t (a id' t n))]at x;simp only[wQ]at x;exact(B id' t n x.symm).elim
  ·subst o;rw[l id hid]at d;rw[p id (hi.top id b (a id b d))]at x;simp only[wQ]at x;exact(B id b d x).elim
  ·rw[l id hid]at d;rw[l id' o]at n;rw[p id (hi.top id b (a id b d)),p id' (hi.top id' t (a id' t n))]at x;exact hi.inj id id' b t (a id b d) (a id' t n) x
 ·by_cases hid:id=Z
  ·subst hid;simpa using F
  ·rw[l id hid]at d;rw[p id (hi.top id b (a id b d))];exact .inl ⟨id,b,a id b d,rfl⟩
 ·subst e;rcases F with h|h
  ·exact X h
  ·omega
theorem Kn(hi:Inv P w S G Y Z){n:Nat}{x:O}{xs:List zb}{u:Value}(h:view Y n x=some xs)(r:qf w S G Z x u) :
  ∃(A:Option Addr) (c:Nat) (f:Nat->Value),u=.slice A xs.length c/\(∀l∈xs,l.length=n) /\
   ∀(i j:Nat) (l:zb) (d:O),xs[i]?=some l->l[j]?=some d->∃ad,A=some ad/\w.cell? (ad.add (i*n+j))=some (f (i*n+j))/\jl w S G Z true d (f (i*n+j)):=by
 have N:∀(A:Option Addr) (xs:List zb) (c:Nat),wJ w S (.sl n xs) (.slice A xs.length c)->(∃us:Nat->Nat->Value,(∀l∈xs,l.length=n) /\
   (∀(i j:Nat) (c:zb) (d:O),xs[i]?=some c->c[j]?=some d->∃ad,A=some ad/\w.cell? (ad.add (i*n+j))=some (us i j)/\(us i j).oneCell'=true/\wJ w S d (us i j))):=by
  intro A xs c h;cases h with
  |sl us Q H I t J E=>refine⟨us,t,fun i j c d a b=>?_⟩;obtain⟨ad,e,_,o,q⟩:=J i j c d a b;exact⟨ad,e,o,q,E i j c d a b⟩
 have y:∀(A:Option Addr) (c:Nat) (us:Nat->Nat->Value),(∀l∈xs,l.length=n) ->
   (∀(i j:Nat) (c:zb) (d:O),xs[i]?=some c->c[j]?=some d->∃ad,A=some ad/\w.cell? (ad.add (i*n+j))=some (us i j)/\jl w S G Z true d (us i j))->u=.slice A xs.length c ->
   ∃(A:Option Addr) (c:Nat) (f:Nat->Value),u=.slice A xs.length c/\(∀l∈xs,l.length=n) /\
    ∀(i j:Nat) (l:zb) (d:O),xs[i]?=some l->l[j]?=some d->∃ad,A=some ad/\w.cell? (ad.add (i*n+j))=some (f (i*n+j))/\jl w S G Z true d (f (i*n+j)):=by
  intro A c us H I t;refine⟨A,c,fun k=>match A with|some ad=>(w.cell? (ad.add k)).getD undef|none=>undef,t,H,fun i j l d m K=>?_⟩;obtain⟨ad,rfl,o,q⟩:=I i j l d m K;exact⟨ad,rfl,by simp[o],by simpa[o]using q⟩
 unfold view at h;split at h
 ·injection h with h;subst h;have:=r.Zj;subst this;exact⟨none,0,fun _=>undef,rfl,by simp,by simp⟩
 ·injection h with h;subst h;obtain⟨ad,cap,rfl,_⟩:=r.oS;exact⟨some ad,cap,fun _=>undef,rfl,by simp,by simp⟩
 ·rename_i s es;split at h
  ·rename_i hs;subst hs;injection h with h
   subst h;have L:=r.ch;cases L with
   |sl us Q H I t J E=>refine y _ _ us t (fun i j c d a b=>?_) rfl;obtain⟨ad,e,_,o,q⟩:=J i j c d a b;exact⟨ad,e,o,fun _=>E i j c d a b,.c (E i j c d a b),q⟩
  ·cases h
 ·rename_i id off k;split at h
  ·rename_i b R;split at h
   ·rename_i L;injection h with h
    obtain⟨T,W,c3⟩:=L;have z:=r.xh;obtain⟨cap,o,q,g3,g4,rfl⟩:=r.vK;have p:=hi.live id b R;obtain⟨B,X,r2,r3⟩:=p.row z;have hs:(G id).s=n:=by rw[<-p.bs,W]
    have hl:xs.length=k:=by rw[<-h];simp;omega
    have C:∀(i:Nat) (c:zb),xs[i]?=some c->b.es[off+i]?=some c:=by
     intro i c m;rw[<-h,qu]at m;split at m
     ·rwa [qN]at m
     ·cases m
    refine y (some ⟨(G id).g,off*(G id).s,none⟩) cap (fun i j=>(B[(off+i)*n+j]?).getD undef) (fun l D=>?_) (fun i j c d m K=>?_) (by rw[hl])
    ·rw[<-h]at D;rw[<-hs];exact p.len z l (WK _ _ (K6 _ _ D))
    ·obtain⟨v,F,M⟩:=r3 (off+i) j c d (C i c m) K;refine⟨_,rfl,?_,?_⟩
     ·rw[ka,zbI w _ _ B _ _ X,hs];rw[hs]at F;rw[show off*n+(i*n+j)=(off+i)*n+j from by rw[qI];omega,F];rfl
     ·rw[hs]at F;simp only[F,iN];rw[T]at M;exact M
   ·cases h
  ·cases h
 ·cases h
theorem NF{n k m:Nat}(a:0<n)(b:k<m*n):k/n<m/\k % n<n/\k/n*n+k % n=k:=by refine⟨(Nat.div_lt_iff_lt_mul a).2 b,Nat.mod_lt _ a,?_⟩;rw[zaB];exact Nat.div_add_mod k n
theorem XG{n:Nat}{xs:List zb}{A:Option Addr}{f:Nat->Value}(l:0<n)(m:∀a∈xs,a.length=n)
  (h:∀(i j:Nat) (a:zb) (b:O),xs[i]?=some a->a[j]?=some b->∃ad,A=some ad/\w.cell? (ad.add (i*n+j))=some (f (i*n+j))/\jl w S G Z true b (f (i*n+j))) :
  ∀k,k<xs.length*n->∃ad,A=some ad/\w.cell? (ad.add k)=some (f k)/\(f k).oneCell'=true:=by
 intro k o;obtain⟨c,s,p⟩:=NF l o;have q:xs[k/n]?=some xs[k/n]:=zl c;have r:xs[k/n].length=n:=m _ (zj c);obtain⟨ad,e,d,g⟩:=h (k/n) (k % n) _ (xs[k/n][k % n]'(by omega)) q (zl (by omega));rw[p]at d g;exact⟨ad,e,d,g.2.2⟩
theorem tx(t ty e:TypeId)(i:TypeInfo)(z:Value)(x:P.underlying t=some (.slice e))(hi:P.info? e=some i)(D:i.zero=some z)(E:0<i.size)
  (v:Value) (n:Nat) (xs:List Value) (h:w.ownsRow 0 e i.size v n xs) (a:Addr) (m c:Nat) (b:List Value) (p:b.length=m*i.size) (d:∀j u,b[j]?=some u->w.cell? (a.add j)=some u) (F:∀u∈b,u.oneCell'=true)
  (A:n+m<=maxLen) (f:(n+m)*i.bytes<=140737488355328) {G:Value} {w':World} (r:(Builtin.append_ #[t,t] ty #[v,.slice (some a) m c]).run P w=.ok G w'):w.drawn<=w'.drawn:=by
 have y:n+m<=9223372036854775807:=by simp only[maxLen]at A;omega
 rcases h.2 with⟨rfl,rfl⟩|⟨g,cap,q,rfl,H,I,J,K,B,C⟩
 ·by_cases L:m=0
  ·subst L;have M:b=[]:=jb (by simpa using p);subst M;have l:(Builtin.append_ #[t,t] ty #[.slice none 0 0,.slice (some a) 0 c]).run P w=.ok (.slice none 0 0) w:=by simp[Builtin.append_,zA x,sizeOf,typeInfo,hi,Builtin.lenOf,Builtin.firstCells,loadCells,loadCellsFrom]
   rw[l]at r;injection r with _ r
   rw[<-r];exact zf _
  ·have l:=run_append_nil (P:=P) w t ty e i z x hi D a m c b p d (by omega) (by omega) (by have N:=f;simp only[ym]at N;omega);rw[l]at r;injection r with _ r
   rw[<-r];exact Zp _
 ·by_cases k:n+m<=cap
  ·have s:n*i.size+b.length<=q.size:=by rw[p,B,<-qI];exact zK _ k
   have l:=run_append_room (P:=P) w t ty e i x hi g n cap q I a m c b p d F k s;rw[l]at r;injection r with _ r
   rw[<-r];exact zf _
  ·have o:∀j u,xs[j]?=some u->w.cell? ((⟨g,0,none⟩:Addr).add j)=some u:=h.cells (g:=g) rfl;have l:=run_append_grow (P:=P) w t ty e i z x hi D ⟨g,0,none⟩ n cap xs h.1 o a m c b p d (by omega) (by omega) (growslice_fits (by omega) f);rw[l]at r;injection r with _ r
   rw[<-r];exact Zp _
def EW(P:Program)(w:World)(t t' ty e:TypeId)(n by_ m:Nat)(x:Value)(a:List Value):Prop:=
 ∀(base:Nat) (v:Value) (k:Nat) (olds:List Value),w.ownsRow base e n v k olds->base<=w.heap.size->k+m<=maxLen->(k+m)*by_<=140737488355328 ->
  ∃b w',(Builtin.append_ #[t,t'] ty #[v,x]).run P w=.ok b w'/\w'.ownsRow base e n b (k+m) (olds++a)/\w.grownBy w' v.ownBlock/\(b.ownBlock=v.ownBlock\/b.ownBlock=some w.heap.size)/\w.drawn<=w'.drawn/\(m=0->b=v/\w'=w)
theorem IV{t ty e:TypeId}{n by_:Nat}{i:TypeInfo}{s:Value}(l:P.underlying t=some (.slice e))(x:P.info? e=some i)(D:i.zero=some s)(b:i.size=n)(o:i.bytes=by_)(z:s.cells.size=n)(E:0<n)
  {A:Option Addr} {m c:Nat} {f:Nat->Value} (B:∀k,k<m*n->∃ad,A=some ad/\w.cell? (ad.add k)=some (f k)/\(f k).oneCell'=true):EW P w t t ty e n by_ m (.slice A m c) ((List.range (m*n)).map f):=by
 intro base v k olds a d p F;by_cases G:m=0
 ·subst G;refine⟨v,w,?_,by simpa using a,World.grownBy.refl w _,.inl rfl,zf _,fun _=>⟨rfl,rfl⟩⟩;rcases a.2 with⟨rfl,_⟩|⟨g,cap,q,rfl,_,_,K,_⟩
  ·cases A<;>simp[Builtin.append_,zA l,sizeOf,typeInfo,x,Builtin.lenOf,Builtin.firstCells,loadCells,loadCellsFrom]
  ·cases A<;>simp[Builtin.append_,zA l,sizeOf,typeInfo,x,Builtin.lenOf,Builtin.firstCells,loadCells,loadCellsFrom,K,storeCells]
 ·obtain⟨ad,rfl,_,_⟩:=B 0 (Nat.mul_pos (by omega) E);have H:∀j u,((List.range (m*n)).map f)[j]?=some u->w.cell? (ad.add j)=some u:=fun j u y=>by
   have r:j<m*n:=by have:=(zi.1 y).1;simpa using this
   obtain⟨L,C,M,_⟩:=B j r;injection C with C;subst C;rw[qo,jZ r]at y;simp at y;rw[M,y]
  have I:∀u∈(List.range (m*n)).map f,u.oneCell'=true:=fun u l=>by obtain⟨k,N,rfl⟩:=qj.1 l;exact(B k (yj.1 N)).choose_spec.2.2
  obtain⟨Q,w',J,R,S,r4,T⟩:=run_append_own_at (P:=P) w base t ty e i s n by_ l x D b o z E v k olds a ad m c ((List.range (m*n)).map f) (by simp) H I p F d;refine⟨Q,w',J,R,S,T,?_,fun h=>(G h).elim⟩;exact tx t ty e i s l x D (by omega) v k olds (by rw[b];exact⟨a.1,a.2.imp (fun h=>h) fun⟨g,cap,q,W,_,X⟩=>⟨g,cap,q,W,vA _,X⟩⟩) ad m c ((List.range (m*n)).map f) (by simp[b]) H I p (by rw[o];exact F) J
theorem Tb{t u ty e:TypeId}{i:TypeInfo}(q:P.underlying t=some (.slice e))(hs:P.underlying u=some .string)(r:P.info? e=some i)(z:i.zero=some (.int .u8 0))(b:i.size=1)(d:i.bytes=1)(s:ByteArray) :
  EW P w t u ty e 1 1 s.size (.string s) (Lib.strCells s):=by
 intro base v k olds a f x D;rw[zgc]at D;have F:olds.length=k:=by simpa using a.1
 have y:k+s.size<=9223372036854775807:=by simp only[maxLen]at x;omega
 obtain⟨G,w',c,H,I,R⟩:=Lib.run_append_own_string (P:=P) w base t u ty e i q hs r z b d v k olds a s x D f;refine⟨G,w',c,H,I,?_⟩;by_cases j:s.size=0
 ·have l:(Builtin.append_ #[t,u] ty #[v,.string s]).run P w=.ok v w:=by
   have J:Lib.strCells s=[]:=jb (by rw[Lib.strCells_length];exact j);have A:=Lib.run_firstCells_string (P:=P) w 1 s;rw[j,J]at A;rcases a.2 with⟨rfl,_⟩|⟨g,cap,m,rfl,_,_,K,_⟩
   ·simp[Builtin.append_,zA q,zA hs,sizeOf,typeInfo,r,b,Builtin.lenOf,j,A]
   ·simp[Builtin.append_,zA q,zA hs,sizeOf,typeInfo,r,b,Builtin.lenOf,j,A,K,storeCells]
  rw[l]at c;injection c with n o
  subst n;subst o;exact⟨.inl rfl,zf _,fun _=>⟨rfl,rfl⟩⟩
 ·rcases a.2 with⟨rfl,rfl⟩|⟨g,cap,m,rfl,L,M,N,Q,B,C⟩
  ·have l:=run_append_nil_string (P:=P) w t u ty e i (.int .u8 0) q hs r z s (by omega) (by omega) (by rw[d];omega);rw[l]at c;injection c with n o
   subst n;subst o;exact⟨.inr rfl,Zp _,fun h=>(j h).elim⟩
  ·have E:m.size=cap:=by simpa using B
   by_cases p:k+s.size<=cap
   ·have l:=Lib.run_append_room_string (P:=P) w t u ty e i q hs r b g k cap m M s p (by omega);rw[l]at c;injection c with n o
    subst n;subst o;exact⟨.inl rfl,zf _,fun h=>(j h).elim⟩
   ·have l:=Lib.run_append_grow_string (P:=P) w t u ty e i (.int .u8 0) q hs r z ⟨g,0,none⟩ k cap olds (by rw[b];omega) (a.cells (g:=g) rfl) s (by omega) (by omega) (growslice_fits (by omega) (by rw[d];omega));rw[l]at c;injection c with n o
    subst n;subst o;exact⟨.inr rfl,Zp _,fun h=>(j h).elim⟩
theorem IW{e:TypeId}(h:Hz P e=true):∃i,P.info? e=some i/\i.zero=some (.int .u8 0)/\i.size=1/\i.bytes=1:=by
 unfold Hz at h;split at h
 ·rename_i i hi;split at h
  ·rename_i z a;simp only[zz,yJ]at h;obtain⟨⟨rfl,b⟩,c⟩:=h;exact⟨i,hi,a,b,c⟩
  ·cases h
 ·cases h
theorem NG{u:TypeId}(h:S9 P u=true):P.underlying u=some .string:=by
 unfold S9 at h;split at h
 ·assumption
 ·cases h
theorem A9(hi:Inv P w S G Y Z){t t' ty:TypeId}{s x y:O}{Y':Hp}{Z':Nat}{u v:Value}(h:yK P Y Z t t' s x=some (y,Y',Z'))(hs:qf w S G Z s u)(hx:qf w S G Z x v) :
  QG dr P w Y Z S G y Y' Z' ((Builtin.append_ #[t,t'] ty #[u,v]).run P w):=by
 unfold yK at h;split at h
 ·rename_i e he;split at h
  ·rename_i n by_ z h1 h2 h3;split at h
   ·rename_i xs H;obtain⟨i,vz,i1,i2,i3⟩:=Qk h3;have hsz:i.size=n:=by simpa[qz,i1]using h1
    have hby:i.bytes=by_:=by simpa[js,i1]using h2
    have hzl:=(jg (w:=w) (S:=S) i3).1;have hu:=kO he;have M:0<n->z.length=n->∃o,EW P w t t' ty e n by_ xs.length v o/\o.length=xs.length*n/\(∀d∈xs,d.length=n) /\
      ∀(i j:Nat) (d:zb) (q:O),xs[i]?=some d->d[j]?=some q->∃Q,o[i*n+j]?=some Q/\jl w S G Z true q Q:=by
     intro hn hzl';unfold lA at H;split at H
     ·rename_i b;split at H
      ·rename_i hc;injection H with H
       subst H;obtain⟨i',j1,j2,j3,j4⟩:=IW hc.2;rw[i1]at j1;injection j1 with j1
       subst j1;have hn1:n=1:=by omega
       have hb1:by_=1:=by omega
       subst hn1;subst hb1;have hvs:v=.string b:=by
        cases hx with
        |c h=>cases h;rfl
       subst hvs;have hl:(b.data.toList.map fun c=>[O.v (.int .u8 c.toNat)]).length=b.size:=by rw[vB,wC];rfl
       refine⟨Lib.strCells b,by rw[hl];exact Tb hu (NG hc.1) i1 j2 j3 j4 b,by rw[hl,Lib.strCells_length,zgc],fun d R=>?_,fun i j d q a r=>?_⟩
       ·obtain⟨x,_,rfl⟩:=qj.1 R;rfl
       ·rw[qo]at a;obtain⟨x,hx1,rfl⟩:=Option.map_eq_some_iff.1 a;obtain rfl:j=0:=by have:=(zi.1 r).1;simpa using this
        simp only[List.getElem?_cons_zero,z6]at r;subst r;refine⟨.int .u8 x.toNat,?_,fun _=>.v rfl,.c (.v rfl),rfl⟩;unfold Lib.strCells;rw[qo,zgc,QE,hx1];rfl
      ·cases H
     ·split at H
      ·rename_i he';subst he';obtain⟨A,c,f,rfl,J,f2⟩:=Kn hi H hx;have hzc:vz.cells.size=n:=by rw[<-hzl',hzl];simp
       refine⟨(List.range (xs.length*n)).map f,IV hu i1 i2 hsz hby hzc hn (XG hn J f2),by simp,J,fun i j d q a r=>?_⟩;obtain⟨ad',a1,a2,a3⟩:=f2 i j d q a r;have B:j<n:=by rw[<-J d (zG a)];exact(zi.1 r).1
       have D:i<xs.length:=(zi.1 a).1;have E:=kR (n:=xs.length) D B;exact⟨f (i*n+j),by rw[qo,jZ E];rfl,a3⟩
      ·cases H
    split at h
    ·split at h
     ·rename_i hc;obtain⟨c1,c2,c3,c4⟩:=hc;have:=hs.Zj;subst this;obtain⟨o,hA,_,J,f2⟩:=M c1 c2;split at h
      ·rename_i hm;injection h with h
       injection h with ey h;injection h with eh en;subst ey;subst eh;subst en;obtain⟨v',w',r1,_,_,_,_,r6⟩:=hA w.heap.size (.slice none 0 0) 0 [] (World.ownsRow_nil w _ e n) (zf _) (by simpa using c3) (by simpa using c4);obtain⟨rfl,rfl⟩:=r6 hm;exact qt (v:=.slice none 0 0) hi r1 (.c .nil)
      ·rename_i hm;injection h with h
       injection h with ey h;injection h with eh en;subst ey;subst eh;subst en;obtain⟨v',w',r1,r2,C,r5,rd,_⟩:=hA w.heap.size (.slice none 0 0) 0 [] (World.ownsRow_nil w _ e n) (zf _) (by simpa using c3) (by simpa using c4);simp only[ym,jJ]at r2;rcases r2.2 with⟨e1,e2⟩|⟨g,cap,m,rfl,e2,e3,e4,e5,e6,e7⟩
       ·exact(hm e2).elim
       ·have hg:g=w.heap.size:=by rcases r5 with h5|h5<;>simp[Value.ownBlock]at h5;exact h5
        subst hg;have k:=kx.tj (dr:=dr) (Y1:=Y) hi (fun _ _ h=>h) ⟨w.heap.size,m.size,n⟩ e true xs m C.os C.tape C.output C.size rd (fun _=>False) (fun _ h=>h.elim) (fun b I T _=>C.block b I (by simp[Value.ownBlock])) (fun id b I=>Nat.ne_of_lt (hi.live id b I).lt)
         (fun hS=>by have:=hi.st _ hS;simp at this) (.inr (zf _)) c1 (by simpa[qz]using h1) J (by rw[e6];exact zK _ e4) e3 rfl (fun i' j d q a r=>by
          obtain⟨Q,a1,a3⟩:=f2 i' j d q a r;have B:j<n:=by rw[<-J d (zG a)];exact(zi.1 r).1
          have D:i'<xs.length:=(zi.1 a).1;have E:=kR (n:=xs.length) D B;refine⟨Q,?_,a3⟩;have h7:(m.toList.take (xs.length*n))[i'*n+j]?=some Q:=by rw[e7];exact a1
          rw[qu,zd E]at h7;simpa using h7)
        refine⟨_,_,_,_,r1,k,?_⟩;have:=qf.own (w:=w') (S:=S) (G:=qv G Z ⟨w.heap.size,m.size,n⟩) (Z:=Z+1) (id:=Z) (off:=0) (n:=xs.length) (cap:=cap) (by omega) e4 e5 (by simp[e6]) (by simpa using c1);simpa using this
     ·cases h
    ·rename_i id k;split at h
     ·rename_i b I;split at h
      ·rename_i hc;obtain⟨c0,c1,c2,c3,c4,c5,c6⟩:=hc;injection h with h
       injection h with ey h;injection h with eh en;subst ey;subst eh;subst en;have K:=hs.xh;obtain⟨cap,g1,g2,g3,g4,rfl⟩:=hs.vK;have hzc:vz.cells.size=n:=by rw[<-c4,hzl];simp
       have F:=hi.live id b I;obtain⟨m,q1,q2,q3⟩:=F.row K;have L:(G id).s=n:=by
        have h5:=F.size K;rw[c1]at h5;have h6:(P.info? e).map (·.size)=some n:=by simpa[qz]using h1
        rw[h6]at h5;injection h5 with h5
        exact h5.symm
       have hg0:(⟨(G id).g,0*(G id).s,none⟩:Addr)=⟨(G id).g,0,none⟩:=by simp
       rw[hg0];have hcz:m.size=cap*n:=by rw[q2,<-g4,L];simp
       have N:w.ownsRow 0 e n (.slice (some ⟨(G id).g,0,none⟩) k cap) k (m.toList.take (k*n)):=by refine⟨?_,.inr ⟨(G id).g,cap,m,rfl,vA _,by rw[<-c1];exact q1,g2,g3,hcz,rfl⟩⟩;simp only[yF,wC,hcz];exact Nat.min_eq_left (zK _ g2)
       have hsub:∀id' p,qv Y id none id'=some p->Y id'=some p:=fun id' p h=>xk h
       have hnl:∀id' p,qv Y id none id'=some p->(G id').g≠(G id).g:=fun id' p h he=>by
        have T:id'≠id:=by rintro rfl;simp at h
        exact T (hi.inj id' id p b (xk h) I he)
       obtain⟨o,hA,_,J,f2⟩:=M c3 c4;obtain⟨v',w',r1,r2,C,r5,rd,_⟩:=hA 0 _ k _ N (vA _) c5 c6;simp only[Value.ownBlock]at C r5;rcases r2.2 with⟨e1,e2⟩|⟨g,cap',l,rfl,e2,e3,e4,e5,e6,e7⟩
       ·subst e1;simp[Value.ownBlock]at r5
       ·have hg:g=(G id).g\/g=w.heap.size:=by simpa[Value.ownBlock]using r5
        have hgl:=F.lt;have Nf:∀(i' j:Nat) (d:zb) (q:O),(b.es++xs)[i']?=some d->d[j]?=some q->∃u,l[i'*n+j]?=some u/\jl w S G Z true q u:=by
         intro i' j d q a r;have hcl:d.length=n:=by
          rcases zM.1 (zG a)with h|h
          ·rw[<-L];exact F.len K d h
          ·exact J d h
         have B:j<n:=by rw[<-hcl];exact(zi.1 r).1
         have D:i'<k+xs.length:=by have:=(zi.1 a).1;simp at this;omega
         have E:=kR (n:=k+xs.length) D B;have h7:(l.toList.take ((k+xs.length)*n))[i'*n+j]?=l[i'*n+j]?:=by rw[qu,zd E];simp
         rw[<-h7,e7];have hkl:(m.toList.take (k*n)).length=k*n:=N.1;by_cases W:i'<k
         ·have hlt':=kR (n:=k) W B;rw[zY (by rw[c2]at W;exact W)]at a;rw[zY (by omega),qu,zd hlt'];obtain⟨Q,u1,u2⟩:=q3 i' j d q a r;rw[L]at u1;rw[c0]at u2;exact⟨Q,by simpa using u1,u2⟩
         ·rw[zS (by omega),<-c2]at a;have hge:k*n<=i'*n:=zK _ (by omega);rw[zS (by omega),hkl];have hkk:i'*n+j-k*n=(i'-k)*n+j:=by rw[Nat.sub_mul];omega
          rw[hkk];exact f2 (i'-k) j d q a r
        have k2:=kx.tj (dr:=dr) (Y1:=qv Y id none) hi hsub ⟨g,l.size,n⟩ e true (b.es++xs) l C.os C.tape C.output C.size rd
         (fun p=>p=(G id).g) (fun p X=>by subst X;exact⟨⟨id,b,I,rfl⟩,hi.apart id b I,hnl⟩)
         (fun p X T hbg=>C.block p X (by simpa using hbg))
         (fun id' p h=>by
          rcases hg with h'|h'
          ·simp only[h'];exact hnl id' p h
          ·simp only[h'];exact Nat.ne_of_lt (hi.live id' p (xk h)).lt)
         (by
          rcases hg with h'|h'
          ·simp only[h'];exact hi.apart id b I
          ·simp only[h'];intro hS;have:=hi.st _ hS;simp at this)
         (by
          rcases hg with h'|h'
          ·simp only[h'];exact .inl ⟨id,b,I,rfl⟩
          ·simp only[h'];exact .inr (zf _))
         c3 (by simpa[qz]using h1)
         (fun d R=>by
          rcases zM.1 R with h|h
          ·simp only[<-L];exact F.len K d h
          ·exact J d h)
         (by rw[zL,<-c2,e6];exact zK _ e4) e3 rfl Nf
        refine⟨_,_,_,_,r1,k2,?_⟩;have:=qf.own (w:=w') (S:=S) (G:=qv G Z ⟨g,l.size,n⟩) (Z:=Z+1) (id:=Z) (off:=0) (n:=k+xs.length) (cap:=cap') (by omega) e4 e5 (by simp[e6]) (by simpa using c3);simpa using this
      ·cases h
     ·cases h
    ·cases h
   ·cases h
  ·cases h
 ·cases h
end
variable{dr:Prop}
section
variable{P:Program}{w:World}{S:Nat->Prop}{G:Nat->GI}{Y:Hp}{Z:Nat}
theorem kx.allocMap(h:Inv P w S G Y Z)(t:TypeId):kx dr P Y Z S G w (qv Y Z (some ⟨t,0,false,[]⟩)) (Z+1) S (qv G Z ⟨w.heap.size,0,0⟩) (w.alloc (.map #[] 0)):=by
 have j:∀b,b<w.heap.size->(w.alloc (.map #[] 0)).heap[b]?=w.heap[b]?:=fun b a=>Below.heap_alloc w _ b a
 have r:∀b,S b->S b/\(w.alloc (.map #[] 0)).heap[b]?=w.heap[b]?:=fun b a=>⟨a,j b (h.st b a)⟩
 have n:∀id,id<Z->qv G Z ⟨w.heap.size,0,0⟩ id=G id:=fun id hid=>qO _ _ _ _ (by omega)
 have d:∀id,id≠Z->qv Y Z (some (⟨t,0,false,[]⟩:kv)) id=Y id:=fun id hid=>qO _ _ _ _ hid
 have l:(w.alloc (.map #[] 0)).heap.size=w.heap.size+1:=by show(w.heap.push _).size=_;simp
 have o:∀id b,Y id=some b->(G id).g<w.heap.size:=fun id b a=>(h.live id b a).lt
 refine⟨⟨fun b a=>by rw[l];have:=h.st b a;omega,fun id b a=>?_,fun id b a=>?_,fun id b a=>?_,fun id id' b q a f p=>?_,h.iQ.mono r⟩,by omega,n,fun _ a=>a,fun _ a=>.inl a,fun id b a=>?_,⟨rfl,rfl,rfl,by rw[l];omega,fun _=>zf _,fun k s _=>j k s⟩⟩
 ·by_cases hid:id=Z
  ·omega
  ·rw[d id hid]at a;have:=h.top id b a;omega
 ·by_cases hid:id=Z
  ·subst hid;simp only[wQ]at a⊢;injection a with a
   subst a;exact⟨rfl,fun u=>absurd u (by simp),fun _=>⟨⟨#[],0,Sf w _,rfl,fun i c e hi _=>by simp at hi⟩,#[],0,Sf w _,by simp[Stamped]⟩⟩
  ·rw[d id hid]at a;have v:=h.top id b a;rw[n id v];exact(h.live id b a).mono r (by omega) n (j _ (o id b a))
 ·by_cases hid:id=Z
  ·subst hid;simp only[wQ];intro hs;have:=h.st _ hs;omega
  ·rw[d id hid]at a;rw[n id (h.top id b a)];exact h.apart id b a
 ·by_cases hid:id=Z<;>by_cases m:id'=Z
  ·omega
  ·subst hid;rw[d id' m]at f;rw[n id' (h.top id' q f)]at p;have:=o id' q f;simp at p;omega
  ·subst m;rw[d id hid]at a;rw[n id (h.top id b a)]at p;have:=o id b a;simp at p;omega
  ·rw[d id hid]at a;rw[d id' m]at f;rw[n id (h.top id b a),n id' (h.top id' q f)]at p;exact h.inj id id' b q a f p
 ·by_cases hid:id=Z
  ·subst hid;simp
  ·rw[d id hid]at a;rw[n id (h.top id b a)];exact .inl ⟨id,b,a,rfl⟩
theorem Stamped.push{en:Array MapEntry}{c:Nat}(h:Stamped en c)(v z:Value):Stamped (en.push {key:=v,val:=z,born:=c}) (c+1):=by
 obtain⟨e,f⟩:=h;refine⟨fun x d=>?_,?_⟩
 ·simp only[Array.toList_push,zM,wM]at d;rcases d with d|rfl
  ·exact Nat.lt_succ_of_lt (e x d)
  ·exact Nat.lt_succ_self _
 ·rw[Array.toList_push,zbJ,List.nodup_append];refine⟨f,by simp,fun a g b i=>?_⟩;obtain⟨x,d,rfl⟩:=qj.1 g;simp only[we,K7,wM]at i;have:=e x d;omega
theorem Stamped.modify{en:Array MapEntry}{clock:Nat}(h:Stamped en clock)(i:Nat)(v z:Value):Stamped (en.modify i fun e=>{e with key:=v,val:=z}) clock:=by
 have a:((en.modify i fun e=>{e with key:=v,val:=z}).toList.map (·.born))=en.toList.map (·.born):=by
  apply dT;intro j;simp only[qo,ia,vR];split
  ·cases en[j]?<;>rfl
  ·rfl
 refine⟨fun x b=>?_,by rw[a];exact h.2⟩;have:x.born∈en.toList.map (·.born):=by rw[<-a];exact qj.2 ⟨x,b,rfl⟩
 obtain⟨y,c,e⟩:=qj.1 this;have:=h.1 y c;omega
theorem kx.Sq(h:Inv P w S G Y Z){id:Nat}{b:kv}(hid:Y id=some b)(r:(G id).s=0)(en:Array MapEntry)(a:Nat)(es:List zb)(t:Stamped en a)(B:en.size=es.length)
  (n:∀(i:Nat) (c:zb) (e:MapEntry),es[i]?=some c->en[i]?=some e->YU w S c e) :
  kx dr P Y Z S G w (qv Y id (some ⟨b.e,b.s,b.arr,es⟩)) Z S G {w with heap:=w.heap.setIfInBounds (G id).g (.map en a)}:=by
 obtain⟨C,p,o,_⟩:=((h.live id b hid).ent r).row;have l:=MapKept.heap_set (o':=Obj.map en a) o;have j:∀k,k≠(G id).g->(w.heap.setIfInBounds (G id).g (.map en a))[k]?=w.heap[k]?:=l.2;have u:∀b,S b->S b/\(w.heap.setIfInBounds (G id).g (.map en a))[b]?=w.heap[b]?:=fun k f=>⟨f,j k fun e=>h.apart id b hid (e ▸ f)⟩
 have m:∀k,k≠id->qv Y id (some (⟨b.e,b.s,b.arr,es⟩:kv)) k=Y k:=fun k f=>qO _ _ _ _ f
 refine⟨⟨fun k f=>by show k<(w.heap.setIfInBounds _ _).size;simpa using h.st k f,fun k c f=>?_,fun k c f=>?_,fun k c f=>?_,fun k q c v f x y=>?_,h.iQ.mono u⟩,zf _,fun _ _=>rfl,fun _ z=>z,fun _ z=>.inl z,fun k c f=>?_,⟨rfl,rfl,rfl,by simp,fun _=>zf _,fun k _ D=>j k fun e=>D ⟨id,b,hid,e.symm⟩⟩⟩
 ·by_cases d:k=id
  ·subst d;exact h.top _ b hid
  ·rw[m k d]at f;exact h.top k c f
 ·by_cases d:k=id
  ·subst d;simp only[wQ]at f;injection f with f
   subst f;refine⟨(h.live _ b hid).bs,fun Q=>by omega,fun _=>⟨⟨en,a,l.1,B,fun i c e hi y=>?_⟩,en,a,l.1,t⟩⟩;obtain⟨q,E,F,H,I,J⟩:=n i c e hi y;exact⟨q,E,F,H,I,J.mono u⟩
  ·rw[m k d]at f;exact(h.live k c f).mono u (zf _) (fun _ _=>rfl) (j _ fun e=>d (h.inj k id c b f hid e))
 ·by_cases d:k=id
  ·subst d;exact h.apart _ b hid
  ·rw[m k d]at f;exact h.apart k c f
 ·have A:∀k c,qv Y id (some (⟨b.e,b.s,b.arr,es⟩:kv)) k=some c->∃v,Y k=some v:=by
   intro k c f;by_cases d:k=id
   ·subst d;exact⟨b,hid⟩
   ·rw[m k d]at f;exact⟨c,f⟩
  obtain⟨K,L⟩:=A k c f;obtain⟨M,N⟩:=A q v x;exact h.inj k q K M L N y
 ·by_cases d:k=id
  ·subst d;exact .inl ⟨_,b,hid,rfl⟩
  ·rw[m k d]at f;exact .inl ⟨k,c,f,rfl⟩
theorem tz(hi:Inv P w S G Y Z)(t:TypeId):QG dr P w Y Z S G (.mp Z) (qv Y Z (some ⟨t,0,false,[]⟩)) (Z+1) ((Instr.makeMap t none).run P w):=by refine⟨.map (some w.heap.size),w.alloc (.map #[] 0),S,qv G Z ⟨w.heap.size,0,0⟩,by simp[Instr.makeMap],kx.allocMap hi t,?_⟩;have:=qf.mp (w:=w.alloc (.map #[] 0)) (S:=S) (G:=qv G Z ⟨w.heap.size,0,0⟩) (Z:=Z+1) (id:=Z) (by omega) (by simp);simpa using this
theorem lI{t:TypeId}{f:Option IntKind}{g:TypeId}(h:VC P t=some (f,g)):∃a d,P.underlying t=some (.map a g)/\P.underlying a=some d/\(∀k,Y4 f k=true->MapKept.IsKey d k)/\(d=.string\/∃i,d=.int i):=by
 unfold VC at h;split at h
 ·rename_i a l j;split at h
  ·rename_i i b;injection h with h
   injection h with c e;subst c;subst e;exact⟨a,.int i,j,b,fun k b=>by cases k<;>simp_all[Y4,MapKept.IsKey],.inr ⟨i,rfl⟩⟩
  ·rename_i b;injection h with h
   injection h with c e;subst c;subst e;exact⟨a,.string,j,b,fun k b=>by cases k<;>simp_all[Y4,MapKept.IsKey],.inl rfl⟩
  ·cases h
 ·cases h
theorem gb{d:TypeDesc}{a b:Value}{r:Bool}(hd:d=.string\/∃i,d=.int i)(c:MapKept.IsKey d a)(h:kF a b=some r):Instr.sameNow d a b=some r:=by
 unfold kF at h;split at h
 ·rename_i k x f y;rcases hd with rfl|⟨i,rfl⟩
  ·simp[MapKept.IsKey]at c
  ·split at h
   ·rename_i e;simpa[Instr.sameNow,e]using h
   ·cases h
 ·rename_i x y;rcases hd with rfl|⟨i,rfl⟩
  ·injection h with h;simp only[Instr.sameNow,z6];rw[<-h,qh,MapKept.bytes_beq,yJ];exact⟨fun e=>by rw[e],fun e=>by obtain⟨x⟩:=x;obtain⟨y⟩:=y;congr 1;exact(by rw[YB,YB]at e;exact Array.toList_inj.1 e)⟩
  ·simp[MapKept.IsKey]at c
 ·cases h
theorem JM{d:TypeDesc}{k:Value}(hd:d=.string\/∃i,d=.int i)(b:MapKept.IsKey d k):∀{es:List zb} {en:List MapEntry} {i:Nat} {r:Option (Nat×O)},es.length=en.length->(∀(j:Nat) (c:zb) (e:MapEntry),es[j]?=some c->en[j]?=some e->YU w S c e)->kH k es i=some r ->
  (r=none/\Instr.findNow d k en i=some none)\/∃j v e,r=some (i+j,v)/\Instr.findNow d k en i=some (some (i+j,e.val))/\en[j]?=some e/\wJ w S v e.val/\kF k e.key=some true/\j<es.length
 |[],[],i,r,_,_,h=>by
  simp only[kH]at h;injection h with h
  exact .inl ⟨h.symm,rfl⟩
 |[],e::en,_,_,a,_,_=>by simp at a
 |c::es,[],_,_,a,_,_=>by simp at a
 |c::es,e::en,i,r,a,l,h=>by
  obtain⟨z,v,rfl,n,_,o⟩:=l 0 c e rfl rfl;simp only[kH]at h;subst n;split at h
  ·rename_i hs;injection h with h
   subst h;refine .inr ⟨0,v,e,rfl,?_,rfl,o,hs,by simp⟩;simp[Instr.findNow,gb hd b hs]
  ·rename_i hs;have m:=gb hd b hs;rcases JM hd b (es:=es) (en:=en) (i:=i+1) (r:=r) (by simpa using a) (fun j c e p q=>l (j+1) c e (by simpa using p) (by simpa using q)) h with⟨f,g⟩|⟨j,s,t,f,g,u,x,y,A⟩
   ·exact .inl ⟨f,by simp[Instr.findNow,m,g]⟩
   ·refine .inr ⟨j+1,s,t,by rw[f];congr 2;omega,?_,by simpa using u,x,y,by simp;omega⟩;simp only[Instr.findNow,m,g];congr 3;omega
  ·cases h
theorem rF{t:TypeId}{z:O}(h:aF P t=some z):∃v,(zeroValue t).run P w=.ok v w/\wJ w S z v:=by
 unfold aF at h;cases hi:P.info? t with
 |none=>rw[hi]at h;cases h
 |some i=>
  rw[hi]at h;simp only[z7]at h;cases a:i.zero with
  |none=>rw[a]at h;cases h
  |some v=>rw[a]at h;exact⟨v,Wd hi a w,ga h⟩
theorem NH(hi:Inv P w S G Y Z){x:O}{u:Value}{es:List zb}(h:lB Y x=some es)(d:qf w S G Z x u) :
  (u=.map none/\es=[])\/∃r en a,u=.map (some r)/\w.heap[r]?=some (.map en a)/\en.size=es.length/\∀(i:Nat) (c:zb) (e:MapEntry),es[i]?=some c->en[i]?=some e->YU w S c e:=by
 unfold lB at h;split at h
 ·rename_i id;obtain⟨m,f,rfl⟩:=d.Ho;split at h
  ·rename_i b g;split at h
   ·injection h with h;subst h;obtain⟨en,a,j,k,l⟩:=((hi.live id b g).ent f).row;exact .inr ⟨_,en,a,rfl,j,k,l⟩
   ·cases h
  ·cases h
 ·injection h with h;obtain⟨rfl,_⟩:=d.w8;exact .inl ⟨rfl,h.symm⟩
 ·cases h
theorem Ba(hi:Inv P w S G Y Z){t:TypeId}{p q x:O}{u v:Value}{o:Bool}(h:ZP P Y t p q o=some x)(Y':qf w S G Z p u)(hq:qf w S G Z q v):QG dr P w Y Z S G x Y Z ((Instr.lookup t u v o).run P w):=by
 unfold ZP at h;split at h
 ·rename_i kk D es k F H;obtain⟨kt,d,s,g,I,hd⟩:=lI F;obtain⟨rfl,_⟩:=hq.w8;split at h
  ·rename_i hc;have f:=I v hc;rcases NH hi H Y' with⟨rfl,rfl⟩|⟨r,en,J,rfl,E,W,X⟩
   ·simp only[kH]at h;obtain⟨z,K,m⟩:∃z,aF P D=some z/\(if o=true then O.wG [z,.v (.bool false)]else z)=x:=by
     cases A:aF P D with
     |none=>rw[A]at h;cases h
     |some z=>rw[A]at h;injection h with h;exact⟨z,rfl,h⟩
    obtain⟨B,l,n⟩:=rF (w:=w) (S:=S) K;have C:Instr.findNow d v [] 0=some none:=rfl;cases o with
    |true=>
     simp only[qH]at m;subst m;refine qt (v:=.tuple #[B,.bool false]) hi ?_ (.c (.wG rfl fun j L y a b=>?_))
     ·simp[Instr.lookup,zA s,x0 g f,ZJ g C,l,Result.andThen]
     ·match j,a,b with
      | 0,a,b=>simp at a b;subst a;subst b;exact n
      | 1,a,b=>simp at a b;subst a;subst b;exact .v rfl
      |j+2,a,b=>simp at a
    |false=>simp only[zF,qR]at m;subst m;refine qt (v:=B) hi ?_ (.c n);simp[Instr.lookup,zA s,x0 g f,ZJ g C,l,Result.andThen]
   ·split at h
    ·rename_i i L M;rcases JM hd f (en:=en.toList) (by simpa using W.symm) (fun j c e N Q=>X j c e N (by simpa using Q)) M with⟨R,_⟩|⟨j,y,e,l,n,e3,e4,e5,e6⟩
     ·cases R
     ·injection l with l;injection l with l T;subst T;injection h with h;cases o with
      |true=>
       simp only[qH]at h;subst h;refine qt (v:=.tuple #[e.val,.bool true]) hi ?_ (.c (.wG rfl fun j L y a b=>?_))
       ·simp[Instr.lookup,zA s,JH E,x0 g f,ZJ g n,Result.andThen]
       ·match j,a,b with
        | 0,a,b=>simp at a b;subst a;subst b;exact e4
        | 1,a,b=>simp at a b;subst a;subst b;exact .v rfl
        |j+2,a,b=>simp at a
      |false=>simp only[zF,qR]at h;subst h;refine qt (v:=e.val) hi ?_ (.c e4);simp[Instr.lookup,zA s,JH E,x0 g f,ZJ g n,Result.andThen]
    ·rename_i M;obtain⟨z,K,m⟩:∃z,aF P D=some z/\(if o=true then O.wG [z,.v (.bool false)]else z)=x:=by
      cases A:aF P D with
      |none=>rw[A]at h;cases h
      |some z=>rw[A]at h;injection h with h;exact⟨z,rfl,h⟩
     obtain⟨B,l,n⟩:=rF (w:=w) (S:=S) K;rcases JM hd f (en:=en.toList) (by simpa using W.symm) (fun j c e N Q=>X j c e N (by simpa using Q)) M with⟨_,C⟩|⟨j,y,e,R,_⟩
     ·cases o with
      |true=>
       simp only[qH]at m;subst m;refine qt (v:=.tuple #[B,.bool false]) hi ?_ (.c (.wG rfl fun j L y a b=>?_))
       ·simp[Instr.lookup,zA s,JH E,x0 g f,ZJ g C,l,Result.andThen]
       ·match j,a,b with
        | 0,a,b=>simp at a b;subst a;subst b;exact n
        | 1,a,b=>simp at a b;subst a;subst b;exact .v rfl
        |j+2,a,b=>simp at a
      |false=>simp only[zF,qR]at m;subst m;refine qt (v:=B) hi ?_ (.c n);simp[Instr.lookup,zA s,JH E,x0 g f,ZJ g C,l,Result.andThen]
     ·cases R
    ·cases h
  ·cases h
 ·cases h
theorem EX{a b:Value}(h:kF a b=some true):b=a:=by
 unfold kF at h;split at h
 ·rename_i k x c y;split at h
  ·rename_i e;subst e;injection h with h
   rw[yJ]at h;rw[h]
  ·cases h
 ·rename_i x y;injection h with h
  rw[yJ]at h;obtain⟨x⟩:=x;obtain⟨y⟩:=y;congr 2
  (rw[YB,YB]at h;exact Array.toList_inj.1 h.symm)
 ·cases h
theorem gd(hi:Inv P w S G Y Z){t:TypeId}{p q y:O}{Y':Hp}{u v z:Value}(h:xb P Y t p q y=some Y')(hu:qf w S G Z p u)(hq:qf w S G Z q v)(hy:qf w S G Z y z) :
  ∃w' S' G',(Instr.mapUpdate t u v z).run P w=.ok () w'/\kx dr P Y Z S G w Y' Z S' G' w':=by
 unfold xb at h;split at h
 ·rename_i kk et id k L;obtain⟨kt,d,s,D,M,hd⟩:=lI L;obtain⟨rfl,m⟩:=hq.w8;obtain⟨m1,E,rfl⟩:=hu.Ho;split at h
  ·rename_i hc;have g:=M v hc;split at h
   ·rename_i F Y1 hf;obtain⟨S1,r,hr,_,_⟩:=kN hi hf hy;split at h
    ·rename_i b H;split at h
     ·obtain⟨en,clock,A,I,J⟩:=((r.inv.live id b H).ent E).row;have B:Stamped en clock:=by
       obtain⟨N,l,q1,q2⟩:=((r.inv.live id b H).ent E).Sl;rw[A]at q1;obtain⟨rfl,rfl⟩:en=N/\clock=l:=by simpa using q1
       exact q2
      split at h
      ·rename_i i pv n;injection h with h
       subst h;rcases JM hd g (en:=en.toList) (by simpa using I.symm) (fun j c e Q R=>J j c e Q (by simpa using R)) n with⟨T,_⟩|⟨j,x,e,K,e2,e3,e4,e5,e6⟩
       ·cases T
       ·injection K with K;injection K with K e1';have W:i=j:=by omega
        subst W;have C:en[i]?=some e:=by simpa using e3
        have X:e.key=v:=EX e5;have k2:=kx.Sq (dr:=dr) r.inv H E (en.modify i fun e=>{e with key:=v,val:=z}) clock (b.es.set i [.v v,F]) (B.modify i v z) (by simpa using I) (fun i' c e' f a=>by
         rw[vR]at a;by_cases o:i=i'
         ·subst o;rw[zd rfl,C]at a;rw[ve e6]at f;injection f with f
          simp only[zC,z6]at a;subst a;subst f;exact⟨v,F,rfl,rfl,m,hr⟩
         ·rw[zc o]at a;rw[yH o]at f;exact J i' c e' f a)
        refine⟨_,S1,G,?_,r.trans k2⟩;simp[Instr.mapUpdate,zA s,JH A,x0 D g,ZJ D e2,C,X,MapKept.run_keyThatStays g,MapKept.run_setObj_map _ A,Result.andThen]
      ·rename_i n;injection h with h
       subst h;rcases JM hd g (en:=en.toList) (by simpa using I.symm) (fun j c e Q R=>J j c e Q (by simpa using R)) n with⟨_,hn⟩|⟨j,x,e,T,_⟩
       ·have k2:=kx.Sq (dr:=dr) r.inv H E (en.push {key:=v,val:=z,born:=clock}) (clock+1) (b.es++[[.v v,F]]) (B.push v z) (by simp[I]) (fun i' c e' f a=>by
         rw[Array.getElem?_push]at a;split at a
         ·rename_i Sn;injection a with a
          subst a;rw[zS (by omega)]at f;have:i'-b.es.length=0:=by omega
          rw[this]at f;simp at f;exact⟨v,F,f.symm,rfl,m,hr⟩
         ·rename_i Sn;have hlt:i'<en.size:=(qg.1 a).1;rw[zY (by omega)]at f;exact J i' c e' f a)
        refine⟨_,S1,G,?_,r.trans k2⟩;simp[Instr.mapUpdate,zA s,JH A,x0 D g,ZJ D hn,MapKept.run_setObj_map _ A,Result.andThen]
       ·cases T
      ·cases h
     ·cases h
    ·cases h
   ·cases h
  ·cases h
 ·cases h
end
variable{dr:Prop}
section
variable{P:Program}{w:World}{S:Nat->Prop}{G:Nat->GI}{Y:Hp}{Z:Nat}
theorem NI(hi:Inv P w S G Y Z){t ty:TypeId}{p x:O}{u:Value}(h:Ki P t p=some x)(b:qf w S G Z p u):QG dr P w Y Z S G x Y Z ((Builtin.len_ #[t] ty #[u]).run P w):=by
 have sl:∀{A:Option Addr} {n c:Nat} {e:TypeId},yf P t=some e->(Builtin.len_ #[t] ty #[.slice A n c]).run P w=.ok (.int .i64 n) w:=fun a=>by simp[Builtin.len_,zA (kO a),goInt]
 unfold Ki at h;split at h
 ·obtain⟨rfl,_⟩:=b.w8;split at h
  ·rename_i d;injection h with h
   subst h;exact qt (v:=_) hi (by simp[Builtin.len_,zA d,goInt]) (xw _ rfl)
  ·cases h
 ·cases a:yf P t with
  |none=>simp[a]at h
  |some e=>simp[a]at h;subst h;obtain⟨rfl,_⟩:=b.w8;exact qt (v:=_) hi (sl a) (xw _ rfl)
 ·cases a:yf P t with
  |none=>simp[a]at h
  |some e=>
   simp[a]at h;subst h;cases b.ch with
   |sl us f g i j k l=>exact qt (v:=_) hi (sl a) (xw _ rfl)
 ·cases a:yf P t with
  |none=>simp[a]at h
  |some e=>simp[a]at h;subst h;have:=b.Zj;subst this;exact qt (v:=_) hi (sl a) (xw _ rfl)
 ·cases a:yf P t with
  |none=>simp[a]at h
  |some e=>simp[a]at h;subst h;obtain⟨ad,cap,rfl,_⟩:=b.oS;exact qt (v:=_) hi (sl a) (xw _ rfl)
 ·cases a:yf P t with
  |none=>simp[a]at h
  |some e=>simp[a]at h;subst h;obtain⟨cap,_,_,_,_,rfl⟩:=b.vK;exact qt (v:=_) hi (sl a) (xw _ rfl)
 ·cases h
theorem gf{k:IntKind}:∀{l:zb} {x:Int} {r:O} {us:List Value},XD k x l=some r->Zip (qf w S G Z) l us->∃n,r=.v (.int k n)/\(us.foldlM Builtin.min2 (.int k x)).run P w=.ok (.int k n) w
 |[],x,r,us,h,a=>by
  simp only[XD]at h;injection h with h
  subst h;rw[a.WO];exact⟨x,rfl,by simp⟩
 |p::l,x,r,us,h,a=>by
  obtain⟨u,c,rfl,d,b⟩:=a.jC;unfold XD at h;split at h
  ·cases ‹p::l=[]›
  ·rename_i m y l' e;injection e with f g
   subst f;subst g;split at h
   ·rename_i i;subst i;obtain⟨rfl,_⟩:=d.w8;obtain⟨n,rfl,j⟩:=gf h b;exact⟨n,rfl,by simp only[List.foldlM_cons,vQ,Builtin.min2,WL,ku];exact j⟩
   ·cases h
  ·cases h
theorem gg{k:IntKind}:∀{l:zb} {x:Int} {r:O} {us:List Value},XE k x l=some r->Zip (qf w S G Z) l us->∃n,r=.v (.int k n)/\(us.foldlM Builtin.max2 (.int k x)).run P w=.ok (.int k n) w
 |[],x,r,us,h,a=>by
  simp only[XE]at h;injection h with h
  subst h;rw[a.WO];exact⟨x,rfl,by simp⟩
 |p::l,x,r,us,h,a=>by
  obtain⟨u,c,rfl,d,b⟩:=a.jC;unfold XE at h;split at h
  ·cases ‹p::l=[]›
  ·rename_i m y l' e;injection e with f g
   subst f;subst g;split at h
   ·rename_i i;subst i;obtain⟨rfl,_⟩:=d.w8;obtain⟨n,rfl,j⟩:=gg h b;exact⟨n,rfl,by simp only[List.foldlM_cons,vQ,Builtin.max2,WL,ku];exact j⟩
   ·cases h
  ·cases h
theorem NJ(hi:Inv P w S G Y Z){ts:Array TypeId}{ty:TypeId}{xs:zb}{x:O}{us:Array Value}(h:Nx xs=some x)(c:Zip (qf w S G Z) xs us.toList):QG dr P w Y Z S G x Y Z ((Builtin.min_ ts ty us).run P w):=by
 unfold Nx at h;split at h
 ·rename_i k y l;obtain⟨u,d,a,e,b⟩:=c.jC;obtain⟨rfl,_⟩:=e.w8;obtain⟨n,rfl,f⟩:=gf (P:=P) h b;exact qt (v:=_) hi (by simp only[Builtin.min_,a];exact f) (xw _ rfl)
 ·cases h
theorem NK(hi:Inv P w S G Y Z){ts:Array TypeId}{ty:TypeId}{xs:zb}{x:O}{us:Array Value}(h:Ny xs=some x)(c:Zip (qf w S G Z) xs us.toList):QG dr P w Y Z S G x Y Z ((Builtin.max_ ts ty us).run P w):=by
 unfold Ny at h;split at h
 ·rename_i k y l;obtain⟨u,d,a,e,b⟩:=c.jC;obtain⟨rfl,_⟩:=e.w8;obtain⟨n,rfl,f⟩:=gg (P:=P) h b;exact qt (v:=_) hi (by simp only[Builtin.max_,a];exact f) (xw _ rfl)
 ·cases h
theorem rG:∀(l:List Value) (k off:Nat) (a:Array Value),off+k+l.length<=a.size ->
  ((l.zipIdx k).foldl (fun(cs:Array Value) (p:Value×Nat)=>cs.setIfInBounds (off+p.2) p.1) a).size=a.size /\
  ∀i:Nat,((l.zipIdx k).foldl (fun(cs:Array Value) (p:Value×Nat)=>cs.setIfInBounds (off+p.2) p.1) a)[i]?=if off+k<=i/\i<off+k+l.length then l[i-(off+k)]? else a[i]?
 |[],k,off,a,h=>by simp;omega
 |x::l,k,off,a,h=>by
  simp only[zO]at h;obtain⟨c,e⟩:=rG l (k+1) off (a.setIfInBounds (off+k) x) (by simp;omega);simp only[List.zipIdx_cons,xK];refine⟨by rw[c];simp,fun i=>?_⟩;rw[e];by_cases b:off+(k+1)<=i/\i<off+(k+1)+l.length
  ·rw[zd b,zd ⟨by omega,by simp;omega⟩];obtain⟨d,rfl⟩:∃d,i=off+(k+1)+d:=⟨i-(off+(k+1)),by omega⟩;rw[show off+(k+1)+d-(off+(k+1))=d from by omega,show off+(k+1)+d-(off+k)=d+1 from by omega];simp
  ·rw[zc b];by_cases f:i=off+k
   ·subst f;have hs:(a.setIfInBounds (off+k) x)[off+k]?=some x:=by rw[Array.getElem?_setIfInBounds_self_of_lt (by omega)]
    rw[zd ⟨by omega,by simp⟩,hs];simp
   ·rw[zc (by simp;omega),fW (by omega)]
theorem HC{u:Value}{off:Nat}{cells:Array Value}(h:off+u.cells.size<=cells.size) :
  (u.cells.zipIdx.foldl (fun cs (c,j)=>cs.setIfInBounds (off+j) c) cells).size=cells.size /\
  ∀i:Nat,(u.cells.zipIdx.foldl (fun cs (c,j)=>cs.setIfInBounds (off+j) c) cells)[i]?=if off<=i/\i<off+u.cells.size then u.cells[i-off]? else cells[i]?:=by
 have:=rG u.cells.toList 0 off cells (by simpa using h);simp only[QE,wC,ia]at this;rw[<-Array.foldl_toList,Array.toList_zipIdx];exact this
theorem lJ{a:Nat->Option (Nat×Nat)}:∀{q:List (Nat×O)} {vs:List (Nat×Value)} {cs d:zb} {cells:Array Value},qB a cs q=some d ->
  Zip (fun p v=>p.1=v.1/\qf w S G Z p.2 v.2) q vs->cs.length=cells.size->(∀(j:Nat) (f:O) (u:Value),cs[j]?=some f->cells[j]?=some u->qf w S G Z f u) ->
  ∃b,Instr.fill a cells vs=some b/\d.length=b.size/\∀(j:Nat) (f:O) (u:Value),d[j]?=some f->b[j]?=some u->qf w S G Z f u
 |[],vs,cs,d,cells,h,r,s,t=>by
  simp only[qB]at h;injection h with h
  subst h;rw[r.WO];exact⟨cells,rfl,s,t⟩
 |(i,x)::q,vs,cs,d,cells,h,r,s,t=>by
  obtain⟨⟨i',u⟩,k,rfl,⟨e,A⟩,y⟩:=r.jC;simp only at e A;subst e;simp only[qB]at h;split at h
  ·rename_i off n Y;split at h
   ·rename_i C;obtain⟨B,D,E⟩:=C;obtain⟨F,H⟩:=ek A E;have z:u.cells.size=n:=by rw[<-F,B]
    obtain⟨I,J⟩:=HC (u:=u) (off:=off) (cells:=cells) (by omega);have g:Instr.fill a cells ((i,u)::k)=Instr.fill a (u.cells.zipIdx.foldl (fun cs (c,j)=>cs.setIfInBounds (off+j) c) cells) k:=by
     have K:¬(off+n>cells.size):=by omega
     simp[Instr.fill,Y,z];omega
    rw[g];refine lJ h y (by rw[WR,I,s]) (fun j f v l m=>?_);rw[Kk _ _ _ _ (by rw[B];exact D)]at l;rw[J]at m;by_cases o:off<=j/\j<off+u.cells.size
    ·rw[zd o]at m;rw[zd (by omega)]at l;exact(H (j-off) f v l m).1
    ·rw[zc o]at m;rw[zc (by omega)]at l;exact t j f v l m
   ·cases h
  ·cases h
theorem ep{d:Operand->Option O}{a:Operand->Value}(b:∀y e,d y=some e->qf w S G Z e (a y)):∀{l:List (Nat×Operand)} {c:List (Nat×O)},vn d l=some c ->
  Zip (fun(p:Nat×O) (v:Nat×Value)=>p.1=v.1/\qf w S G Z p.2 v.2) c (l.map fun(i,x)=>(i,a x))
 |[],c,h=>by
  simp only[vn]at h;injection h with h
  subst h;exact .nil
 |(i,x)::l,c,h=>by
  simp only[vn]at h;split at h
  ·rename_i p r Y f;injection h with h
   subst h;exact .cons ⟨rfl,b _ _ Y⟩ (ep b f)
  ·cases h
theorem EY(hi:Inv P w S G Y Z){t:TypeId}{k:List (Nat×O)}{vs:Array (Nat×Value)}{x:O}(h:z8 P t k=some x)(K:Zip (fun p v=>p.1=v.1/\qf w S G Z p.2 v.2) k vs.toList) :
  QG dr P w Y Z S G x Y Z ((Instr.build t vs).run P w):=by
 unfold z8 at h;split at h
 ·rename_i L z g o;obtain⟨i,q,r,s,y⟩:=Qk o;obtain⟨A,B⟩:=jg (w:=w) (S:=S) y;cases b:qB (fun i=>L[i]?) z k with
  |none=>simp[b]at h
  |some C=>
   simp[b]at h;subst h;obtain⟨a,D,E,F⟩:=lJ b K (cells:=q.cells) (by rw[A];simp) (fun j H u I d=>.c (B j H u I (by simpa using d)).1);have J:P.built t vs.toList=some a:=by
    unfold ZO at g;split at g
    ·rename_i M d;unfold Program.built;simp only[r,d,s,g];simpa using D
    ·cases g
   exact qt (v:=_) hi (run_build w t vs a J) (.agg E F)
 ·rename_i z g o;split at h
  ·rename_i m e d;split at h
   ·rename_i n l;obtain⟨i,q,r,s,y⟩:=Qk o;obtain⟨A,B⟩:=jg (w:=w) (S:=S) y;cases b:qB (fun i=>some (i*n,n)) z k with
    |none=>simp[b]at h
    |some C=>
     simp[b]at h;subst h;obtain⟨a,D,E,F⟩:=lJ b K (cells:=q.cells) (by rw[A];simp) (fun j H u I d=>.c (B j H u I (by simpa using d)).1);have J:P.built t vs.toList=some a:=by
      unfold Program.built;unfold qz at l;cases f:P.info? e with
      |none=>simp[f]at l
      |some N=>simp only[f,zC,z6]at l;simp only[r,d,s,f,l];exact D
     exact qt (v:=_) hi (run_build w t vs a J) (.agg E F)
   ·cases h
  ·cases h
 ·cases h
theorem Y8:∀{c a:List (Nat×O)} {Y Y1:Hp} {S:Nat->Prop} {vs:List (Nat×Value)} (_:Inv P w S G Y Z),zo Y c=some (a,Y1) ->
  Zip (fun p v=>p.1=v.1/\qf w S G Z p.2 v.2) c vs->∃g,kx dr P Y Z S G w Y1 Z g G w/\Zip (fun p v=>p.1=v.1/\wJ w g p.2 v.2) a vs
 |[],a,Y,Y1,S,vs,hi,h,d=>by
  simp only[zo]at h;injection h with h
  injection h with j k;subst j;subst k;rw[d.WO];exact⟨S,.refl hi,.nil⟩
 |(i,x)::c,a,Y,Y1,S,vs,hi,h,d=>by
  obtain⟨⟨i',u⟩,o,rfl,⟨e,l⟩,f⟩:=d.jC;simp only at e l;simp only[zo]at h;split at h
  ·rename_i y j q;split at h
   ·rename_i r k s;injection h with h
    injection h with t z;subst t;subst z;obtain⟨A,b,B,_⟩:=kN (dr:=dr) hi q l;have C:=b.same hi;obtain⟨D,m,E⟩:=Y8 (S:=A) b.inv s (f.imp fun x u n=>⟨n.1,n.2.mono C (zf _) (fun _ _=>rfl)⟩);exact⟨D,b.trans m,.cons ⟨e,B.mono (m.same b.inv)⟩ E⟩
   ·cases h
  ·cases h
theorem EZ{y:O}{u:Value}(h:wJ w S y u)(a:y.cells.all O.wZ=true):y.cells.length=u.cells.size/\∀(j:Nat) (d:O) (c:Value),y.cells[j]?=some d->u.cells[j]?=some c->wJ w S d c/\c.oneCell'=true:=by
 by_cases e:∃cs,y=.agg cs
 ·obtain⟨cs,rfl⟩:=e;cases h with
  |agg k l=>refine⟨k,fun j d c b f=>?_⟩;have g:=l j d c b f;refine⟨g,g.Va ?_⟩;simp only[O.cells]at a b;exact zV.1 a d (zG b)
 ·have m:y.cells=[y]:=by cases y<;>first|rfl|exact(e ⟨_,rfl⟩).elim
  rw[m]at a⊢;have hi:y.wZ=true:=by simpa using a
  have i:=h.Va hi;have f:u.cells=#[u]:=by cases u<;>first|rfl|simp[Value.oneCell']at i
  rw[f];refine⟨rfl,fun j d c b a=>?_⟩;cases j with
  |zero=>simp at b a;subst b;subst a;exact⟨h,i⟩
  |succ j=>simp at b
theorem cq{n:Nat}:∀{t:List (Nat×O)} {vs:List (Nat×Value)} {es d:List zb} {cells:Array Value},zE n es t=some d->Zip (fun p v=>p.1=v.1/\wJ w S p.2 v.2) t vs ->
  es.length*n=cells.size->(∀c∈es,c.length=n)->(∀(i j:Nat) (c:zb) (f:O),es[i]?=some c->c[j]?=some f->∃u,cells[i*n+j]?=some u/\wJ w S f u/\u.oneCell'=true) ->
  ∃a,Instr.fill (fun i=>some (i*n,n)) cells vs=some a/\d.length=es.length/\a.size=cells.size/\(∀c∈d,c.length=n) /\
   ∀(i j:Nat) (c:zb) (f:O),d[i]?=some c->c[j]?=some f->∃u,a[i*n+j]?=some u/\wJ w S f u/\u.oneCell'=true
 |[],vs,es,d,cells,h,y,D,r,z=>by
  simp only[zE]at h;injection h with h
  subst h;rw[y.WO];exact⟨cells,rfl,rfl,rfl,r,z⟩
 |(i,x)::t,vs,es,d,cells,h,y,D,r,z=>by
  obtain⟨⟨i',u⟩,l,rfl,⟨e,E⟩,A⟩:=y.jC;simp only at e E;subst e;simp only[zE]at h;split at h
  ·rename_i B;obtain⟨C,F,I⟩:=B;obtain⟨J,K⟩:=EZ E I;have m:u.cells.size=n:=by rw[<-J,C]
   have G:i*n+n<=cells.size:=by have:(i+1)*n<=es.length*n:=zK _ F;rw[qI]at this;omega
   obtain⟨H,L⟩:=HC (u:=u) (off:=i*n) (cells:=cells) (by omega);have g:Instr.fill (fun i=>some (i*n,n)) cells ((i,u)::l)=Instr.fill (fun i=>some (i*n,n)) (u.cells.zipIdx.foldl (fun cs (c,j)=>cs.setIfInBounds (i*n+j) c) cells) l:=by simp[Instr.fill,m];omega
   rw[g];obtain⟨a,M,N,P,Q,R⟩:=cq h A (cells:=u.cells.zipIdx.foldl (fun cs (c,j)=>cs.setIfInBounds (i*n+j) c) cells) (by rw[H];simpa using D) (fun c B=>by
     rcases vH B with h|h
     ·exact r c h
     ·subst h;exact C) (fun i' j c f b s=>by
     rw[L];by_cases k:i'=i
     ·subst k;rw[ve F]at b;injection b with b
      subst b;have o:j<n:=by rw[<-C];exact(zi.1 s).1
      rw[zd ⟨by omega,by omega⟩,show i'*n+j-i'*n=j from by omega];have q:j<u.cells.size:=by omega
      have T:=K j f u.cells[j] s (by simp[q]);exact⟨u.cells[j],by simp[q],T⟩
     ·rw[yH (fun e=>k e.symm)]at b;have o:j<n:=by rw[<-r c (zG b)];exact(zi.1 s).1
      have:=lD o k 0 n (by omega);rw[zc (by rw[m];simpa using this)];exact z i' j c f b s)
   exact⟨a,M,by rw[N];simp,by rw[P,H],Q,R⟩
  ·cases h
theorem ig(hi:Inv P w S G Y Z){t:TypeId}{len:Nat}{H:List (Nat×O)}{vs:Array (Nat×Value)}{x:O}{I:Hp}{J:Nat}(h:zp P Y Z t len H=some (x,I,J))(T:Zip (fun p v=>p.1=v.1/\qf w S G Z p.2 v.2) H vs.toList) :
  QG dr P w Y Z S G x I J ((Instr.buildSlice t len vs).run P w):=by
 unfold zp at h;split at h
 ·rename_i e K;split at h
  ·rename_i n z qs Y1 q W X;split at h
   ·rename_i r;obtain⟨s,y,c3⟩:=r;split at h
    ·rename_i es A;injection h with h
     injection h with ex h;injection h with eh en;subst ex;subst eh;subst en;obtain⟨i,f,i1,i2,i3⟩:=Qk W;obtain⟨z1,z2⟩:=jg (w:=w) (S:=S) i3;have B:f.cells.size=n:=by rw[<-y,z1];simp
     obtain⟨S1,C,q1⟩:=Y8 (dr:=dr) hi X T;obtain⟨a,L,g2,M,g4,g5⟩:=cq (w:=w) A q1 (cells:=madeCells f.cells (len*n)) (by simp[size_madeCells]) (fun c r=>by rw[(List.mem_replicate.1 r).2];exact y) (fun i' j c D d o=>by
      have g:i'<len:=by have:=(zi.1 d).1;simpa using this
      rw[WM,zd g]at d;injection d with d
      subst d;have E:j<n:=by rw[<-y];exact(zi.1 o).1
      have k:j<f.cells.size:=by omega
      rw[A8 B g E];have N:=z2 j D f.cells[j] o (by simp[k]);exact⟨f.cells[j],by simp[k],N.1.mono (C.same (dr:=dr) hi),N.2.1⟩)
     have F:es.length=len:=by rw[g2];simp
     have k2:=kx.alloc (dr:=dr) C.inv a e true es n s (by simpa[qz]using q) g4 (by rw[M,size_madeCells,F];exact zf _) (fun i' j c D d o=>by obtain⟨u,u1,Q,u3⟩:=g5 i' j c D d o;exact⟨u,u1,fun _=>Q,.c Q,u3⟩)
     have R:¬(len*n>2 ^ 24):=by simp;omega
     refine⟨.slice (some ⟨w.heap.size,0,none⟩) len len,_,_,_,?_,C.trans k2,?_⟩
     ·by_cases l:len*n=0
      ·have hl0:len=0:=by
        rcases Nat.mul_eq_zero.1 l with h|h
        ·exact h
        ·omega
       have b:Instr.fill (fun i=>some (i*n,n)) ((Array.range (len*n)).map ((#[]:Array Value)[· % (#[]:Array Value).size]!)) vs.toList=some a:=by rw[<-L];congr 1;rw[l];simp[madeCells]
       simp[Instr.buildSlice,zA (kO K),yc q,l,newRow];simp[l]at b;simp[b]
      ·have b:Instr.fill (fun i=>some (i*n,n)) ((Array.range (len*n)).map (f.cells[· % f.cells.size]!)) vs.toList=some a:=L;simp[Instr.buildSlice,zA (kO K),yc q,l,newRow,Wd i1 i2,b];omega
     ·have m:len<=maxLen:=by have:len*1<=len*n:=Nat.mul_le_mul_left _ s;simp only[maxLen];omega
      have:=qf.own (w:=w.alloc (.cells a e)) (S:=S1) (G:=qv G Z ⟨w.heap.size,a.size,n⟩) (Z:=Z+1) (id:=Z) (off:=0) (n:=len) (cap:=len) (by omega) (zf _) m (by simp[M,size_madeCells]) (by simpa using s);simpa using this
    ·cases h
   ·cases h
  ·cases h
 ·cases h
end
variable{dr:Prop}
section
variable{P:Program}{w:World}{S:Nat->Prop}{G:Nat->GI}{Y:Hp}{Z:Nat}
theorem IX(hi:Inv P w S G Y Z){t t' ty:TypeId}{d x y:O}{Y':Hp}{Z':Nat}{u v:Value}(h:HA P Y Z t d x=some (y,Y',Z'))(hd:qf w S G Z d u)(hx:qf w S G Z x v) :
  QG dr P w Y Z S G y Y' Z' ((Builtin.copy_ #[t,t'] ty #[u,v]).run P w):=by
 unfold HA at h;split at h
 ·rename_i e id off k he;split at h
  ·rename_i b n hb hn;split at h
   ·rename_i xs hv;split at h
    ·rename_i hc;obtain⟨c1,c2,c3,c4⟩:=hc;injection h with h
     injection h with ey h;injection h with eh en;subst ey;subst eh;subst en;have a:=hd.xh;obtain⟨cap,g1,g2,g3,g4,rfl⟩:=hd.vK;obtain⟨A,c,f,rfl,R,f2⟩:=Kn hi hv hx;have l:=hi.live id b hb;obtain⟨r,q1,q2,q3⟩:=l.row a;have T:=kO he;have p:(G id).s=n:=by
      have q:=l.size a;rw[c2]at q;have z:(P.info? e).map (·.size)=some n:=by simpa[qz]using hn
      rw[z]at q;injection q with q
      exact q.symm
     have K:Nat.min xs.length k=min xs.length k:=rfl;have W:min xs.length k<=xs.length:=Nat.min_le_left _ _;have hmk:min xs.length k<=k:=Nat.min_le_right _ _;generalize hm:min xs.length k=m at *;have F:=XG c4 R f2;have hmn:m*n<=xs.length*n:=zK _ W;have B:(Builtin.firstCells n m (.slice A xs.length c)).run P w=.ok ((List.range (m*n)).map f).toArray w:=by
      by_cases h0:m=0
      ·subst h0;cases A<;>simp[Builtin.firstCells,loadCells,loadCellsFrom]
      ·obtain⟨ad,rfl,_,_⟩:=F 0 (Nat.mul_pos (by omega) c4);have:=run_loadCells_list (P:=P) w ad ((List.range (m*n)).map f) (fun j u C=>by
        have X:j<m*n:=by have:=(zi.1 C).1;simpa using this
        obtain⟨ad',e1,e2,_⟩:=F j (by omega);injection e1 with e1;subst e1;rw[qo,jZ X]at C;simp at C;rw[e2,C])
       simpa[Builtin.firstCells]using this
     have D:off*n+m*n<=r.size:=by rw[q2];have q:(off+m)*n<=b.es.length*n:=zK _ (by omega);have z:=l.fit a;rw[p]at z;rw[qI]at q;omega
     have L:=run_storeCells_at P (G id).g (off*n) b.e ((List.range (m*n)).map f) 0 r w q1 (by simpa using D) (fun u T=>by obtain⟨k,hk,rfl⟩:=qj.1 T;exact(F k (by have:=yj.1 hk;omega)).choose_spec.2.2)
     simp only[QE]at L;have M:((List.range (m*n)).map f).length=m*n:=by simp
     have N:off*n+((List.range (m*n)).map f).length<=r.toList.length:=by simpa using D
     have k2:=kx.set (dr:=dr) hi hb a (r.toList.take (off*n)++(List.range (m*n)).map f++r.toList.drop (off*n+((List.range (m*n)).map f).length)).toArray (b.es.take off++xs.take m++b.es.drop (off+m))
      (by rw[jv,We _ _ _ N];simpa using q2)
      (fun E Q=>by
       rw[qM]at Q;rcases zM.1 Q with h|h
       ·exact l.len a E (K6 _ _ h)
       ·rcases zM.1 h with h|h
        ·rw[p];exact R E (K6 _ _ h)
        ·exact l.len a E (WK _ _ h))
      (by
       have q:=l.fit a;have:(b.es.take off++xs.take m++b.es.drop (off+m)).length=b.es.length:=by simp;omega
       rw[this];exact q)
      (fun i' j E pv o C=>by
       have H:(xs.take m).length=m:=by simp;omega
       rw[show off+m=off+(xs.take m).length from by rw[H],vo _ _ _ _ (by rw[H];omega),H]at o;rw[List.getElem?_toArray,vo _ _ _ _ N,M,p];by_cases I:off<=i'/\i'<off+m
       ·rw[zd I,qu,zd (by omega)]at o;have J:j<n:=by rw[<-R E (zG o)];exact(zi.1 C).1
        have q:off*n<=i'*n:=zK _ I.1;have z:=kR (i:=i'-off) (n:=m) (by omega) J;have h7:i'*n+j-off*n=(i'-off)*n+j:=by rw[Nat.sub_mul];omega
        rw[zd ⟨by omega,by rw[Nat.sub_mul]at z;omega⟩,h7,qo,jZ z];obtain⟨ad',a1,a2,a3⟩:=f2 (i'-off) j E pv o C;refine⟨f ((i'-off)*n+j),rfl,?_⟩;rw[c1];exact a3
       ·rw[zc I]at o;have J:j<n:=by rw[<-p,<-l.len a E (zG o)];exact(zi.1 C).1
        have:¬(off*n<=i'*n+j/\i'*n+j<off*n+m*n):=by
         by_cases q:i'<off
         ·have z:=kR (n:=off) q J;omega
         ·have z:off+m<=i':=by omega
          have h7:(off+m)*n<=i'*n:=zK _ z;rw[qI]at h7;omega
        rw[zc this];obtain⟨u',u1,u2⟩:=q3 i' j E pv o C;rw[p]at u1;exact⟨u',by simpa using u1,u2⟩)
     rw[c1]at k2;refine⟨.int .i64 m,_,_,_,?_,k2,xw _ rfl⟩;simp[Builtin.copy_,zA T,Builtin.lenOf,yc hn,K,B,p,L,goInt]
    ·cases h
   ·cases h
  ·cases h
 ·cases h
theorem NL{ts:Array TypeId}{us:Array Value}{t:TypeId}{u:Value}(ty:TypeId)(a:ts[0]?=some t)(b:us[0]?=some u):Builtin.clear_ ts ty us=Builtin.clear_ #[t] ty #[u]:=by simp[Builtin.clear_,a,b]
theorem E0(hi:Inv P w S G Y Z){t ty:TypeId}{x y:O}{R:Hp}{T:Nat}{v:Value}(h:ej P Y Z t x=some (y,R,T))(hd:qf w S G Z x v) :
  QG dr P w Y Z S G y R T ((Builtin.clear_ #[t] ty #[v]).run P w):=by
 unfold ej at h;split at h
 ·rename_i e id off k he;split at h
  ·rename_i b n z W hn hz;split at h
   ·rename_i hc;obtain⟨c0,c1,c2,c3,c4⟩:=hc;subst c0;injection h with h
    injection h with ey h;injection h with eh en;subst ey;subst eh;subst en;have a:=hd.xh;obtain⟨cap,g1,g2,g3,g4,rfl⟩:=hd.vK;have f:=hi.live id b W;obtain⟨m,q1,X,q3⟩:=f.row a;have K:=kO he;have l:(G id).s=1:=by
     have r:=f.size a;rw[c2]at r;have L:(P.info? e).map (·.size)=some 1:=by simpa[qz]using hn
     rw[L]at r;injection r with r
     exact r.symm
    obtain⟨i,J,i1,i2,i3⟩:=Qk hz;obtain⟨z1,z2⟩:=jg (w:=w) (S:=S) i3;have M:J.cells.size=1:=by have:=z1;simp at this;omega
    obtain⟨o,B⟩:∃o,J.cells=#[o]:=⟨J.cells[0],by
     apply Array.ext';apply List.ext_getElem
     ·simp[M]
     ·intro j h1 N;have:j=0:=by simp at N;exact N
      subst this;simp⟩
    obtain⟨r1,r2,_⟩:=z2 0 z o rfl (by simp[B]);have p:(Builtin.zeroCells J.cells k).toList=List.replicate k o:=by
     rw[B];apply List.ext_getElem
     ·simp[Builtin.zeroCells]
     ·intro j h1 N;simp[Builtin.zeroCells,Nat.mod_one]
    have q:off+k<=m.size:=by rw[X];have L:=f.fit a;rw[l]at L;omega
    have C:=run_storeCells_at P (G id).g off b.e (List.replicate k o) 0 m w q1 (by simpa using q) (fun u K=>by rw[List.eq_of_mem_replicate K];exact r2);simp only[QE]at C;have D:off+(List.replicate k o).length<=m.toList.length:=by simpa using q
    have k2:=kx.set (dr:=dr) hi W a (m.toList.take off++List.replicate k o++m.toList.drop (off+(List.replicate k o).length)).toArray (b.es.take off++List.replicate k [z]++b.es.drop (off+k))
     (by rw[jv,We _ _ _ D];simpa using X)
     (fun E F=>by
      rw[qM]at F;rcases zM.1 F with h|h
      ·exact f.len a E (K6 _ _ h)
      ·rcases zM.1 h with h|h
       ·rw[l,List.eq_of_mem_replicate h];rfl
       ·exact f.len a E (WK _ _ h))
     (by
      have r:=f.fit a;have:(b.es.take off++List.replicate k [z]++b.es.drop (off+k)).length=b.es.length:=by simp;omega
      rw[this];exact r)
     (fun i' j E pv d H=>by
      have A:(List.replicate k [z]).length=k:=by simp
      rw[show off+k=off+(List.replicate k [z]).length from by rw[A],vo _ _ _ _ (by rw[A];omega),A]at d;rw[List.getElem?_toArray,vo _ _ _ _ D,l,List.length_replicate];by_cases I:off<=i'/\i'<off+k
      ·rw[zd I,WM,zd (by omega)]at d;injection d with d
       subst d;have Q:j=0:=by have:=(zi.1 H).1;simp at this;omega
       subst Q;simp at H;subst H;rw[zd (by omega),WM,zd (by omega)];exact⟨o,rfl,fun _=>r1,.c r1,r2⟩
      ·rw[zc I]at d;have hjn:j<1:=by rw[<-l,<-f.len a E (zG d)];exact(zi.1 H).1
       rw[zc (by omega)];obtain⟨u',u1,u2⟩:=q3 i' j E pv d H;rw[l]at u1;exact⟨u',by simpa using u1,u2⟩)
    rw[c1]at k2;refine⟨.tuple #[],_,_,_,?_,k2,.c (.wG rfl (by simp))⟩;obtain⟨k',rfl⟩:∃k',k=k'+1:=⟨k-1,by omega⟩;simp[Builtin.clear_,zA K,Wd i1 i2,p,l,C]
   ·cases h
  ·cases h
 ·cases h
theorem Z8{c:Operand->Option O}{a:Operand->Value}(b:∀y f,c y=some f->qf w S G Z f (a y)):∀{l:List Operand} {xs:zb},ya (l.map c)=some xs->Zip (qf w S G Z) xs (l.map a)
 |[],xs,h=>by
  simp only[K7,ya]at h;injection h with h
  subst h;exact .nil
 |x::l,xs,h=>by
  simp only[we]at h;cases d:c x with
  |none=>rw[d]at h;simp[ya]at h
  |some p=>
   rw[d]at h;simp only[ya]at h;cases e:ya (l.map c)with
   |none=>rw[e]at h;simp at h
   |some r=>rw[e]at h;simp at h;subst h;exact .cons (b _ _ d) (Z8 b e)
def kq(dr:Prop)(P:Program)(g:FuncId)(a:AM.Spec):Prop:=
 (∃fn,P.funcs[g]?=some fn/\(fn.name== "runtime.NumGoroutine")=false/\fn.body.isNone=false) /\
 ∀(args:zb) (Y:Hp) (Z:Nat) (r:O) (c:Hp) (b:Nat),a args Y Z=some (r,c,b)->∀(w:World) (S:Nat->Prop) (G:Nat->GI) (vs:List Value),Inv P w S G Y Z->Zip (qf w S G Z) args vs ->
  Calls P g vs.toArray w fun e w'=>∃v d f,e=.returned v/\kx dr P Y Z S G w c b d f w'/\qf w' d f b r v
abbrev zg:=kq True
def zaR(dr:Prop)(P:Program)(w:World)(Y:Hp)(Z:Nat)(S:Nat->Prop)(G:Nat->GI)(x:O)(d:Hp)(c:Nat)(r:Result Next):Prop:=
 (∃v w' a b,(r=.ok (.value v) w'\/(r=.ok .skip w'/\v=undef))/\kx dr P Y Z S G w d c a b w'/\qf w' a b c x v) \/
 ∃g vs,r=.ok (.enter g vs) w/\Calls P g vs w fun e w'=>∃v a b,e=.returned v/\kx dr P Y Z S G w d c a b w'/\qf w' a b c x v
theorem QG.op{x:O}{a:Hp}{b:Nat}{s:Sem Value}(h:QG dr P w Y Z S G x a b (s.run P w)):zaR dr P w Y Z S G x a b ((do pure (.value (<-s)):Sem Next).run P w):=by obtain⟨v,w',c,d,e,f,g⟩:=h;exact .inl ⟨v,w',c,d,.inl (by simp[e]),f,g⟩
theorem zbO{ts:Array TypeId}{us:Array Value}{t:TypeId}{u:Value}(ty:TypeId)(a:ts[0]?=some t)(b:us[0]?=some u):Builtin.len_ ts ty us=Builtin.len_ #[t] ty #[u]:=by simp[Builtin.len_,a,b]
theorem IY{ts:Array TypeId}{us:Array Value}{t t':TypeId}{u v:Value}(ty:TypeId)(a:ts[0]?=some t)(b:ts[1]?=some t')(c:us[0]?=some u)(d:us[1]?=some v):Builtin.append_ ts ty us=Builtin.append_ #[t,t'] ty #[u,v]:=by simp[Builtin.append_,a,b,c,d]
theorem Tc{ts:Array TypeId}{us:Array Value}{t:TypeId}{u v:Value}(ty:TypeId)(a:ts[0]?=some t)(b:us[0]?=some u)(c:us[1]?=some v):Builtin.copy_ ts ty us=Builtin.copy_ #[t,t] ty #[u,v]:=by simp[Builtin.copy_,a,b,c]
theorem Yk{α a:Type}{R:α->a->Prop}{x:α}{us:List a}(h:Zip R [x] us):∃u,us=[u]/\R x u:=by obtain⟨u,b,rfl,c,d⟩:=h.jC;rw[d.WO];exact⟨u,rfl,c⟩
theorem HD{α a:Type}{R:α->a->Prop}{x y:α}{us:List a}(h:Zip R [x,y] us):∃u v,us=[u,v]/\R x u/\R y v:=by obtain⟨u,b,rfl,c,d⟩:=h.jC;obtain⟨v,rfl,e⟩:=Yk d;exact⟨u,v,rfl,c,e⟩
theorem Zip.append{α c:Type}{R:α->c->Prop}{xs ys:List α}{us vs:List c}(h:Zip R xs us)(k:Zip R ys vs):Zip R (xs++ys) (us++vs):=by
 refine⟨by simp[h.1,k.1],fun j x u a b=>?_⟩;by_cases d:j<xs.length
 ·rw[zY d]at a;rw[zY (by rw[<-h.1];exact d)]at b;exact h.2 j x u a b
 ·rw[zS (by omega)]at a;rw[zS (by rw[<-h.1];omega),<-h.1]at b;exact k.2 _ x u a b
theorem zZ{α a:Type}{o:Option α}{f:α->a}{y:a}(h:o.map f=some y):∃x,o=some x/\f x=y:=by
 cases o with
 |none=>simp at h
 |some x=>exact⟨x,rfl,by simpa using h⟩
end
theorem cr{C:Ctx}{w:World}{S:Nat->Prop}{G:Nat->GI}{Y:Hp}{Z:Nat}(hΓ:∀g L,C.Γ g=some L->kq dr C.P g L)(hi:Inv C.P w S G Y Z)
  {ρ:Operand->Option O} {a:Operand->Value} (d:∀y pv,ρ y=some pv->qf w S G Z pv (a y)) {o:Oper} {x:O} {Y':Hp} {Z':Nat} (h:zX C ρ Y Z o.op=some (x,Y',Z')) :
  zaR dr C.P w Y Z S G x Y' Z' ((execOp a o).run C.P w):=by
 have A:∀{f:O} {y:O},(f,Y,Z)=(y,Y',Z')->f=y/\Y=Y'/\Z=Z':=by
  intro f y h;injection h with K h
  injection h with N Q;exact⟨K,N,Q⟩
 unfold zX at h;unfold execOp;split at h
 ·rename_i y B;obtain⟨p,D,F⟩:=zZ h;obtain⟨rfl,rfl,rfl⟩:=A F;simp only[B];exact .inl ⟨a y,w,S,G,.inl rfl,.refl hi,d _ _ D⟩
 ·rename_i y B;obtain⟨p,D,F⟩:=zZ h;obtain⟨rfl,rfl,rfl⟩:=A F;simp only[B];exact .inl ⟨a y,w,S,G,.inl rfl,.refl hi,d _ _ D⟩
 ·rename_i c y z B;simp only[B];split at h
  ·rename_i W;obtain⟨p,D,F⟩:=zZ h;obtain⟨rfl,rfl,rfl⟩:=A F;obtain⟨e,_⟩:=(d _ _ W).w8;exact .inl ⟨a y,w,S,G,.inl (by simp[e,asBool]),.refl hi,d _ _ D⟩
  ·rename_i W;obtain⟨p,D,F⟩:=zZ h;obtain⟨rfl,rfl,rfl⟩:=A F;obtain⟨e,_⟩:=(d _ _ W).w8;exact .inl ⟨a z,w,S,G,.inl (by simp[e,asBool]),.refl hi,d _ _ D⟩
  ·cases h
 ·rename_i t B;simp only[B];split at h
  ·rename_i n z D F;split at h
   ·rename_i hl;injection h with h
    injection h with K h;injection h with N Q;subst K;subst N;subst Q;exact(EP hi D F hl.1 hl.2).op
   ·cases h
  ·cases h
 ·rename_i t y B;simp only[B];split at h
  ·rename_i n p D F;split at h
   ·rename_i W;injection h with h
    injection h with K h;injection h with N Q;subst K;subst N;subst Q;exact(Nz hi D (d _ _ F) W.1 W.2.1 W.2.2).op
   ·cases h
  ·cases h
 ·rename_i t parts B;simp only[B];split at h
  ·rename_i ps hps;obtain⟨p,D,F⟩:=zZ h;obtain⟨rfl,rfl,rfl⟩:=A F;exact(EY hi D (by simpa using ep d hps)).op
  ·cases h
 ·rename_i t len parts B;simp only[B];split at h
  ·rename_i ps hps;exact(ig hi h (by simpa using ep d hps)).op
  ·cases h
 ·rename_i t y B;simp only[B];split at h
  ·rename_i p Y1;obtain⟨q,D,F⟩:=zZ h;obtain⟨rfl,rfl,rfl⟩:=A F;exact(rA hi D (d _ _ Y1)).op
  ·cases h
 ·rename_i t y z B;simp only[B];split at h
  ·rename_i p q D F;obtain⟨Y1,I,H⟩:=zZ h;injection H with K H
   injection H with N Q;subst K;subst N;subst Q;obtain⟨w',S',G',r1,r2⟩:=ER hi I (d _ _ D) (d _ _ F);exact .inl ⟨undef,w',S',G',.inr ⟨by simp[r1],rfl⟩,r2,jL⟩
  ·cases h
 ·rename_i y B;simp only[B];split at h
  ·rename_i id i j hy;injection h with h
   obtain⟨rfl,rfl,rfl⟩:=A h;have hr:=d _ _ hy;obtain⟨D,F⟩:=hr.Wq;exact .inl ⟨a y,w,S,G,.inl (by rw[F];rfl),.refl hi,hr⟩
  ·rename_i cs hy;injection h with h
   obtain⟨rfl,rfl,rfl⟩:=A h;have hr:=d _ _ hy;have hr2:=hr;have W:=hr.Vb;generalize hay:a y=u at *;cases W with
   |ptr us D F=>exact .inl ⟨_,w,S,G,.inl rfl,.refl hi,hr2⟩
  ·cases h
 ·rename_i op t y z t2 B;simp only[B];split at h
  ·rename_i p q D F;obtain⟨r,I,H⟩:=zZ h;obtain⟨rfl,rfl,rfl⟩:=A H;exact(IP hi y z I (d _ _ D) (d _ _ F)).op
  ·cases h
 ·rename_i op t y B;simp only[B];split at h
  ·rename_i p D;obtain⟨r,I,H⟩:=zZ h;obtain⟨rfl,rfl,rfl⟩:=A H;exact(IQ hi I (d _ _ D)).op
  ·cases h
 ·rename_i src dst y B;simp only[B];split at h
  ·rename_i p D;obtain⟨r,I,H⟩:=zZ h;obtain⟨rfl,rfl,rfl⟩:=A H;exact(IU hi I (d _ _ D)).op
  ·cases h
 ·rename_i f first J B
  simp only[B];split at h
  ·rename_i xs ys D F;injection h with h
   obtain⟨rfl,rfl,rfl⟩:=A h;exact(o7 hi (by simpa using Z8 d D) (by simpa using Z8 d F)).op
  ·cases h
 ·rename_i t l c B;simp only[B];split at h
  ·rename_i p q D F;exact(lH hi h (d _ _ D) (d _ _ F)).op
  ·cases h
 ·rename_i t y lo hh B;simp only[B];split at h
  ·rename_i p D;obtain⟨r,I,H⟩:=zZ h;obtain⟨rfl,rfl,rfl⟩:=A H;have hd:∀o:Option Operand,o.map ρ=none->o.map a=none:=fun o h=>by cases o<;>simp_all
   have hs:∀(o:Option Operand) (p:O),o.map ρ=some (some p)->∃u,o.map a=some u/\qf w S G Z p u:=fun o p h=>by
    cases o with
    |none=>simp at h
    |some y=>exact⟨a y,rfl,d _ _ (by simpa using h)⟩
   exact(EV hi I (d _ _ D) (hd lo) (hs lo) (hd hh) (hs hh)).op
  ·cases h
 ·rename_i t y f B;simp only[B];split at h
  ·rename_i p D;obtain⟨r,I,H⟩:=zZ h;obtain⟨rfl,rfl,rfl⟩:=A H;exact(lE hi I (d _ _ D)).op
  ·cases h
 ·rename_i t y f B;simp only[B];split at h
  ·rename_i p D;obtain⟨r,I,H⟩:=zZ h;obtain⟨rfl,rfl,rfl⟩:=A H;exact(ES hi I (d _ _ D)).op
  ·cases h
 ·rename_i t y z B;simp only[B];split at h
  ·rename_i p q D F;obtain⟨r,I,H⟩:=zZ h;obtain⟨rfl,rfl,rfl⟩:=A H;exact(lF hi I (d _ _ D) (d _ _ F)).op
  ·cases h
 ·rename_i t y z B;simp only[B];split at h
  ·rename_i p q D F;obtain⟨r,I,H⟩:=zZ h;obtain⟨rfl,rfl,rfl⟩:=A H;exact(ET hi I (d _ _ D) (d _ _ F)).op
  ·cases h
 ·rename_i y i B;simp only[B];split at h
  ·rename_i vs D;obtain⟨r,I,H⟩:=zZ h;obtain⟨rfl,rfl,rfl⟩:=A H;exact(tw hi I (d _ _ D)).op
  ·cases h
 ·rename_i c B;simp only[B];obtain⟨callee,⟨E⟩,M⟩:=c;unfold xN at h;simp only at h;split at h
  ·rename_i xs R;have hz:=Z8 d R;split at h
   ·rename_i b;unfold yt at h;split at h
    ·split at h
     ·rename_i y t ht;obtain⟨u,hu1,hu2⟩:=Yk hz;obtain⟨r,I,H⟩:=zZ h;obtain⟨rfl,rfl,rfl⟩:=A H;have hd:=(NI (dr:=dr) (ty:=o.type) hi I hu2).op;rw[<-zbO (us:=(E.map a).toArray) o.type ht (by simp[hu1])]at hd;simpa[resolve,invoke,builtin,-bind_pure_comp]using hd
     ·cases h
    ·obtain⟨r,I,H⟩:=zZ h;obtain⟨rfl,rfl,rfl⟩:=A H;have hd:=(NJ (dr:=dr) (us:=(E.map a).toArray) (ts:=M) (ty:=o.type) hi I (by simpa using hz)).op;simpa[resolve,invoke,builtin,-bind_pure_comp]using hd
    ·obtain⟨r,I,H⟩:=zZ h;obtain⟨rfl,rfl,rfl⟩:=A H;have hd:=(NK (dr:=dr) (us:=(E.map a).toArray) (ts:=M) (ty:=o.type) hi I (by simpa using hz)).op;simpa[resolve,invoke,builtin,-bind_pure_comp]using hd
    ·split at h
     ·rename_i s y t t' ht ht';obtain⟨u,v,T,hu,hv⟩:=HD hz;have hd:=(A9 (dr:=dr) (ty:=o.type) hi h hu hv).op;rw[<-IY (us:=(E.map a).toArray) o.type ht ht' (by simp[T]) (by simp[T])]at hd;simpa[resolve,invoke,builtin,-bind_pure_comp]using hd
     ·cases h
    ·split at h
     ·rename_i s y t ht;obtain⟨u,v,T,hu,hv⟩:=HD hz;have hd:=(IX (dr:=dr) (t':=t) (ty:=o.type) hi h hu hv).op;rw[<-Tc (us:=(E.map a).toArray) o.type ht (by simp[T]) (by simp[T])]at hd;simpa[resolve,invoke,builtin,-bind_pure_comp]using hd
     ·cases h
    ·split at h
     ·rename_i y t ht;obtain⟨u,hu1,hu2⟩:=Yk hz;have hd:=(E0 (dr:=dr) (ty:=o.type) hi h hu2).op;rw[<-NL (us:=(E.map a).toArray) o.type ht (by simp[hu1])]at hd;simpa[resolve,invoke,builtin,-bind_pure_comp]using hd
     ·cases h
    ·cases h
   ·rename_i f;unfold jD at h;split at h
    ·rename_i g first J hf
     split at h
     ·rename_i L hg;obtain⟨⟨fn,f1,f2,f3⟩,X⟩:=hΓ g L hg;obtain⟨us,ts,K,l1,l2,r1,r2⟩:=(d _ _ hf).AR;have hz:Zip (qf w S G Z) (first++xs++J) (us.toList++E.map a++ts.toList):=
       (Zip.append ⟨by simpa using l1,fun j pv x p q=>r1 j pv x p (by simpa using q)⟩ (Z8 d R)).append ⟨by simpa using l2,fun j pv x p q=>r2 j pv x p (by simpa using q)⟩
      refine .inr ⟨g,(us.toList++E.map a++ts.toList).toArray,?_,X _ _ _ _ _ _ h w S G _ hi hz⟩;have f2':¬fn.name= "runtime.NumGoroutine":=by simpa using f2
      have f3':¬fn.body=none:=by intro h;simp[h]at f3
      have e5:(us.toList++E.map a++ts.toList).toArray=us++(E.map a).toArray++ts:=by apply Array.ext';simp
      rw[e5];simp[resolve,K,Deferred.ofValue,invoke,callFunc,f1,f2',f3']
     ·cases h
    ·cases h
   ·cases h
  ·cases h
 ·rename_i t B;simp only[B];split at h
  ·rename_i kt hk;injection h with h
   injection h with K h;injection h with N Q;subst K;subst N;subst Q;exact(tz hi t).op
  ·cases h
 ·rename_i t y z ok B;simp only[B];split at h
  ·rename_i p q D F;obtain⟨r,I,H⟩:=zZ h;obtain⟨rfl,rfl,rfl⟩:=A H;exact(Ba hi I (d _ _ D) (d _ _ F)).op
  ·cases h
 ·rename_i t m k y B;simp only[B];split at h
  ·rename_i p q r D F I;obtain⟨Y1,H,h5⟩:=zZ h;injection h5 with K h5
   injection h5 with N Q;subst K;subst N;subst Q;obtain⟨w',S',G',r1,r2⟩:=gd hi H (d _ _ D) (d _ _ F) (d _ _ I);exact .inl ⟨undef,w',S',G',.inr ⟨by simp[r1],rfl⟩,r2,jL⟩
  ·cases h
 ·rename_i t m k y B;simp only[B];split at h
  ·rename_i p q r D F I;obtain⟨Y1,H,h5⟩:=zZ h;injection h5 with K h5
   injection h5 with N Q;subst K;subst N;subst Q;obtain⟨w',S',G',r1,r2⟩:=gd hi H (d _ _ D) (d _ _ F) (d _ _ I);exact .inl ⟨undef,w',S',G',.inr ⟨by simp[r1],rfl⟩,r2,jL⟩
  ·cases h
 ·cases h
end Go.AM
