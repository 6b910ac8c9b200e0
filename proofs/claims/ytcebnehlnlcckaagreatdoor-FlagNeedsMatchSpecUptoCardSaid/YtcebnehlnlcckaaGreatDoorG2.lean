/- Lemmas. -/
import Derived.Maps.AppendAt
import Derived.Lib.AppendStr
import Derived.MapKept
import Derived.Test.YtcebnehlnlcckaaGreatDoorG1
set_option maxRecDepth 8000
open Go Proofs Proofs.YtcebnehlnlcckaaGreatDoor Proofs.Tryz RowKit AM SpanLaw Q Zz
namespace Go.AM
variable{dr:Prop}
section
variable{P:Program}{w:World}{S:Nat->Prop}{G:Nat->GI}{Y:Hp}{Z:Nat}
theorem de{o:Option (Option O)}{v:Option Value}{a n y:Nat}(code:BoundsCode)(h:kD a o=some n)(d:n<=y)(hd:o=none->v=none)(hs:∀p,o=some (some p)->∃u,v=some u/\qe w S G Z p u)(e:o≠some none) :
  (v=none/\n=a)\/∃k i,v=some (.int k i)/\(Instr.sliceBound (.int k i) y code).run P w=.ok n w:=by
 unfold kD at h;split at h
 ·injection h with h;exact .inl ⟨hd rfl,h.symm⟩
 ·rename_i k i;split at h
  ·rename_i b;injection h with h
   subst h;obtain⟨u,rfl,c⟩:=hs _ rfl;obtain⟨rfl,_⟩:=c.wX;refine .inr ⟨k,i,rfl,?_⟩;have:i<=y:=by omega
   simp[Instr.sliceBound,asIntOf,b,this]
  ·cases h
 ·cases h
theorem W6{isS:Bool}{len cap l h:Nat}{lo hi:Option (Option O)}{vl vh:Option Value}(c:kD 0 lo=some l)(g:kD len hi=some h)(a:l<=h)(b:h<=cap)
  (d:lo=none->vl=none) (e:∀p,lo=some (some p)->∃u,vl=some u/\qe w S G Z p u) (n1:lo≠some none)
  (j:hi=none->vh=none) (m:∀p,hi=some (some p)->∃u,vh=some u/\qe w S G Z p u) (n:hi≠some none) :
  (Instr.sliceBounds isS len cap vl vh none).run P w=.ok (l,h,cap) w:=by
 rcases de (P:=P) (if isS then .sliceAcap else .sliceAlen) g b j m n with⟨rfl,rfl⟩|⟨k,i,rfl,q⟩
 ·rcases de (P:=P) .sliceB c a d e n1 with⟨rfl,rfl⟩|⟨o,i',rfl,f⟩
  ·simp[Instr.sliceBounds]
  ·simp[Instr.sliceBounds,f]
 ·rcases de (P:=P) .sliceB c a d e n1 with⟨rfl,rfl⟩|⟨o,i',rfl,f⟩
  ·cases isS<;>simp_all[Instr.sliceBounds]
  ·cases isS<;>simp_all[Instr.sliceBounds]
theorem CR(hi:Inv P w S G Y Z){t:TypeId}{p x:O}{lo T:Option (Option O)}{vl vh:Option Value}{u:Value}(h:yG P Y t p lo T=some x)(D:qe w S G Z p u)
  (L:lo=none->vl=none) (M:∀p,lo=some (some p)->∃u,vl=some u/\qe w S G Z p u)
  (N:T=none->vh=none) (Q:∀p,T=some (some p)->∃u,vh=some u/\qe w S G Z p u):Qn dr P w Y Z S G x Y Z ((Instr.sliceAt t u vl vh none).run P w):=by
 have B:∀{d n:Nat} {o:Option (Option O)},kD d o=some n->o≠some none:=by rintro d n o h rfl;simp[kD]at h
 unfold yG at h;split at h
 ·rename_i s y;obtain⟨rfl,_⟩:=D.wX;split at h
  ·rename_i l k q r;split at h
   ·rename_i f;injection h with h
    subst h;have z:=W6 (P:=P) (isS:=false) (cap:=s.size) q r f.1 f.2 L M (B q) N Q (B r);exact qp (v:=.string (s.extract l k)) hi (by simp[Instr.sliceAt,zz y,Instr.slice,z]) (xD _ rfl)
   ·cases h
  ·cases h
 ·rename_i e s es y;split at h
  ·rename_i n l k a q r;split at h
   ·rename_i f;obtain⟨rfl,f⟩:=f;injection h with h
    subst h;cases D.bg with
    |sl us h0 h1 h2 h3 h4 h5=>
     rename_i A cap;have z:=W6 (P:=P) (isS:=true) (cap:=cap) q r f.1 (by omega) L M (B q) N Q (B r);have E:((es.drop l).take (k-l)).length=k-l:=by simp;omega
     have C:∀(i:Nat) (c:zb),((es.drop l).take (k-l))[i]?=some c->i<k-l/\es[l+i]?=some c:=by
      intro i c hi;rw[qt]at hi;split at hi
      ·rw[qK]at hi;exact⟨by assumption,hi⟩
      ·cases hi
     have F:wH w S (.sl s ((es.drop l).take (k-l))) (.slice (if cap=l then A else A.map (·.add (l*s))) ((es.drop l).take (k-l)).length (cap-l)):=by
      refine .sl (fun i j=>us (l+i) j) (fun W=>by have:A=none:=(by split at W<;>simp_all);have:=h0 this;omega) (by omega) (by omega) (fun c f=>h3 c (Wm _ _ (KG _ _ f))) (fun i j c X hi hj=>?_) (fun i j c X hi hj=>h5 _ j c X (C i c hi).2 hj);obtain⟨PI,hi'⟩:=C i c hi;obtain⟨ad,rfl,R,g2,g3⟩:=h4 (l+i) j c X hi' hj;rw[zd (by omega)];refine⟨ad.add (l*s),rfl,by rw[Qx];exact R,?_,g3⟩;rw[bj];have:l*s+(i*s+j)=(l+i)*s+j:=by rw[qQ];omega
      rw[this];exact g2
     rw[E]at F;exact qp (v:=_) hi (by simp[Instr.sliceAt,zz y,Instr.slice,z,ya a]) (.c F)
   ·cases h
  ·cases h
 ·rename_i e y;have:=D.Zd;subst this;split at h
  ·rename_i n l k a q r;split at h
   ·rename_i f;obtain⟨rfl,rfl⟩:=f;injection h with h
    subst h;have z:=W6 (P:=P) (isS:=true) (len:=0) (cap:=0) q r (zk _) (zk _) L M (B q) N Q (B r);exact qp (v:=.slice none 0 0) hi (by simp[Instr.sliceAt,zz y,Instr.slice,z,ya a]) (.c .nil)
   ·cases h
  ·cases h
 ·rename_i e id off n y;have H:=D.xk;obtain⟨cap,R,g2,g3,g4,rfl⟩:=D.vH;split at h
  ·rename_i m l k a q r;split at h;rename_i b hbl;split at h
   ·rename_i f;obtain⟨Th,f⟩:=f;injection h with h
    have z:=W6 (P:=P) (isS:=true) (cap:=cap) q r f.1 (by omega) L M (B q) N Q (B r);by_cases I:l=0
    ·subst I;simp only[qB]at h;subst h;refine qp (v:=.slice (some ⟨(G id).g,off*(G id).s,none⟩) k cap) hi ?_ (.own R (by omega) g3 g4 H);by_cases J:cap=0
     ·subst J;simp[Instr.sliceAt,zz y,Instr.slice,z,ya a]
     ·simp[Instr.sliceAt,zz y,Instr.slice,z,ya a,J,kg]
    ·rw[zd I]at h;by_cases K:k=l
     ·subst K;simp only[qB]at h;subst h;refine qp (v:=_) hi (by simp[Instr.sliceAt,zz y,Instr.slice,z,ya a];rfl) (.c ?_);exact .sl (es:=[]) (fun _ _=>undef) (fun W=>by split at W<;>simp_all) (by simp) (by omega) (by simp) (by simp) (by simp)
     ·rw[zd K]at h;subst h;have hcl:¬cap=l:=by omega
      refine qp (v:=.slice (some ⟨(G id).g,(off+l)*(G id).s,none⟩) (k-l) (cap-l)) hi ?_ (.own R (by omega) (by omega) ?_ H)
      ·have Tg:(G id).s=m:=by rw[<-(hi.live id b hbl).bs,Th]
       simp[Instr.sliceAt,zz y,Instr.slice,z,ya a,hcl,kg,Tg,qQ]
      ·rw[show off+l+(cap-l)=off+cap from by omega];exact g4
   ·cases h
   ·cases h
  ·cases h
 ·cases h
theorem mU(hi:Inv P w S G Y Z){f:Fn}{xs ys:zb}{us ts:Array Value}(d:Zip (qe w S G Z) xs us.toList)(e:Zip (qe w S G Z) ys ts.toList) :
  Qn dr P w Y Z S G (.fn f xs ys) Y Z ((Instr.makeFunc f us ts).run P w):=
 qp (v:=.func f us ts) hi rfl (.fn (by simpa using d.1) (by simpa using e.1) (fun j c x a b=>d.2 j c x a (by simpa using b)) (fun j c x a b=>e.2 j c x a (by simpa using b)))
theorem ug{z:Array Value}{n s i j:Nat}(hs:z.size=s)(hi:i<n)(b:j<s):(madeCells z (n*s))[i*s+j]?=z[j]?:=by
 have a:i*s+j<n*s:=j5 hi b;unfold madeCells;rw[Array.getElem?_map,Array.getElem?_range,ze a];have c:(i*s+j) % s=j:=by rw[cW,Nat.add_mul_mod_self_right];exact Nat.mod_eq_of_lt b
 simp only[zy,hs,c];rw[jY (by omega)];simp only[zW];exact(WU z j (by omega))
theorem hZ(hi:Inv P w S G Y Z){t:TypeId}{p q x:O}{E:Hp}{F:Nat}{u v:Value}(h:Zz P Y Z t p q=some (x,E,F))(L:qe w S G Z p u)(M:qe w S G Z q v) :
  Qn dr P w Y Z S G x E F ((Instr.makeSlice t u v).run P w):=by
 unfold Zz at h;split at h
 ·rename_i N l Q c;obtain⟨rfl,_⟩:=L.wX;obtain⟨rfl,_⟩:=M.wX;split at h
  ·rename_i e R;split at h
   ·rename_i n by_ z H T W;split at h
    ·rename_i X;obtain⟨I,o,c3,c4,J,c6⟩:=X;injection h with h
     injection h with ex h;injection h with eh en;subst ex;subst eh;subst en;obtain⟨i,d,r,i2,i3⟩:=ZY W;obtain⟨z1,z2⟩:=jc (w:=w) (S:=S) i3;have f:i.size=n:=by simpa[qv,r]using H
     have s:i.bytes=by_:=by simpa[jV,r]using T
     have y:d.cells.size=n:=by rw[<-o,z1];simp
     have hm:c.toNat<=9223372036854775807:=by simpa[maxLen]using J
     have b:(i.bytes:Int)*c<=281474976710656:=by
      have:((c.toNat*by_:Nat):Int)<=140737488355328:=by omega
      rw[Int.natCast_mul,Int.toNat_of_nonneg (by omega)]at this;rw[s,Int.mul_comm];omega
     have hr:=run_make (P:=P) w t e i d (kW R) r i2 N Q l c c3 c4 b (by omega);have g:l.toNat<=c.toNat:=by omega
     have k:=kO.alloc (dr:=dr) hi (madeCells d.cells (c.toNat*i.size)) e true (List.replicate l.toNat z) n I (by simpa[qv]using H) (fun c' A=>by rw[(zgg.1 A).2];exact o)
      (by rw[size_madeCells,f,List.length_replicate];exact zH _ g) (fun i' j c' pv a K=>by
       have B:i'<l.toNat:=by have:=(zi.1 a).1;simpa using this
       rw[xI,ze B]at a;injection a with a
       subst a;have C:j<n:=by rw[<-o];exact(zi.1 K).1
       have m:j<d.cells.size:=by omega
       rw[f,ug y (by omega) C];have D:=z2 j pv d.cells[j] K (by simp[m]);exact⟨d.cells[j],by simp[m],fun _=>D.1,.c D.1,D.2.1⟩)
     refine⟨_,_,_,_,hr,k,?_⟩;have:=qe.own (w:=w.alloc (.cells (madeCells d.cells (c.toNat*i.size)) e)) (S:=S) (G:=qR G Z ⟨w.heap.size,(madeCells d.cells (c.toNat*i.size)).size,n⟩) (Z:=Z+1) (id:=Z) (off:=0) (n:=l.toNat) (cap:=c.toNat) (by omega) g J (by simp[size_madeCells,f]) (by simpa using I);simpa using this
    ·cases h
   ·cases h
  ·cases h
 ·cases h
end
variable{dr:Prop}
section
variable{P:Program}{w:World}{S:Nat->Prop}{G:Nat->GI}{Y:Hp}{Z:Nat}
theorem kO.pU{Y1:Hp}{w':World}(hi:Inv P w S G Y Z)(a:∀id b,Y1 id=some b->Y id=some b)(f:GI)(e:TypeId)(y:Bool)(es:List zb)(q:Array Value)
  (os:w'.os=w.os) (C:w'.tape=w.tape) (r:w'.output=w.output) (v:w.heap.size<=w'.heap.size) (A:w.drawn<=w'.drawn)
  (D:Nat->Prop) (M:∀b,D b->kF Y G b/\¬S b/\∀id t,Y1 id=some t->(G id).g≠b)
  (m:∀b,b<w.heap.size->b≠f.g->¬D b->w'.heap[b]?=w.heap[b]?) (B:∀id b,Y1 id=some b->(G id).g≠f.g) (E:¬S f.g) (F:kF Y G f.g\/w.heap.size<=f.g)
  (N:0<f.s) (Q:(P.info? e).map (·.size)=some f.s) (H:∀c∈es,c.length=f.s) (I:es.length*f.s<=f.z) (J:w'.heap[f.g]?=some (.cells q e (0,0))) (R:q.size=f.z)
  (K:∀(i j:Nat) (c:zb) (L:O),es[i]?=some c->c[j]?=some L->∃u,q[i*f.s+j]?=some u/\jg w S G Z y L u) :
  kO dr P Y Z S G w (qR Y1 Z (some ⟨e,f.s,y,es⟩)) (Z+1) S (qR G Z f) w':=by
 have T:∀b,S b->S b/\w'.heap[b]?=w.heap[b]?:=fun b d=>⟨d,m b (hi.st b d) (fun e=>E (e ▸ d)) fun h=>(M b h).2.1 d⟩
 have p:∀id,id<Z->qR G Z f id=G id:=fun id hid=>wi _ _ _ _ (by omega)
 have l:∀id,id≠Z->qR Y1 Z (some ⟨e,f.s,y,es⟩) id=Y1 id:=fun id hid=>wi _ _ _ _ hid
 refine⟨⟨fun b d=>yZ (hi.st b d) v,fun id b d=>?_,fun id b d=>?_,fun id b d=>?_,fun id id' b t d n x=>?_,hi.gT.mono T⟩,by omega,p,fun _ d=>d,fun _ d=>.inl d,fun id b d=>?_,⟨os,C,r,v,fun _=>A,fun k hk X=>m k hk (fun e=>?_) fun h=>X (M k h).1⟩⟩
 ·by_cases hid:id=Z
  ·omega
  ·rw[l id hid]at d;have:=hi.top id b (a id b d);omega
 ·by_cases hid:id=Z
  ·subst hid;simp only[wL]at d⊢;injection d with d
   subst d;refine .vG N rfl ⟨Q,H,I,q,J,R,fun i j c L W hj=>?_⟩;obtain⟨u,h1,h2⟩:=K i j c L W hj;exact⟨u,h1,h2.mono T (by omega) p⟩
  ·rw[l id hid]at d;have ht:=hi.top id b (a id b d);rw[p id ht];have hl:=hi.live id b (a id b d);exact hl.mono T (by omega) p (m _ hl.lt (B id b d) fun h=>(M _ h).2.2 id b d rfl)
 ·by_cases hid:id=Z
  ·subst hid;simpa using E
  ·rw[l id hid]at d;rw[p id (hi.top id b (a id b d))];exact hi.apart id b (a id b d)
 ·by_cases hid:id=Z<;>by_cases o:id'=Z
  ·omega
  ·subst hid;rw[l id' o]at n;rw[p id' (hi.top id' t (a id' t n))]at x;simp only[wL]at x;exact(B id' t n x.symm).elim
  ·subst o;rw[l id hid]at d;rw[p id (hi.top id b (a id b d))]at x;simp only[wL]at x;exact(B id b d x).elim
  ·rw[l id hid]at d;rw[l id' o]at n;rw[p id (hi.top id b (a id b d)),p id' (hi.top id' t (a id' t n))]at x;exact hi.inj id id' b t (a id b d) (a id' t n) x
 ·by_cases hid:id=Z
  ·subst hid;simpa using F
  ·rw[l id hid]at d;rw[p id (hi.top id b (a id b d))];exact .inl ⟨id,b,a id b d,rfl⟩
 ·subst e;rcases F with h|h
  ·exact X h
  ·omega
theorem JY(hi:Inv P w S G Y Z){n:Nat}{x:O}{xs:List zb}{u:Value}(h:view Y n x=some xs)(r:qe w S G Z x u) :
  ∃(A:Option Addr) (c:Nat) (f:Nat->Value),u=.slice A xs.length c/\(∀l∈xs,l.length=n) /\
   ∀(i j:Nat) (l:zb) (d:O),xs[i]?=some l->l[j]?=some d->∃ad,A=some ad/\w.cell? (ad.add (i*n+j))=some (f (i*n+j))/\jg w S G Z true d (f (i*n+j)):=by
 have N:∀(A:Option Addr) (xs:List zb) (c:Nat),wH w S (.sl n xs) (.slice A xs.length c)->(∃us:Nat->Nat->Value,(∀l∈xs,l.length=n) /\
   (∀(i j:Nat) (c:zb) (d:O),xs[i]?=some c->c[j]?=some d->∃ad,A=some ad/\w.cell? (ad.add (i*n+j))=some (us i j)/\(us i j).oneCell'=true/\wH w S d (us i j))):=by
  intro A xs c h;cases h with
  |sl us Q H I t J E=>refine⟨us,t,fun i j c d a b=>?_⟩;obtain⟨ad,e,_,o,q⟩:=J i j c d a b;exact⟨ad,e,o,q,E i j c d a b⟩
 have y:∀(A:Option Addr) (c:Nat) (us:Nat->Nat->Value),(∀l∈xs,l.length=n) ->
   (∀(i j:Nat) (c:zb) (d:O),xs[i]?=some c->c[j]?=some d->∃ad,A=some ad/\w.cell? (ad.add (i*n+j))=some (us i j)/\jg w S G Z true d (us i j))->u=.slice A xs.length c ->
   ∃(A:Option Addr) (c:Nat) (f:Nat->Value),u=.slice A xs.length c/\(∀l∈xs,l.length=n) /\
    ∀(i j:Nat) (l:zb) (d:O),xs[i]?=some l->l[j]?=some d->∃ad,A=some ad/\w.cell? (ad.add (i*n+j))=some (f (i*n+j))/\jg w S G Z true d (f (i*n+j)):=by
  intro A c us H I t;refine⟨A,c,fun k=>match A with|some ad=>(w.cell? (ad.add k)).getD undef|none=>undef,t,H,fun i j l d m K=>?_⟩;obtain⟨ad,rfl,o,q⟩:=I i j l d m K;exact⟨ad,rfl,by simp[o],by simpa[o]using q⟩
 unfold view at h;split at h
 ·injection h with h;subst h;have:=r.Zd;subst this;exact⟨none,0,fun _=>undef,rfl,by simp,by simp⟩
 ·injection h with h;subst h;obtain⟨ad,cap,rfl,_⟩:=r.mL;exact⟨some ad,cap,fun _=>undef,rfl,by simp,by simp⟩
 ·rename_i s es;split at h
  ·rename_i hs;subst hs;injection h with h
   subst h;have L:=r.bg;cases L with
   |sl us Q H I t J E=>refine y _ _ us t (fun i j c d a b=>?_) rfl;obtain⟨ad,e,_,o,q⟩:=J i j c d a b;exact⟨ad,e,o,fun _=>E i j c d a b,.c (E i j c d a b),q⟩
  ·cases h
 ·rename_i id off k;split at h
  ·rename_i b R;split at h
   ·rename_i L;injection h with h
    obtain⟨T,W,c3⟩:=L;have z:=r.xk;obtain⟨cap,o,q,g3,g4,rfl⟩:=r.vH;have p:=hi.live id b R;obtain⟨B,X,r2,r3⟩:=p.row z;have hs:(G id).s=n:=by rw[<-p.bs,W]
    have hl:xs.length=k:=by rw[<-h];simp;omega
    have C:∀(i:Nat) (c:zb),xs[i]?=some c->b.es[off+i]?=some c:=by
     intro i c m;rw[<-h,qt]at m;split at m
     ·rwa [qK]at m
     ·cases m
    refine y (some ⟨(G id).g,off*(G id).s,none⟩) cap (fun i j=>(B[(off+i)*n+j]?).getD undef) (fun l D=>?_) (fun i j c d m K=>?_) (by rw[hl])
    ·rw[<-h]at D;rw[<-hs];exact p.len z l (Wm _ _ (KG _ _ D))
    ·obtain⟨v,F,M⟩:=r3 (off+i) j c d (C i c m) K;refine⟨_,rfl,?_,?_⟩
     ·rw[kg,UA w _ _ B _ _ X,hs];rw[hs]at F;rw[show off*n+(i*n+j)=(off+i)*n+j from by rw[qQ];omega,F];rfl
     ·rw[hs]at F;simp only[F,Wo];rw[T]at M;exact M
   ·cases h
  ·cases h
 ·cases h
theorem LG{n k m:Nat}(a:0<n)(b:k<m*n):k/n<m/\k % n<n/\k/n*n+k % n=k:=by refine⟨(Nat.div_lt_iff_lt_mul a).2 b,zgh _ a,?_⟩;rw[cX];exact Nat.div_add_mod k n
theorem V7{n:Nat}{xs:List zb}{A:Option Addr}{f:Nat->Value}(l:0<n)(m:∀a∈xs,a.length=n)
  (h:∀(i j:Nat) (a:zb) (b:O),xs[i]?=some a->a[j]?=some b->∃ad,A=some ad/\w.cell? (ad.add (i*n+j))=some (f (i*n+j))/\jg w S G Z true b (f (i*n+j))) :
  ∀k,k<xs.length*n->∃ad,A=some ad/\w.cell? (ad.add k)=some (f k)/\(f k).oneCell'=true:=by
 intro k o;obtain⟨c,s,p⟩:=LG l o;have q:xs[k/n]?=some xs[k/n]:=zl c;have r:xs[k/n].length=n:=m _ (zj c);obtain⟨ad,e,d,g⟩:=h (k/n) (k % n) _ (xs[k/n][k % n]'(by omega)) q (zl (by omega));rw[p]at d g;exact⟨ad,e,d,g.2.2⟩
theorem pZ(t ty e:TypeId)(i:TypeInfo)(z:Value)(x:P.underlying t=some (.slice e))(hi:P.info? e=some i)(D:i.zero=some z)(E:0<i.size)
  (v:Value) (n:Nat) (xs:List Value) (h:w.ownsRow 0 e i.size v n xs) (a:Addr) (m c:Nat) (b:List Value) (p:b.length=m*i.size) (d:∀j u,b[j]?=some u->w.cell? (a.add j)=some u) (F:∀u∈b,u.oneCell'=true)
  (A:n+m<=maxLen) (f:(n+m)*i.bytes<=140737488355328) {G:Value} {w':World} (r:(Builtin.append_ #[t,t] ty #[v,.slice (some a) m c]).run P w=.ok G w'):w.drawn<=w'.drawn:=by
 have y:n+m<=9223372036854775807:=by simp only[maxLen]at A;omega
 rcases h.2 with⟨rfl,rfl⟩|⟨g,cap,q,rfl,H,I,J,K,B,C⟩
 ·by_cases L:m=0
  ·subst L;have M:b=[]:=xr (by simpa using p);subst M;have l:(Builtin.append_ #[t,t] ty #[.slice none 0 0,.slice (some a) 0 c]).run P w=.ok (.slice none 0 0) w:=by simp[Builtin.append_,zz x,sizeOf,typeInfo,hi,Builtin.lenOf,Builtin.firstCells,loadCells,loadCellsFrom]
   rw[l]at r;injection r with _ r
   rw[<-r];exact zk _
  ·have l:=run_append_nil (P:=P) w t ty e i z x hi D a m c b p d (by omega) (by omega) (by have N:=f;simp only[yi]at N;omega);rw[l]at r;injection r with _ r
   rw[<-r];exact Qj _
 ·by_cases k:n+m<=cap
  ·have s:n*i.size+b.length<=q.size:=by rw[p,B,<-qQ];exact zH _ k
   have l:=run_append_room (P:=P) w t ty e i x hi g n cap q I a m c b p d F k s;rw[l]at r;injection r with _ r
   rw[<-r];exact zk _
  ·have o:∀j u,xs[j]?=some u->w.cell? ((⟨g,0,none⟩:Addr).add j)=some u:=h.cells (g:=g) rfl;have l:=run_append_grow (P:=P) w t ty e i z x hi D ⟨g,0,none⟩ n cap xs h.1 o a m c b p d (by omega) (by omega) (growslice_fits (by omega) f);rw[l]at r;injection r with _ r
   rw[<-r];exact Qj _
def CS(P:Program)(w:World)(t t' ty e:TypeId)(n by_ m:Nat)(x:Value)(a:List Value):Prop:=
 ∀(base:Nat) (v:Value) (k:Nat) (olds:List Value),w.ownsRow base e n v k olds->base<=w.heap.size->k+m<=maxLen->(k+m)*by_<=140737488355328 ->
  ∃b w',(Builtin.append_ #[t,t'] ty #[v,x]).run P w=.ok b w'/\w'.ownsRow base e n b (k+m) (olds++a)/\w.grownBy w' v.ownBlock/\(b.ownBlock=v.ownBlock\/b.ownBlock=some w.heap.size)/\w.drawn<=w'.drawn/\(m=0->b=v/\w'=w)
theorem GA{t ty e:TypeId}{n by_:Nat}{i:TypeInfo}{s:Value}(l:P.underlying t=some (.slice e))(x:P.info? e=some i)(D:i.zero=some s)(b:i.size=n)(o:i.bytes=by_)(z:s.cells.size=n)(E:0<n)
  {A:Option Addr} {m c:Nat} {f:Nat->Value} (B:∀k,k<m*n->∃ad,A=some ad/\w.cell? (ad.add k)=some (f k)/\(f k).oneCell'=true):CS P w t t ty e n by_ m (.slice A m c) ((List.range (m*n)).map f):=by
 intro base v k olds a d p F;by_cases G:m=0
 ·subst G;refine⟨v,w,?_,by simpa using a,World.grownBy.refl w _,.inl rfl,zk _,fun _=>⟨rfl,rfl⟩⟩;rcases a.2 with⟨rfl,_⟩|⟨g,cap,q,rfl,_,_,K,_⟩
  ·cases A<;>simp[Builtin.append_,zz l,sizeOf,typeInfo,x,Builtin.lenOf,Builtin.firstCells,loadCells,loadCellsFrom]
  ·cases A<;>simp[Builtin.append_,zz l,sizeOf,typeInfo,x,Builtin.lenOf,Builtin.firstCells,loadCells,loadCellsFrom,K,storeCells]
 ·obtain⟨ad,rfl,_,_⟩:=B 0 (Nat.mul_pos (by omega) E);have H:∀j u,((List.range (m*n)).map f)[j]?=some u->w.cell? (ad.add j)=some u:=fun j u y=>by
   have r:j<m*n:=by have:=(zi.1 y).1;simpa using this
   obtain⟨L,C,M,_⟩:=B j r;injection C with C;subst C;rw[qo,jZ r]at y;simp at y;rw[M,y]
  have I:∀u∈(List.range (m*n)).map f,u.oneCell'=true:=fun u l=>by obtain⟨k,N,rfl⟩:=qw.1 l;exact(B k (ye.1 N)).choose_spec.2.2
  obtain⟨Q,w',J,R,S,r4,T⟩:=run_append_own_at (P:=P) w base t ty e i s n by_ l x D b o z E v k olds a ad m c ((List.range (m*n)).map f) (by simp) H I p F d;refine⟨Q,w',J,R,S,T,?_,fun h=>(G h).elim⟩;exact pZ t ty e i s l x D (by omega) v k olds (by rw[b];exact⟨a.1,a.2.imp (fun h=>h) fun⟨g,cap,q,W,_,X⟩=>⟨g,cap,q,W,j9 _,X⟩⟩) ad m c ((List.range (m*n)).map f) (by simp[b]) H I p (by rw[o];exact F) J
theorem PN{t u ty e:TypeId}{i:TypeInfo}(q:P.underlying t=some (.slice e))(hs:P.underlying u=some .string)(r:P.info? e=some i)(z:i.zero=some (.int .u8 0))(b:i.size=1)(d:i.bytes=1)(s:ByteArray) :
  CS P w t u ty e 1 1 s.size (.string s) (Lib.strCells s):=by
 intro base v k olds a f x D;rw[zed]at D;have F:olds.length=k:=by simpa using a.1
 have y:k+s.size<=9223372036854775807:=by simp only[maxLen]at x;omega
 obtain⟨G,w',c,H,I,R⟩:=Lib.run_append_own_string (P:=P) w base t u ty e i q hs r z b d v k olds a s x D f;refine⟨G,w',c,H,I,?_⟩;by_cases j:s.size=0
 ·have l:(Builtin.append_ #[t,u] ty #[v,.string s]).run P w=.ok v w:=by
   have J:Lib.strCells s=[]:=xr (by rw[Lib.strCells_length];exact j);have A:=Lib.run_firstCells_string (P:=P) w 1 s;rw[j,J]at A;rcases a.2 with⟨rfl,_⟩|⟨g,cap,m,rfl,_,_,K,_⟩
   ·simp[Builtin.append_,zz q,zz hs,sizeOf,typeInfo,r,b,Builtin.lenOf,j,A]
   ·simp[Builtin.append_,zz q,zz hs,sizeOf,typeInfo,r,b,Builtin.lenOf,j,A,K,storeCells]
  rw[l]at c;injection c with n o
  subst n;subst o;exact⟨.inl rfl,zk _,fun _=>⟨rfl,rfl⟩⟩
 ·rcases a.2 with⟨rfl,rfl⟩|⟨g,cap,m,rfl,L,M,N,Q,B,C⟩
  ·have l:=run_append_nil_string (P:=P) w t u ty e i (.int .u8 0) q hs r z s (by omega) (by omega) (by rw[d];omega);rw[l]at c;injection c with n o
   subst n;subst o;exact⟨.inr rfl,Qj _,fun h=>(j h).elim⟩
  ·have E:m.size=cap:=by simpa using B
   by_cases p:k+s.size<=cap
   ·have l:=Lib.run_append_room_string (P:=P) w t u ty e i q hs r b g k cap m M s p (by omega);rw[l]at c;injection c with n o
    subst n;subst o;exact⟨.inl rfl,zk _,fun h=>(j h).elim⟩
   ·have l:=Lib.run_append_grow_string (P:=P) w t u ty e i (.int .u8 0) q hs r z ⟨g,0,none⟩ k cap olds (by rw[b];omega) (a.cells (g:=g) rfl) s (by omega) (by omega) (growslice_fits (by omega) (by rw[d];omega));rw[l]at c;injection c with n o
    subst n;subst o;exact⟨.inr rfl,Qj _,fun h=>(j h).elim⟩
theorem GB{e:TypeId}(h:Fb P e=true):∃i,P.info? e=some i/\i.zero=some (.int .u8 0)/\i.size=1/\i.bytes=1:=by
 unfold Fb at h;split at h
 ·rename_i i hi;split at h
  ·rename_i z a;simp only[zC,jq]at h;obtain⟨⟨rfl,b⟩,c⟩:=h;exact⟨i,hi,a,b,c⟩
  ·cases h
 ·cases h
theorem LH{u:TypeId}(h:PM P u=true):P.underlying u=some .string:=by
 unfold PM at h;split at h
 ·assumption
 ·cases h
theorem uh(hi:Inv P w S G Y Z){t t' ty:TypeId}{s x y:O}{Y':Hp}{Z':Nat}{u v:Value}(h:yW P Y Z t t' s x=some (y,Y',Z'))(hs:qe w S G Z s u)(hx:qe w S G Z x v) :
  Qn dr P w Y Z S G y Y' Z' ((Builtin.append_ #[t,t'] ty #[u,v]).run P w):=by
 unfold yW at h;split at h
 ·rename_i e he;split at h
  ·rename_i n by_ z h1 h2 h3;split at h
   ·rename_i xs H;obtain⟨i,vz,i1,i2,i3⟩:=ZY h3;have hsz:i.size=n:=by simpa[qv,i1]using h1
    have hby:i.bytes=by_:=by simpa[jV,i1]using h2
    have hzl:=(jc (w:=w) (S:=S) i3).1;have hu:=kW he;have M:0<n->z.length=n->∃o,CS P w t t' ty e n by_ xs.length v o/\o.length=xs.length*n/\(∀d∈xs,d.length=n) /\
      ∀(i j:Nat) (d:zb) (q:O),xs[i]?=some d->d[j]?=some q->∃Q,o[i*n+j]?=some Q/\jg w S G Z true q Q:=by
     intro hn hzl';unfold gX at H;split at H
     ·rename_i b;split at H
      ·rename_i hc;injection H with H
       subst H;obtain⟨i',j1,j2,j3,j4⟩:=GB hc.2;rw[i1]at j1;injection j1 with j1
       subst j1;have hn1:n=1:=by omega
       have hb1:by_=1:=by omega
       subst hn1;subst hb1;have hvs:v=.string b:=by
        cases hx with
        |c h=>cases h;rfl
       subst hvs;have hl:(b.data.toList.map fun c=>[O.v (.int .u8 c.toNat)]).length=b.size:=by rw[w9,wN];rfl
       refine⟨Lib.strCells b,by rw[hl];exact PN hu (LH hc.1) i1 j2 j3 j4 b,by rw[hl,Lib.strCells_length,zed],fun d R=>?_,fun i j d q a r=>?_⟩
       ·obtain⟨x,_,rfl⟩:=qw.1 R;rfl
       ·rw[qo]at a;obtain⟨x,hx1,rfl⟩:=Option.map_eq_some_iff.1 a;obtain rfl:j=0:=by have:=(zi.1 r).1;simpa using this
        simp only[List.getElem?_cons_zero,zW]at r;subst r;refine⟨.int .u8 x.toNat,?_,fun _=>.v rfl,.c (.v rfl),rfl⟩;unfold Lib.strCells;rw[qo,zed,Qk,hx1];rfl
      ·cases H
     ·split at H
      ·rename_i he';subst he';obtain⟨A,c,f,rfl,J,f2⟩:=JY hi H hx;have hzc:vz.cells.size=n:=by rw[<-hzl',hzl];simp
       refine⟨(List.range (xs.length*n)).map f,GA hu i1 i2 hsz hby hzc hn (V7 hn J f2),by simp,J,fun i j d q a r=>?_⟩;obtain⟨ad',a1,a2,a3⟩:=f2 i j d q a r;have B:j<n:=by rw[<-J d (zL a)];exact(zi.1 r).1
       have D:i<xs.length:=(zi.1 a).1;have E:=j5 (n:=xs.length) D B;exact⟨f (i*n+j),by rw[qo,jZ E];rfl,a3⟩
      ·cases H
    split at h
    ·split at h
     ·rename_i hc;obtain⟨c1,c2,c3,c4⟩:=hc;have:=hs.Zd;subst this;obtain⟨o,hA,_,J,f2⟩:=M c1 c2;split at h
      ·rename_i hm;injection h with h
       injection h with ey h;injection h with eh en;subst ey;subst eh;subst en;obtain⟨v',w',r1,_,_,_,_,r6⟩:=hA w.heap.size (.slice none 0 0) 0 [] (World.ownsRow_nil w _ e n) (zk _) (by simpa using c3) (by simpa using c4);obtain⟨rfl,rfl⟩:=r6 hm;exact qp (v:=.slice none 0 0) hi r1 (.c .nil)
      ·rename_i hm;injection h with h
       injection h with ey h;injection h with eh en;subst ey;subst eh;subst en;obtain⟨v',w',r1,r2,C,r5,rd,_⟩:=hA w.heap.size (.slice none 0 0) 0 [] (World.ownsRow_nil w _ e n) (zk _) (by simpa using c3) (by simpa using c4);simp only[yi,ku]at r2;rcases r2.2 with⟨e1,e2⟩|⟨g,cap,m,rfl,e2,e3,e4,e5,e6,e7⟩
       ·exact(hm e2).elim
       ·have hg:g=w.heap.size:=by rcases r5 with h5|h5<;>simp[Value.ownBlock]at h5;exact h5
        subst hg;have k:=kO.pU (dr:=dr) (Y1:=Y) hi (fun _ _ h=>h) ⟨w.heap.size,m.size,n⟩ e true xs m C.os C.tape C.output C.size rd (fun _=>False) (fun _ h=>h.elim) (fun b I T _=>C.block b I (by simp[Value.ownBlock])) (fun id b I=>Nat.ne_of_lt (hi.live id b I).lt)
         (fun hS=>by have:=hi.st _ hS;simp at this) (.inr (zk _)) c1 (by simpa[qv]using h1) J (by rw[e6];exact zH _ e4) e3 rfl (fun i' j d q a r=>by
          obtain⟨Q,a1,a3⟩:=f2 i' j d q a r;have B:j<n:=by rw[<-J d (zL a)];exact(zi.1 r).1
          have D:i'<xs.length:=(zi.1 a).1;have E:=j5 (n:=xs.length) D B;refine⟨Q,?_,a3⟩;have h7:(m.toList.take (xs.length*n))[i'*n+j]?=some Q:=by rw[e7];exact a1
          rw[qt,ze E]at h7;simpa using h7)
        refine⟨_,_,_,_,r1,k,?_⟩;have:=qe.own (w:=w') (S:=S) (G:=qR G Z ⟨w.heap.size,m.size,n⟩) (Z:=Z+1) (id:=Z) (off:=0) (n:=xs.length) (cap:=cap) (by omega) e4 e5 (by simp[e6]) (by simpa using c1);simpa using this
     ·cases h
    ·rename_i id k;split at h
     ·rename_i b I;split at h
      ·rename_i hc;obtain⟨c0,c1,c2,c3,c4,c5,c6⟩:=hc;injection h with h
       injection h with ey h;injection h with eh en;subst ey;subst eh;subst en;have K:=hs.xk;obtain⟨cap,g1,g2,g3,g4,rfl⟩:=hs.vH;have hzc:vz.cells.size=n:=by rw[<-c4,hzl];simp
       have F:=hi.live id b I;obtain⟨m,q1,q2,q3⟩:=F.row K;have L:(G id).s=n:=by
        have h5:=F.size K;rw[c1]at h5;have h6:(P.info? e).map (·.size)=some n:=by simpa[qv]using h1
        rw[h6]at h5;injection h5 with h5
        exact h5.symm
       have hg0:(⟨(G id).g,0*(G id).s,none⟩:Addr)=⟨(G id).g,0,none⟩:=by simp
       rw[hg0];have hcz:m.size=cap*n:=by rw[q2,<-g4,L];simp
       have N:w.ownsRow 0 e n (.slice (some ⟨(G id).g,0,none⟩) k cap) k (m.toList.take (k*n)):=by refine⟨?_,.inr ⟨(G id).g,cap,m,rfl,j9 _,by rw[<-c1];exact q1,g2,g3,hcz,rfl⟩⟩;simp only[wB,wN,hcz];exact Nat.min_eq_left (zH _ g2)
       have hsub:∀id' p,qR Y id none id'=some p->Y id'=some p:=fun id' p h=>Q7 h
       have Ti:∀id' p,qR Y id none id'=some p->(G id').g≠(G id).g:=fun id' p h he=>by
        have T:id'≠id:=by rintro rfl;simp at h
        exact T (hi.inj id' id p b (Q7 h) I he)
       obtain⟨o,hA,_,J,f2⟩:=M c3 c4;obtain⟨v',w',r1,r2,C,r5,rd,_⟩:=hA 0 _ k _ N (j9 _) c5 c6;simp only[Value.ownBlock]at C r5;rcases r2.2 with⟨e1,e2⟩|⟨g,cap',l,rfl,e2,e3,e4,e5,e6,e7⟩
       ·subst e1;simp[Value.ownBlock]at r5
       ·have hg:g=(G id).g\/g=w.heap.size:=by simpa[Value.ownBlock]using r5
        have hgl:=F.lt;have Ld:∀(i' j:Nat) (d:zb) (q:O),(b.es++xs)[i']?=some d->d[j]?=some q->∃u,l[i'*n+j]?=some u/\jg w S G Z true q u:=by
         intro i' j d q a r;have hcl:d.length=n:=by
          rcases zK.1 (zL a)with h|h
          ·rw[<-L];exact F.len K d h
          ·exact J d h
         have B:j<n:=by rw[<-hcl];exact(zi.1 r).1
         have D:i'<k+xs.length:=by have:=(zi.1 a).1;simp at this;omega
         have E:=j5 (n:=k+xs.length) D B;have h7:(l.toList.take ((k+xs.length)*n))[i'*n+j]?=l[i'*n+j]?:=by rw[qt,ze E];simp
         rw[<-h7,e7];have hkl:(m.toList.take (k*n)).length=k*n:=N.1;by_cases W:i'<k
         ·have Tj:=j5 (n:=k) W B;rw[z8 (by rw[c2]at W;exact W)]at a;rw[z8 (by omega),qt,ze Tj];obtain⟨Q,u1,u2⟩:=q3 i' j d q a r;rw[L]at u1;rw[c0]at u2;exact⟨Q,by simpa using u1,u2⟩
         ·rw[zQ (by omega),<-c2]at a;have hge:k*n<=i'*n:=zH _ (by omega);rw[zQ (by omega),hkl];have hkk:i'*n+j-k*n=(i'-k)*n+j:=by rw[Gi];omega
          rw[hkk];exact f2 (i'-k) j d q a r
        have k2:=kO.pU (dr:=dr) (Y1:=qR Y id none) hi hsub ⟨g,l.size,n⟩ e true (b.es++xs) l C.os C.tape C.output C.size rd
         (fun p=>p=(G id).g) (fun p X=>by subst X;exact⟨⟨id,b,I,rfl⟩,hi.apart id b I,Ti⟩)
         (fun p X T hbg=>C.block p X (by simpa using hbg))
         (fun id' p h=>by
          rcases hg with h'|h'
          ·simp only[h'];exact Ti id' p h
          ·simp only[h'];exact Nat.ne_of_lt (hi.live id' p (Q7 h)).lt)
         (by
          rcases hg with h'|h'
          ·simp only[h'];exact hi.apart id b I
          ·simp only[h'];intro hS;have:=hi.st _ hS;simp at this)
         (by
          rcases hg with h'|h'
          ·simp only[h'];exact .inl ⟨id,b,I,rfl⟩
          ·simp only[h'];exact .inr (zk _))
         c3 (by simpa[qv]using h1)
         (fun d R=>by
          rcases zK.1 R with h|h
          ·simp only[<-L];exact F.len K d h
          ·exact J d h)
         (by rw[qj,<-c2,e6];exact zH _ e4) e3 rfl Ld
        refine⟨_,_,_,_,r1,k2,?_⟩;have:=qe.own (w:=w') (S:=S) (G:=qR G Z ⟨g,l.size,n⟩) (Z:=Z+1) (id:=Z) (off:=0) (n:=k+xs.length) (cap:=cap') (by omega) e4 e5 (by simp[e6]) (by simpa using c3);simpa using this
      ·cases h
     ·cases h
    ·cases h
   ·cases h
  ·cases h
 ·cases h
end
variable{dr:Prop}
section
variable{P:Program}{w:World}{S:Nat->Prop}{G:Nat->GI}{Y:Hp}{Z:Nat}
theorem kO.allocMap(h:Inv P w S G Y Z)(t:TypeId):kO dr P Y Z S G w (qR Y Z (some ⟨t,0,false,[]⟩)) (Z+1) S (qR G Z ⟨w.heap.size,0,0⟩) (w.alloc (.map #[] 0)):=by
 have j:∀b,b<w.heap.size->(w.alloc (.map #[] 0)).heap[b]?=w.heap[b]?:=fun b a=>Below.heap_alloc w _ b a
 have r:∀b,S b->S b/\(w.alloc (.map #[] 0)).heap[b]?=w.heap[b]?:=fun b a=>⟨a,j b (h.st b a)⟩
 have n:∀id,id<Z->qR G Z ⟨w.heap.size,0,0⟩ id=G id:=fun id hid=>wi _ _ _ _ (by omega)
 have d:∀id,id≠Z->qR Y Z (some (⟨t,0,false,[]⟩:kN)) id=Y id:=fun id hid=>wi _ _ _ _ hid
 have l:(w.alloc (.map #[] 0)).heap.size=w.heap.size+1:=by show(w.heap.push _).size=_;simp
 have o:∀id b,Y id=some b->(G id).g<w.heap.size:=fun id b a=>(h.live id b a).lt
 refine⟨⟨fun b a=>by rw[l];have:=h.st b a;omega,fun id b a=>?_,fun id b a=>?_,fun id b a=>?_,fun id id' b q a f p=>?_,h.gT.mono r⟩,by omega,n,fun _ a=>a,fun _ a=>.inl a,fun id b a=>?_,⟨rfl,rfl,rfl,by rw[l];omega,fun _=>zk _,fun k s _=>j k s⟩⟩
 ·by_cases hid:id=Z
  ·omega
  ·rw[d id hid]at a;have:=h.top id b a;omega
 ·by_cases hid:id=Z
  ·subst hid;simp only[wL]at a⊢;injection a with a
   subst a;exact⟨rfl,fun u=>absurd u (by simp),fun _=>⟨⟨#[],0,heap_alloc_new w _,rfl,fun i c e hi _=>by simp at hi⟩,#[],0,heap_alloc_new w _,by simp[Stamped]⟩⟩
  ·rw[d id hid]at a;have v:=h.top id b a;rw[n id v];exact(h.live id b a).mono r (by omega) n (j _ (o id b a))
 ·by_cases hid:id=Z
  ·subst hid;simp only[wL];intro hs;have:=h.st _ hs;omega
  ·rw[d id hid]at a;rw[n id (h.top id b a)];exact h.apart id b a
 ·by_cases hid:id=Z<;>by_cases m:id'=Z
  ·omega
  ·subst hid;rw[d id' m]at f;rw[n id' (h.top id' q f)]at p;have:=o id' q f;simp at p;omega
  ·subst m;rw[d id hid]at a;rw[n id (h.top id b a)]at p;have:=o id b a;simp at p;omega
  ·rw[d id hid]at a;rw[d id' m]at f;rw[n id (h.top id b a),n id' (h.top id' q f)]at p;exact h.inj id id' b q a f p
 ·by_cases hid:id=Z
  ·subst hid;simp
  ·rw[d id hid]at a;rw[n id (h.top id b a)];exact .inl ⟨id,b,a,rfl⟩
theorem Stamped.push{en:Array MapEntry}{c:Nat}(h:Stamped en c)(v z:Value):Stamped (en.push {key:=v,val:=z,born:=c}) (c+1):=by
 obtain⟨e,f⟩:=h;refine⟨fun x d=>?_,?_⟩
 ·simp only[Array.toList_push,zK,yp]at d;rcases d with d|rfl
  ·exact Nat.lt_succ_of_lt (e x d)
  ·exact gv _
 ·rw[Array.toList_push,nR,Gj];refine⟨f,by simp,fun a g b i=>?_⟩;obtain⟨x,d,rfl⟩:=qw.1 g;simp only[wc,KH,yp]at i;have:=e x d;omega
theorem Stamped.modify{en:Array MapEntry}{clock:Nat}(h:Stamped en clock)(i:Nat)(v z:Value):Stamped (en.modify i fun e=>{e with key:=v,val:=z}) clock:=by
 have a:((en.modify i fun e=>{e with key:=v,val:=z}).toList.map (·.born))=en.toList.map (·.born):=by
  apply List.ext_getElem?;intro j;simp only[qo,Array.getElem?_toList,vT];split
  ·cases en[j]?<;>rfl
  ·rfl
 refine⟨fun x b=>?_,by rw[a];exact h.2⟩;have:x.born∈en.toList.map (·.born):=by rw[<-a];exact qw.2 ⟨x,b,rfl⟩
 obtain⟨y,c,e⟩:=qw.1 this;have:=h.1 y c;omega
theorem kO.O6(h:Inv P w S G Y Z){id:Nat}{b:kN}(hid:Y id=some b)(r:(G id).s=0)(en:Array MapEntry)(a:Nat)(es:List zb)(t:Stamped en a)(B:en.size=es.length)
  (n:∀(i:Nat) (c:zb) (e:MapEntry),es[i]?=some c->en[i]?=some e->c9 w S c e) :
  kO dr P Y Z S G w (qR Y id (some ⟨b.e,b.s,b.arr,es⟩)) Z S G {w with heap:=w.heap.setIfInBounds (G id).g (.map en a)}:=by
 obtain⟨C,p,o,_⟩:=((h.live id b hid).UD r).row;have l:=MapKept.heap_set (o':=Obj.map en a) o;have j:∀k,k≠(G id).g->(w.heap.setIfInBounds (G id).g (.map en a))[k]?=w.heap[k]?:=l.2;have u:∀b,S b->S b/\(w.heap.setIfInBounds (G id).g (.map en a))[b]?=w.heap[b]?:=fun k f=>⟨f,j k fun e=>h.apart id b hid (e ▸ f)⟩
 have m:∀k,k≠id->qR Y id (some (⟨b.e,b.s,b.arr,es⟩:kN)) k=Y k:=fun k f=>wi _ _ _ _ f
 refine⟨⟨fun k f=>by show k<(w.heap.setIfInBounds _ _).size;simpa using h.st k f,fun k c f=>?_,fun k c f=>?_,fun k c f=>?_,fun k q c v f x y=>?_,h.gT.mono u⟩,zk _,fun _ _=>rfl,fun _ z=>z,fun _ z=>.inl z,fun k c f=>?_,⟨rfl,rfl,rfl,by simp,fun _=>zk _,fun k _ D=>j k fun e=>D ⟨id,b,hid,e.symm⟩⟩⟩
 ·by_cases d:k=id
  ·subst d;exact h.top _ b hid
  ·rw[m k d]at f;exact h.top k c f
 ·by_cases d:k=id
  ·subst d;simp only[wL]at f;injection f with f
   subst f;refine⟨(h.live _ b hid).bs,fun Q=>by omega,fun _=>⟨⟨en,a,l.1,B,fun i c e hi y=>?_⟩,en,a,l.1,t⟩⟩;obtain⟨q,E,F,H,I,J⟩:=n i c e hi y;exact⟨q,E,F,H,I,J.mono u⟩
  ·rw[m k d]at f;exact(h.live k c f).mono u (zk _) (fun _ _=>rfl) (j _ fun e=>d (h.inj k id c b f hid e))
 ·by_cases d:k=id
  ·subst d;exact h.apart _ b hid
  ·rw[m k d]at f;exact h.apart k c f
 ·have A:∀k c,qR Y id (some (⟨b.e,b.s,b.arr,es⟩:kN)) k=some c->∃v,Y k=some v:=by
   intro k c f;by_cases d:k=id
   ·subst d;exact⟨b,hid⟩
   ·rw[m k d]at f;exact⟨c,f⟩
  obtain⟨K,L⟩:=A k c f;obtain⟨M,N⟩:=A q v x;exact h.inj k q K M L N y
 ·by_cases d:k=id
  ·subst d;exact .inl ⟨_,b,hid,rfl⟩
  ·rw[m k d]at f;exact .inl ⟨k,c,f,rfl⟩
theorem ra(hi:Inv P w S G Y Z)(t:TypeId):Qn dr P w Y Z S G (.mp Z) (qR Y Z (some ⟨t,0,false,[]⟩)) (Z+1) ((Instr.makeMap t none).run P w):=by refine⟨.map (some w.heap.size),w.alloc (.map #[] 0),S,qR G Z ⟨w.heap.size,0,0⟩,by simp[Instr.makeMap],kO.allocMap hi t,?_⟩;have:=qe.mp (w:=w.alloc (.map #[] 0)) (S:=S) (G:=qR G Z ⟨w.heap.size,0,0⟩) (Z:=Z+1) (id:=Z) (by omega) (by simp);simpa using this
theorem ia{t:TypeId}{f:Option IntKind}{g:TypeId}(h:K7 P t=some (f,g)):∃a d,P.underlying t=some (.map a g)/\P.underlying a=some d/\(∀k,Yv f k=true->MapKept.IsKey d k)/\(d=.string\/∃i,d=.int i):=by
 unfold K7 at h;split at h
 ·rename_i a l j;split at h
  ·rename_i i b;injection h with h
   injection h with c e;subst c;subst e;exact⟨a,.int i,j,b,fun k b=>by cases k<;>simp_all[Yv,MapKept.IsKey],.inr ⟨i,rfl⟩⟩
  ·rename_i b;injection h with h
   injection h with c e;subst c;subst e;exact⟨a,.string,j,b,fun k b=>by cases k<;>simp_all[Yv,MapKept.IsKey],.inl rfl⟩
  ·cases h
 ·cases h
theorem eK{d:TypeDesc}{a b:Value}{r:Bool}(hd:d=.string\/∃i,d=.int i)(c:MapKept.IsKey d a)(h:xd a b=some r):Instr.sameNow d a b=some r:=by
 unfold xd at h;split at h
 ·rename_i k x f y;rcases hd with rfl|⟨i,rfl⟩
  ·simp[MapKept.IsKey]at c
  ·split at h
   ·rename_i e;simpa[Instr.sameNow,e]using h
   ·cases h
 ·rename_i x y;rcases hd with rfl|⟨i,rfl⟩
  ·injection h with h;simp only[Instr.sameNow,zW];rw[<-h,qx,MapKept.bytes_beq,jq];exact⟨fun e=>by rw[e],fun e=>by obtain⟨x⟩:=x;obtain⟨y⟩:=y;congr 1;exact(by rw[Gk,Gk]at e;exact Array.toList_inj.1 e)⟩
  ·simp[MapKept.IsKey]at c
 ·cases h
theorem Jj{d:TypeDesc}{k:Value}(hd:d=.string\/∃i,d=.int i)(b:MapKept.IsKey d k):∀{es:List zb} {en:List MapEntry} {i:Nat} {r:Option (Nat×O)},es.length=en.length->(∀(j:Nat) (c:zb) (e:MapEntry),es[j]?=some c->en[j]?=some e->c9 w S c e)->xm k es i=some r ->
  (r=none/\Instr.findNow d k en i=some none)\/∃j v e,r=some (i+j,v)/\Instr.findNow d k en i=some (some (i+j,e.val))/\en[j]?=some e/\wH w S v e.val/\xd k e.key=some true/\j<es.length
 |[],[],i,r,_,_,h=>by
  simp only[xm]at h;injection h with h
  exact .inl ⟨h.symm,rfl⟩
 |[],e::en,_,_,a,_,_=>by simp at a
 |c::es,[],_,_,a,_,_=>by simp at a
 |c::es,e::en,i,r,a,l,h=>by
  obtain⟨z,v,rfl,n,_,o⟩:=l 0 c e rfl rfl;simp only[xm]at h;subst n;split at h
  ·rename_i hs;injection h with h
   subst h;refine .inr ⟨0,v,e,rfl,?_,rfl,o,hs,by simp⟩;simp[Instr.findNow,eK hd b hs]
  ·rename_i hs;have m:=eK hd b hs;rcases Jj hd b (es:=es) (en:=en) (i:=i+1) (r:=r) (by simpa using a) (fun j c e p q=>l (j+1) c e (by simpa using p) (by simpa using q)) h with⟨f,g⟩|⟨j,s,t,f,g,u,x,y,A⟩
   ·exact .inl ⟨f,by simp[Instr.findNow,m,g]⟩
   ·refine .inr ⟨j+1,s,t,by rw[f];congr 2;omega,?_,by simpa using u,x,y,by simp;omega⟩;simp only[Instr.findNow,m,g];congr 3;omega
  ·cases h
theorem oc{t:TypeId}{z:O}(h:bl P t=some z):∃v,(zeroValue t).run P w=.ok v w/\wH w S z v:=by
 unfold bl at h;cases hi:P.info? t with
 |none=>rw[hi]at h;cases h
 |some i=>
  rw[hi]at h;simp only[zZ]at h;cases a:i.zero with
  |none=>rw[a]at h;cases h
  |some v=>rw[a]at h;exact⟨v,QS hi a w,eJ h⟩
theorem LI(hi:Inv P w S G Y Z){x:O}{u:Value}{es:List zb}(h:bm Y x=some es)(d:qe w S G Z x u) :
  (u=.map none/\es=[])\/∃r en a,u=.map (some r)/\w.heap[r]?=some (.map en a)/\en.size=es.length/\∀(i:Nat) (c:zb) (e:MapEntry),es[i]?=some c->en[i]?=some e->c9 w S c e:=by
 unfold bm at h;split at h
 ·rename_i id;obtain⟨m,f,rfl⟩:=d.O5;split at h
  ·rename_i b g;split at h
   ·injection h with h;subst h;obtain⟨en,a,j,k,l⟩:=((hi.live id b g).UD f).row;exact .inr ⟨_,en,a,rfl,j,k,l⟩
   ·cases h
  ·cases h
 ·injection h with h;obtain⟨rfl,_⟩:=d.wX;exact .inl ⟨rfl,h.symm⟩
 ·cases h
theorem ui(hi:Inv P w S G Y Z){t:TypeId}{p q x:O}{u v:Value}{o:Bool}(h:xC P Y t p q o=some x)(Y':qe w S G Z p u)(hq:qe w S G Z q v):Qn dr P w Y Z S G x Y Z ((Instr.lookup t u v o).run P w):=by
 unfold xC at h;split at h
 ·rename_i kk D es k F H;obtain⟨kt,d,s,g,I,hd⟩:=ia F;obtain⟨rfl,_⟩:=hq.wX;split at h
  ·rename_i hc;have f:=I v hc;rcases LI hi H Y' with⟨rfl,rfl⟩|⟨r,en,J,rfl,E,W,X⟩
   ·simp only[xm]at h;obtain⟨z,K,m⟩:∃z,bl P D=some z/\(if o=true then O.wP [z,.v (.bool false)]else z)=x:=by
     cases A:bl P D with
     |none=>rw[A]at h;cases h
     |some z=>rw[A]at h;injection h with h;exact⟨z,rfl,h⟩
    obtain⟨B,l,n⟩:=oc (w:=w) (S:=S) K;have C:Instr.findNow d v [] 0=some none:=rfl;cases o with
    |true=>
     simp only[qB]at m;subst m;refine qp (v:=.tuple #[B,.bool false]) hi ?_ (.c (.wP rfl fun j L y a b=>?_))
     ·simp[Instr.lookup,zz s,xZ g f,Zq g C,l,Result.andThen]
     ·match j,a,b with
      | 0,a,b=>simp at a b;subst a;subst b;exact n
      | 1,a,b=>simp at a b;subst a;subst b;exact .v rfl
      |j+2,a,b=>simp at a
    |false=>simp only[zq,qn]at m;subst m;refine qp (v:=B) hi ?_ (.c n);simp[Instr.lookup,zz s,xZ g f,Zq g C,l,Result.andThen]
   ·split at h
    ·rename_i i L M;rcases Jj hd f (en:=en.toList) (by simpa using W.symm) (fun j c e N Q=>X j c e N (by simpa using Q)) M with⟨R,_⟩|⟨j,y,e,l,n,e3,e4,e5,e6⟩
     ·cases R
     ·injection l with l;injection l with l T;subst T;injection h with h;cases o with
      |true=>
       simp only[qB]at h;subst h;refine qp (v:=.tuple #[e.val,.bool true]) hi ?_ (.c (.wP rfl fun j L y a b=>?_))
       ·simp[Instr.lookup,zz s,Je E,xZ g f,Zq g n,Result.andThen]
       ·match j,a,b with
        | 0,a,b=>simp at a b;subst a;subst b;exact e4
        | 1,a,b=>simp at a b;subst a;subst b;exact .v rfl
        |j+2,a,b=>simp at a
      |false=>simp only[zq,qn]at h;subst h;refine qp (v:=e.val) hi ?_ (.c e4);simp[Instr.lookup,zz s,Je E,xZ g f,Zq g n,Result.andThen]
    ·rename_i M;obtain⟨z,K,m⟩:∃z,bl P D=some z/\(if o=true then O.wP [z,.v (.bool false)]else z)=x:=by
      cases A:bl P D with
      |none=>rw[A]at h;cases h
      |some z=>rw[A]at h;injection h with h;exact⟨z,rfl,h⟩
     obtain⟨B,l,n⟩:=oc (w:=w) (S:=S) K;rcases Jj hd f (en:=en.toList) (by simpa using W.symm) (fun j c e N Q=>X j c e N (by simpa using Q)) M with⟨_,C⟩|⟨j,y,e,R,_⟩
     ·cases o with
      |true=>
       simp only[qB]at m;subst m;refine qp (v:=.tuple #[B,.bool false]) hi ?_ (.c (.wP rfl fun j L y a b=>?_))
       ·simp[Instr.lookup,zz s,Je E,xZ g f,Zq g C,l,Result.andThen]
       ·match j,a,b with
        | 0,a,b=>simp at a b;subst a;subst b;exact n
        | 1,a,b=>simp at a b;subst a;subst b;exact .v rfl
        |j+2,a,b=>simp at a
      |false=>simp only[zq,qn]at m;subst m;refine qp (v:=B) hi ?_ (.c n);simp[Instr.lookup,zz s,Je E,xZ g f,Zq g C,l,Result.andThen]
     ·cases R
    ·cases h
  ·cases h
 ·cases h
theorem CT{a b:Value}(h:xd a b=some true):b=a:=by
 unfold xd at h;split at h
 ·rename_i k x c y;split at h
  ·rename_i e;subst e;injection h with h
   rw[jq]at h;rw[h]
  ·cases h
 ·rename_i x y;injection h with h
  rw[jq]at h;obtain⟨x⟩:=x;obtain⟨y⟩:=y;congr 2
  (rw[Gk,Gk]at h;exact Array.toList_inj.1 h.symm)
 ·cases h
theorem eL(hi:Inv P w S G Y Z){t:TypeId}{p q y:O}{Y':Hp}{u v z:Value}(h:Zt P Y t p q y=some Y')(hu:qe w S G Z p u)(hq:qe w S G Z q v)(hy:qe w S G Z y z) :
  ∃w' S' G',(Instr.mapUpdate t u v z).run P w=.ok () w'/\kO dr P Y Z S G w Y' Z S' G' w':=by
 unfold Zt at h;split at h
 ·rename_i kk et id k L;obtain⟨kt,d,s,D,M,hd⟩:=ia L;obtain⟨rfl,m⟩:=hq.wX;obtain⟨m1,E,rfl⟩:=hu.O5;split at h
  ·rename_i hc;have g:=M v hc;split at h
   ·rename_i F Y1 hf;obtain⟨S1,r,hr,_,_⟩:=kV hi hf hy;split at h
    ·rename_i b H;split at h
     ·obtain⟨en,clock,A,I,J⟩:=((r.inv.live id b H).UD E).row;have B:Stamped en clock:=by
       obtain⟨N,l,q1,q2⟩:=((r.inv.live id b H).UD E).UC;rw[A]at q1;obtain⟨rfl,rfl⟩:en=N/\clock=l:=by simpa using q1
       exact q2
      split at h
      ·rename_i i pv n;injection h with h
       subst h;rcases Jj hd g (en:=en.toList) (by simpa using I.symm) (fun j c e Q R=>J j c e Q (by simpa using R)) n with⟨T,_⟩|⟨j,x,e,K,e2,e3,e4,e5,e6⟩
       ·cases T
       ·injection K with K;injection K with K e1';have W:i=j:=by omega
        subst W;have C:en[i]?=some e:=by simpa using e3
        have X:e.key=v:=CT e5;have k2:=kO.O6 (dr:=dr) r.inv H E (en.modify i fun e=>{e with key:=v,val:=z}) clock (b.es.set i [.v v,F]) (B.modify i v z) (by simpa using I) (fun i' c e' f a=>by
         rw[vT]at a;by_cases o:i=i'
         ·subst o;rw[ze rfl,C]at a;rw[Zb e6]at f;injection f with f
          simp only[zy,zW]at a;subst a;subst f;exact⟨v,F,rfl,rfl,m,hr⟩
         ·rw[zd o]at a;rw[yV o]at f;exact J i' c e' f a)
        refine⟨_,S1,G,?_,r.trans k2⟩;simp[Instr.mapUpdate,zz s,Je A,xZ D g,Zq D e2,C,X,MapKept.run_keyThatStays g,MapKept.run_setObj_map _ A,Result.andThen]
      ·rename_i n;injection h with h
       subst h;rcases Jj hd g (en:=en.toList) (by simpa using I.symm) (fun j c e Q R=>J j c e Q (by simpa using R)) n with⟨_,hn⟩|⟨j,x,e,T,_⟩
       ·have k2:=kO.O6 (dr:=dr) r.inv H E (en.push {key:=v,val:=z,born:=clock}) (clock+1) (b.es++[[.v v,F]]) (B.push v z) (by simp[I]) (fun i' c e' f a=>by
         rw[Array.getElem?_push]at a;split at a
         ·rename_i PI;injection a with a
          subst a;rw[zQ (by omega)]at f;have:i'-b.es.length=0:=by omega
          rw[this]at f;simp at f;exact⟨v,F,f.symm,rfl,m,hr⟩
         ·rename_i PI;have hlt:i'<en.size:=(qh.1 a).1;rw[z8 (by omega)]at f;exact J i' c e' f a)
        refine⟨_,S1,G,?_,r.trans k2⟩;simp[Instr.mapUpdate,zz s,Je A,xZ D g,Zq D hn,MapKept.run_setObj_map _ A,Result.andThen]
       ·cases T
      ·cases h
     ·cases h
    ·cases h
   ·cases h
  ·cases h
 ·cases h
end
variable{dr:Prop}
section
variable{P:Program}{w:World}{S:Nat->Prop}{G:Nat->GI}{Y:Hp}{Z:Nat}
theorem LJ(hi:Inv P w S G Y Z){t ty:TypeId}{p x:O}{u:Value}(h:JT P t p=some x)(b:qe w S G Z p u):Qn dr P w Y Z S G x Y Z ((Builtin.len_ #[t] ty #[u]).run P w):=by
 have sl:∀{A:Option Addr} {n c:Nat} {e:TypeId},wY P t=some e->(Builtin.len_ #[t] ty #[.slice A n c]).run P w=.ok (.int .i64 n) w:=fun a=>by simp[Builtin.len_,zz (kW a),goInt]
 unfold JT at h;split at h
 ·obtain⟨rfl,_⟩:=b.wX;split at h
  ·rename_i d;injection h with h
   subst h;exact qp (v:=_) hi (by simp[Builtin.len_,zz d,goInt]) (xD _ rfl)
  ·cases h
 ·cases a:wY P t with
  |none=>simp[a]at h
  |some e=>simp[a]at h;subst h;obtain⟨rfl,_⟩:=b.wX;exact qp (v:=_) hi (sl a) (xD _ rfl)
 ·cases a:wY P t with
  |none=>simp[a]at h
  |some e=>
   simp[a]at h;subst h;cases b.bg with
   |sl us f g i j k l=>exact qp (v:=_) hi (sl a) (xD _ rfl)
 ·cases a:wY P t with
  |none=>simp[a]at h
  |some e=>simp[a]at h;subst h;have:=b.Zd;subst this;exact qp (v:=_) hi (sl a) (xD _ rfl)
 ·cases a:wY P t with
  |none=>simp[a]at h
  |some e=>simp[a]at h;subst h;obtain⟨ad,cap,rfl,_⟩:=b.mL;exact qp (v:=_) hi (sl a) (xD _ rfl)
 ·cases a:wY P t with
  |none=>simp[a]at h
  |some e=>simp[a]at h;subst h;obtain⟨cap,_,_,_,_,rfl⟩:=b.vH;exact qp (v:=_) hi (sl a) (xD _ rfl)
 ·cases h
theorem eM{k:IntKind}:∀{l:zb} {x:Int} {r:O} {us:List Value},V4 k x l=some r->Zip (qe w S G Z) l us->∃n,r=.v (.int k n)/\(us.foldlM Builtin.min2 (.int k x)).run P w=.ok (.int k n) w
 |[],x,r,us,h,a=>by
  simp only[V4]at h;injection h with h
  subst h;rw[a.Wq];exact⟨x,rfl,by simp⟩
 |p::l,x,r,us,h,a=>by
  obtain⟨u,c,rfl,d,b⟩:=a.jG;unfold V4 at h;split at h
  ·cases ‹p::l=[]›
  ·rename_i m y l' e;injection e with f g
   subst f;subst g;split at h
   ·rename_i i;subst i;obtain⟨rfl,_⟩:=d.wX;obtain⟨n,rfl,j⟩:=eM h b;exact⟨n,rfl,by simp only[List.foldlM_cons,vS,Builtin.min2,Wn,kA];exact j⟩
   ·cases h
  ·cases h
theorem eN{k:IntKind}:∀{l:zb} {x:Int} {r:O} {us:List Value},V5 k x l=some r->Zip (qe w S G Z) l us->∃n,r=.v (.int k n)/\(us.foldlM Builtin.max2 (.int k x)).run P w=.ok (.int k n) w
 |[],x,r,us,h,a=>by
  simp only[V5]at h;injection h with h
  subst h;rw[a.Wq];exact⟨x,rfl,by simp⟩
 |p::l,x,r,us,h,a=>by
  obtain⟨u,c,rfl,d,b⟩:=a.jG;unfold V5 at h;split at h
  ·cases ‹p::l=[]›
  ·rename_i m y l' e;injection e with f g
   subst f;subst g;split at h
   ·rename_i i;subst i;obtain⟨rfl,_⟩:=d.wX;obtain⟨n,rfl,j⟩:=eN h b;exact⟨n,rfl,by simp only[List.foldlM_cons,vS,Builtin.max2,Wn,kA];exact j⟩
   ·cases h
  ·cases h
theorem LK(hi:Inv P w S G Y Z){ts:Array TypeId}{ty:TypeId}{xs:zb}{x:O}{us:Array Value}(h:Lx xs=some x)(c:Zip (qe w S G Z) xs us.toList):Qn dr P w Y Z S G x Y Z ((Builtin.min_ ts ty us).run P w):=by
 unfold Lx at h;split at h
 ·rename_i k y l;obtain⟨u,d,a,e,b⟩:=c.jG;obtain⟨rfl,_⟩:=e.wX;obtain⟨n,rfl,f⟩:=eM (P:=P) h b;exact qp (v:=_) hi (by simp only[Builtin.min_,a];exact f) (xD _ rfl)
 ·cases h
theorem LL(hi:Inv P w S G Y Z){ts:Array TypeId}{ty:TypeId}{xs:zb}{x:O}{us:Array Value}(h:Ly xs=some x)(c:Zip (qe w S G Z) xs us.toList):Qn dr P w Y Z S G x Y Z ((Builtin.max_ ts ty us).run P w):=by
 unfold Ly at h;split at h
 ·rename_i k y l;obtain⟨u,d,a,e,b⟩:=c.jG;obtain⟨rfl,_⟩:=e.wX;obtain⟨n,rfl,f⟩:=eN (P:=P) h b;exact qp (v:=_) hi (by simp only[Builtin.max_,a];exact f) (xD _ rfl)
 ·cases h
theorem od:∀(l:List Value) (k off:Nat) (a:Array Value),off+k+l.length<=a.size ->
  ((l.zipIdx k).foldl (fun(cs:Array Value) (p:Value×Nat)=>cs.setIfInBounds (off+p.2) p.1) a).size=a.size /\
  ∀i:Nat,((l.zipIdx k).foldl (fun(cs:Array Value) (p:Value×Nat)=>cs.setIfInBounds (off+p.2) p.1) a)[i]?=if off+k<=i/\i<off+k+l.length then l[i-(off+k)]? else a[i]?
 |[],k,off,a,h=>by simp;omega
 |x::l,k,off,a,h=>by
  simp only[zP]at h;obtain⟨c,e⟩:=od l (k+1) off (a.setIfInBounds (off+k) x) (by simp;omega);simp only[List.zipIdx_cons,vA];refine⟨by rw[c];simp,fun i=>?_⟩;rw[e];by_cases b:off+(k+1)<=i/\i<off+(k+1)+l.length
  ·rw[ze b,ze ⟨by omega,by simp;omega⟩];obtain⟨d,rfl⟩:∃d,i=off+(k+1)+d:=⟨i-(off+(k+1)),by omega⟩;rw[show off+(k+1)+d-(off+(k+1))=d from by omega,show off+(k+1)+d-(off+k)=d+1 from by omega];simp
  ·rw[zd b];by_cases f:i=off+k
   ·subst f;have hs:(a.setIfInBounds (off+k) x)[off+k]?=some x:=by rw[Array.getElem?_setIfInBounds_self_of_lt (by omega)]
    rw[ze ⟨by omega,by simp⟩,hs];simp
   ·rw[zd (by simp;omega),eH (by omega)]
theorem Ff{u:Value}{off:Nat}{cells:Array Value}(h:off+u.cells.size<=cells.size) :
  (u.cells.zipIdx.foldl (fun cs (c,j)=>cs.setIfInBounds (off+j) c) cells).size=cells.size /\
  ∀i:Nat,(u.cells.zipIdx.foldl (fun cs (c,j)=>cs.setIfInBounds (off+j) c) cells)[i]?=if off<=i/\i<off+u.cells.size then u.cells[i-off]? else cells[i]?:=by
 have:=od u.cells.toList 0 off cells (by simpa using h);simp only[Qk,wN,Array.getElem?_toList]at this;rw[<-Array.foldl_toList,Array.toList_zipIdx];exact this
theorem ib{a:Nat->Option (Nat×Nat)}:∀{q:List (Nat×O)} {vs:List (Nat×Value)} {cs d:zb} {cells:Array Value},qE a cs q=some d ->
  Zip (fun p v=>p.1=v.1/\qe w S G Z p.2 v.2) q vs->cs.length=cells.size->(∀(j:Nat) (f:O) (u:Value),cs[j]?=some f->cells[j]?=some u->qe w S G Z f u) ->
  ∃b,Instr.fill a cells vs=some b/\d.length=b.size/\∀(j:Nat) (f:O) (u:Value),d[j]?=some f->b[j]?=some u->qe w S G Z f u
 |[],vs,cs,d,cells,h,r,s,t=>by
  simp only[qE]at h;injection h with h
  subst h;rw[r.Wq];exact⟨cells,rfl,s,t⟩
 |(i,x)::q,vs,cs,d,cells,h,r,s,t=>by
  obtain⟨⟨i',u⟩,k,rfl,⟨e,A⟩,y⟩:=r.jG;simp only at e A;subst e;simp only[qE]at h;split at h
  ·rename_i off n Y;split at h
   ·rename_i C;obtain⟨B,D,E⟩:=C;obtain⟨F,H⟩:=dd A E;have z:u.cells.size=n:=by rw[<-F,B]
    obtain⟨I,J⟩:=Ff (u:=u) (off:=off) (cells:=cells) (by omega);have g:Instr.fill a cells ((i,u)::k)=Instr.fill a (u.cells.zipIdx.foldl (fun cs (c,j)=>cs.setIfInBounds (off+j) c) cells) k:=by
     have K:¬(off+n>cells.size):=by omega
     simp[Instr.fill,Y,z];omega
    rw[g];refine ib h y (by rw[Wt,I,s]) (fun j f v l m=>?_);rw[JV _ _ _ _ (by rw[B];exact D)]at l;rw[J]at m;by_cases o:off<=j/\j<off+u.cells.size
    ·rw[ze o]at m;rw[ze (by omega)]at l;exact(H (j-off) f v l m).1
    ·rw[zd o]at m;rw[zd (by omega)]at l;exact t j f v l m
   ·cases h
  ·cases h
theorem df{d:Operand->Option O}{a:Operand->Value}(b:∀y e,d y=some e->qe w S G Z e (a y)):∀{l:List (Nat×Operand)} {c:List (Nat×O)},vo d l=some c ->
  Zip (fun(p:Nat×O) (v:Nat×Value)=>p.1=v.1/\qe w S G Z p.2 v.2) c (l.map fun(i,x)=>(i,a x))
 |[],c,h=>by
  simp only[vo]at h;injection h with h
  subst h;exact .nil
 |(i,x)::l,c,h=>by
  simp only[vo]at h;split at h
  ·rename_i p r Y f;injection h with h
   subst h;exact .cons ⟨rfl,b _ _ Y⟩ (df b f)
  ·cases h
theorem CU(hi:Inv P w S G Y Z){t:TypeId}{k:List (Nat×O)}{vs:Array (Nat×Value)}{x:O}(h:qb P t k=some x)(K:Zip (fun p v=>p.1=v.1/\qe w S G Z p.2 v.2) k vs.toList) :
  Qn dr P w Y Z S G x Y Z ((Instr.build t vs).run P w):=by
 unfold qb at h;split at h
 ·rename_i L z g o;obtain⟨i,q,r,s,y⟩:=ZY o;obtain⟨A,B⟩:=jc (w:=w) (S:=S) y;cases b:qE (fun i=>L[i]?) z k with
  |none=>simp[b]at h
  |some C=>
   simp[b]at h;subst h;obtain⟨a,D,E,F⟩:=ib b K (cells:=q.cells) (by rw[A];simp) (fun j H u I d=>.c (B j H u I (by simpa using d)).1);have J:P.built t vs.toList=some a:=by
    unfold ZW at g;split at g
    ·rename_i M d;unfold Program.built;simp only[r,d,s,g];simpa using D
    ·cases g
   exact qp (v:=_) hi (run_build w t vs a J) (.agg E F)
 ·rename_i z g o;split at h
  ·rename_i m e d;split at h
   ·rename_i n l;obtain⟨i,q,r,s,y⟩:=ZY o;obtain⟨A,B⟩:=jc (w:=w) (S:=S) y;cases b:qE (fun i=>some (i*n,n)) z k with
    |none=>simp[b]at h
    |some C=>
     simp[b]at h;subst h;obtain⟨a,D,E,F⟩:=ib b K (cells:=q.cells) (by rw[A];simp) (fun j H u I d=>.c (B j H u I (by simpa using d)).1);have J:P.built t vs.toList=some a:=by
      unfold Program.built;unfold qv at l;cases f:P.info? e with
      |none=>simp[f]at l
      |some N=>simp only[f,zy,zW]at l;simp only[r,d,s,f,l];exact D
     exact qp (v:=_) hi (run_build w t vs a J) (.agg E F)
   ·cases h
  ·cases h
 ·cases h
theorem Yz:∀{c a:List (Nat×O)} {Y Y1:Hp} {S:Nat->Prop} {vs:List (Nat×Value)} (_:Inv P w S G Y Z),zp Y c=some (a,Y1) ->
  Zip (fun p v=>p.1=v.1/\qe w S G Z p.2 v.2) c vs->∃g,kO dr P Y Z S G w Y1 Z g G w/\Zip (fun p v=>p.1=v.1/\wH w g p.2 v.2) a vs
 |[],a,Y,Y1,S,vs,hi,h,d=>by
  simp only[zp]at h;injection h with h
  injection h with j k;subst j;subst k;rw[d.Wq];exact⟨S,.refl hi,.nil⟩
 |(i,x)::c,a,Y,Y1,S,vs,hi,h,d=>by
  obtain⟨⟨i',u⟩,o,rfl,⟨e,l⟩,f⟩:=d.jG;simp only at e l;simp only[zp]at h;split at h
  ·rename_i y j q;split at h
   ·rename_i r k s;injection h with h
    injection h with t z;subst t;subst z;obtain⟨A,b,B,_⟩:=kV (dr:=dr) hi q l;have C:=b.same hi;obtain⟨D,m,E⟩:=Yz (S:=A) b.inv s (f.imp fun x u n=>⟨n.1,n.2.mono C (zk _) (fun _ _=>rfl)⟩);exact⟨D,b.trans m,.cons ⟨e,B.mono (m.same b.inv)⟩ E⟩
   ·cases h
  ·cases h
theorem CV{y:O}{u:Value}(h:wH w S y u)(a:y.cells.all O.wW=true):y.cells.length=u.cells.size/\∀(j:Nat) (d:O) (c:Value),y.cells[j]?=some d->u.cells[j]?=some c->wH w S d c/\c.oneCell'=true:=by
 by_cases e:∃cs,y=.agg cs
 ·obtain⟨cs,rfl⟩:=e;cases h with
  |agg k l=>refine⟨k,fun j d c b f=>?_⟩;have g:=l j d c b f;refine⟨g,g.KJ ?_⟩;simp only[O.cells]at a b;exact zY.1 a d (zL b)
 ·have m:y.cells=[y]:=by cases y<;>first|rfl|exact(e ⟨_,rfl⟩).elim
  rw[m]at a⊢;have hi:y.wW=true:=by simpa using a
  have i:=h.KJ hi;have f:u.cells=#[u]:=by cases u<;>first|rfl|simp[Value.oneCell']at i
  rw[f];refine⟨rfl,fun j d c b a=>?_⟩;cases j with
  |zero=>simp at b a;subst b;subst a;exact⟨h,i⟩
  |succ j=>simp at b
theorem bp{n:Nat}:∀{t:List (Nat×O)} {vs:List (Nat×Value)} {es d:List zb} {cells:Array Value},zJ n es t=some d->Zip (fun p v=>p.1=v.1/\wH w S p.2 v.2) t vs ->
  es.length*n=cells.size->(∀c∈es,c.length=n)->(∀(i j:Nat) (c:zb) (f:O),es[i]?=some c->c[j]?=some f->∃u,cells[i*n+j]?=some u/\wH w S f u/\u.oneCell'=true) ->
  ∃a,Instr.fill (fun i=>some (i*n,n)) cells vs=some a/\d.length=es.length/\a.size=cells.size/\(∀c∈d,c.length=n) /\
   ∀(i j:Nat) (c:zb) (f:O),d[i]?=some c->c[j]?=some f->∃u,a[i*n+j]?=some u/\wH w S f u/\u.oneCell'=true
 |[],vs,es,d,cells,h,y,D,r,z=>by
  simp only[zJ]at h;injection h with h
  subst h;rw[y.Wq];exact⟨cells,rfl,rfl,rfl,r,z⟩
 |(i,x)::t,vs,es,d,cells,h,y,D,r,z=>by
  obtain⟨⟨i',u⟩,l,rfl,⟨e,E⟩,A⟩:=y.jG;simp only at e E;subst e;simp only[zJ]at h;split at h
  ·rename_i B;obtain⟨C,F,I⟩:=B;obtain⟨J,K⟩:=CV E I;have m:u.cells.size=n:=by rw[<-J,C]
   have G:i*n+n<=cells.size:=by have:(i+1)*n<=es.length*n:=zH _ F;rw[qQ]at this;omega
   obtain⟨H,L⟩:=Ff (u:=u) (off:=i*n) (cells:=cells) (by omega);have g:Instr.fill (fun i=>some (i*n,n)) cells ((i,u)::l)=Instr.fill (fun i=>some (i*n,n)) (u.cells.zipIdx.foldl (fun cs (c,j)=>cs.setIfInBounds (i*n+j) c) cells) l:=by simp[Instr.fill,m];omega
   rw[g];obtain⟨a,M,N,P,Q,R⟩:=bp h A (cells:=u.cells.zipIdx.foldl (fun cs (c,j)=>cs.setIfInBounds (i*n+j) c) cells) (by rw[H];simpa using D) (fun c B=>by
     rcases ZR B with h|h
     ·exact r c h
     ·subst h;exact C) (fun i' j c f b s=>by
     rw[L];by_cases k:i'=i
     ·subst k;rw[Zb F]at b;injection b with b
      subst b;have o:j<n:=by rw[<-C];exact(zi.1 s).1
      rw[ze ⟨by omega,by omega⟩,show i'*n+j-i'*n=j from by omega];have q:j<u.cells.size:=by omega
      have T:=K j f u.cells[j] s (by simp[q]);exact⟨u.cells[j],by simp[q],T⟩
     ·rw[yV (fun e=>k e.symm)]at b;have o:j<n:=by rw[<-r c (zL b)];exact(zi.1 s).1
      have:=gZ o k 0 n (by omega);rw[zd (by rw[m];simpa using this)];exact z i' j c f b s)
   exact⟨a,M,by rw[N];simp,by rw[P,H],Q,R⟩
  ·cases h
theorem fO(hi:Inv P w S G Y Z){t:TypeId}{len:Nat}{H:List (Nat×O)}{vs:Array (Nat×Value)}{x:O}{I:Hp}{J:Nat}(h:zr P Y Z t len H=some (x,I,J))(T:Zip (fun p v=>p.1=v.1/\qe w S G Z p.2 v.2) H vs.toList) :
  Qn dr P w Y Z S G x I J ((Instr.buildSlice t len vs).run P w):=by
 unfold zr at h;split at h
 ·rename_i e K;split at h
  ·rename_i n z qs Y1 q W X;split at h
   ·rename_i r;obtain⟨s,y,c3⟩:=r;split at h
    ·rename_i es A;injection h with h
     injection h with ex h;injection h with eh en;subst ex;subst eh;subst en;obtain⟨i,f,i1,i2,i3⟩:=ZY W;obtain⟨z1,z2⟩:=jc (w:=w) (S:=S) i3;have B:f.cells.size=n:=by rw[<-y,z1];simp
     obtain⟨S1,C,q1⟩:=Yz (dr:=dr) hi X T;obtain⟨a,L,g2,M,g4,g5⟩:=bp (w:=w) A q1 (cells:=madeCells f.cells (len*n)) (by simp[size_madeCells]) (fun c r=>by rw[(zgg.1 r).2];exact y) (fun i' j c D d o=>by
      have g:i'<len:=by have:=(zi.1 d).1;simpa using this
      rw[xI,ze g]at d;injection d with d
      subst d;have E:j<n:=by rw[<-y];exact(zi.1 o).1
      have k:j<f.cells.size:=by omega
      rw[ug B g E];have N:=z2 j D f.cells[j] o (by simp[k]);exact⟨f.cells[j],by simp[k],N.1.mono (C.same (dr:=dr) hi),N.2.1⟩)
     have F:es.length=len:=by rw[g2];simp
     have k2:=kO.alloc (dr:=dr) C.inv a e true es n s (by simpa[qv]using q) g4 (by rw[M,size_madeCells,F];exact zk _) (fun i' j c D d o=>by obtain⟨u,u1,Q,u3⟩:=g5 i' j c D d o;exact⟨u,u1,fun _=>Q,.c Q,u3⟩)
     have R:¬(len*n>2 ^ 24):=by simp;omega
     refine⟨.slice (some ⟨w.heap.size,0,none⟩) len len,_,_,_,?_,C.trans k2,?_⟩
     ·by_cases l:len*n=0
      ·have hl0:len=0:=by
        rcases Nat.mul_eq_zero.1 l with h|h
        ·exact h
        ·omega
       have b:Instr.fill (fun i=>some (i*n,n)) ((Array.range (len*n)).map ((#[]:Array Value)[· % (#[]:Array Value).size]!)) vs.toList=some a:=by rw[<-L];congr 1;rw[l];simp[madeCells]
       simp[Instr.buildSlice,zz (kW K),ya q,l,newRow];simp[l]at b;simp[b]
      ·have b:Instr.fill (fun i=>some (i*n,n)) ((Array.range (len*n)).map (f.cells[· % f.cells.size]!)) vs.toList=some a:=L;simp[Instr.buildSlice,zz (kW K),ya q,l,newRow,QS i1 i2,b];omega
     ·have m:len<=maxLen:=by have:len*1<=len*n:=Nat.mul_le_mul_left _ s;simp only[maxLen];omega
      have:=qe.own (w:=w.alloc (.cells a e)) (S:=S1) (G:=qR G Z ⟨w.heap.size,a.size,n⟩) (Z:=Z+1) (id:=Z) (off:=0) (n:=len) (cap:=len) (by omega) (zk _) m (by simp[M,size_madeCells]) (by simpa using s);simpa using this
    ·cases h
   ·cases h
  ·cases h
 ·cases h
end
variable{dr:Prop}
section
variable{P:Program}{w:World}{S:Nat->Prop}{G:Nat->GI}{Y:Hp}{Z:Nat}
theorem GD(hi:Inv P w S G Y Z){t t' ty:TypeId}{d x y:O}{Y':Hp}{Z':Nat}{u v:Value}(h:Fc P Y Z t d x=some (y,Y',Z'))(hd:qe w S G Z d u)(hx:qe w S G Z x v) :
  Qn dr P w Y Z S G y Y' Z' ((Builtin.copy_ #[t,t'] ty #[u,v]).run P w):=by
 unfold Fc at h;split at h
 ·rename_i e id off k he;split at h
  ·rename_i b n hb hn;split at h
   ·rename_i xs hv;split at h
    ·rename_i hc;obtain⟨c1,c2,c3,c4⟩:=hc;injection h with h
     injection h with ey h;injection h with eh en;subst ey;subst eh;subst en;have a:=hd.xk;obtain⟨cap,g1,g2,g3,g4,rfl⟩:=hd.vH;obtain⟨A,c,f,rfl,R,f2⟩:=JY hi hv hx;have l:=hi.live id b hb;obtain⟨r,q1,q2,q3⟩:=l.row a;have T:=kW he;have p:(G id).s=n:=by
      have q:=l.size a;rw[c2]at q;have z:(P.info? e).map (·.size)=some n:=by simpa[qv]using hn
      rw[z]at q;injection q with q
      exact q.symm
     have K:Nat.min xs.length k=min xs.length k:=rfl;have W:min xs.length k<=xs.length:=Nat.min_le_left _ _;have hmk:min xs.length k<=k:=Nat.min_le_right _ _;generalize hm:min xs.length k=m at *;have F:=V7 c4 R f2;have hmn:m*n<=xs.length*n:=zH _ W;have B:(Builtin.firstCells n m (.slice A xs.length c)).run P w=.ok ((List.range (m*n)).map f).toArray w:=by
      by_cases h0:m=0
      ·subst h0;cases A<;>simp[Builtin.firstCells,loadCells,loadCellsFrom]
      ·obtain⟨ad,rfl,_,_⟩:=F 0 (Nat.mul_pos (by omega) c4);have:=run_loadCells_list (P:=P) w ad ((List.range (m*n)).map f) (fun j u C=>by
        have X:j<m*n:=by have:=(zi.1 C).1;simpa using this
        obtain⟨ad',e1,e2,_⟩:=F j (by omega);injection e1 with e1;subst e1;rw[qo,jZ X]at C;simp at C;rw[e2,C])
       simpa[Builtin.firstCells]using this
     have D:off*n+m*n<=r.size:=by rw[q2];have q:(off+m)*n<=b.es.length*n:=zH _ (by omega);have z:=l.fit a;rw[p]at z;rw[qQ]at q;omega
     have L:=run_storeCells_at P (G id).g (off*n) b.e ((List.range (m*n)).map f) 0 r w q1 (by simpa using D) (fun u T=>by obtain⟨k,hk,rfl⟩:=qw.1 T;exact(F k (by have:=ye.1 hk;omega)).choose_spec.2.2)
     simp only[Qk]at L;have M:((List.range (m*n)).map f).length=m*n:=by simp
     have N:off*n+((List.range (m*n)).map f).length<=r.toList.length:=by simpa using D
     have k2:=kO.set (dr:=dr) hi hb a (r.toList.take (off*n)++(List.range (m*n)).map f++r.toList.drop (off*n+((List.range (m*n)).map f).length)).toArray (b.es.take off++xs.take m++b.es.drop (off+m))
      (by rw[jy,QT _ _ _ N];simpa using q2)
      (fun E Q=>by
       rw[q5]at Q;rcases zK.1 Q with h|h
       ·exact l.len a E (KG _ _ h)
       ·rcases zK.1 h with h|h
        ·rw[p];exact R E (KG _ _ h)
        ·exact l.len a E (Wm _ _ h))
      (by
       have q:=l.fit a;have:(b.es.take off++xs.take m++b.es.drop (off+m)).length=b.es.length:=by simp;omega
       rw[this];exact q)
      (fun i' j E pv o C=>by
       have H:(xs.take m).length=m:=by simp;omega
       rw[show off+m=off+(xs.take m).length from by rw[H],vp _ _ _ _ (by rw[H];omega),H]at o;rw[List.getElem?_toArray,vp _ _ _ _ N,M,p];by_cases I:off<=i'/\i'<off+m
       ·rw[ze I,qt,ze (by omega)]at o;have J:j<n:=by rw[<-R E (zL o)];exact(zi.1 C).1
        have q:off*n<=i'*n:=zH _ I.1;have z:=j5 (i:=i'-off) (n:=m) (by omega) J;have h7:i'*n+j-off*n=(i'-off)*n+j:=by rw[Gi];omega
        rw[ze ⟨by omega,by rw[Gi]at z;omega⟩,h7,qo,jZ z];obtain⟨ad',a1,a2,a3⟩:=f2 (i'-off) j E pv o C;refine⟨f ((i'-off)*n+j),rfl,?_⟩;rw[c1];exact a3
       ·rw[zd I]at o;have J:j<n:=by rw[<-p,<-l.len a E (zL o)];exact(zi.1 C).1
        have:¬(off*n<=i'*n+j/\i'*n+j<off*n+m*n):=by
         by_cases q:i'<off
         ·have z:=j5 (n:=off) q J;omega
         ·have z:off+m<=i':=by omega
          have h7:(off+m)*n<=i'*n:=zH _ z;rw[qQ]at h7;omega
        rw[zd this];obtain⟨u',u1,u2⟩:=q3 i' j E pv o C;rw[p]at u1;exact⟨u',by simpa using u1,u2⟩)
     rw[c1]at k2;refine⟨.int .i64 m,_,_,_,?_,k2,xD _ rfl⟩;simp[Builtin.copy_,zz T,Builtin.lenOf,ya hn,K,B,p,L,goInt]
    ·cases h
   ·cases h
  ·cases h
 ·cases h
theorem LM{ts:Array TypeId}{us:Array Value}{t:TypeId}{u:Value}(ty:TypeId)(a:ts[0]?=some t)(b:us[0]?=some u):Builtin.clear_ ts ty us=Builtin.clear_ #[t] ty #[u]:=by simp[Builtin.clear_,a,b]
theorem CW(hi:Inv P w S G Y Z){t ty:TypeId}{x y:O}{Y':Hp}{Z':Nat}{v:Value}(h:db P Y Z t x=some (y,Y',Z'))(hd:qe w S G Z x v) :
  Qn dr P w Y Z S G y Y' Z' ((Builtin.clear_ #[t] ty #[v]).run P w):=by
 unfold db at h;split at h
 ·rename_i e id off k he;split at h
  ·rename_i b n z hb hn hz;split at h
   ·rename_i hc;obtain⟨⟨c0,c5⟩,c1,c2,c3,c4⟩:=hc;injection h with h
    injection h with ey h;injection h with eh en;subst ey;subst eh;subst en;have l:=hd.xk;obtain⟨cap,g1,g2,g3,g4,rfl⟩:=hd.vH;have p:=hi.live id b hb;obtain⟨C,q1,q2,q3⟩:=p.row l;have hu:=kW he;have A:(G id).s=n:=by
     have B:=p.size l;rw[c2]at B;have F:(P.info? e).map (·.size)=some n:=by simpa[qv]using hn
     rw[F]at B;injection B with B
     exact B.symm
    obtain⟨i,L,i1,i2,i3⟩:=ZY hz;obtain⟨z1,z2⟩:=jc (w:=w) (S:=S) i3;have N:L.cells.size=n:=by have:=z1;simp at this;omega
    obtain⟨d,f⟩:=yx ((Builtin.zeroCells L.cells k).toList);have D:d.length=k*n:=by rw[<-f];simp[Builtin.zeroCells,N]
    have Q:∀q r,q<k->r<n->d[q*n+r]?=L.cells[r]?:=fun q r hq hr=>by
     have hlt:=j5 (n:=k) hq hr;have hm:(q*n+r) % n=r:=by rw[cW,Nat.add_mul_mod_self_right];exact Nat.mod_eq_of_lt hr
     rw[<-f];simp only[Builtin.zeroCells,N,Array.toList_map,Array.toList_range,qo];rw[jZ hlt,zy,hm,WU _ r (by omega),jY (by omega)]
    have R:∀r I u,z[r]?=some I->L.cells[r]?=some u->wH w S I u/\u.oneCell'=true:=fun r I u h1 h2=>by obtain⟨a,b,_⟩:=z2 r I u h1 (by simpa using h2);exact⟨a,b⟩
    have T:∀u∈d,u.oneCell'=true:=fun u hu=>by
     obtain⟨m,hm⟩:=mJ hu;have hml:m<k*n:=by rw[<-D];exact(zi.1 hm).1
     have e1:m/n*n+m % n=m:=by rw[cX];exact Nat.div_add_mod m n
     have hmr:m % n<n:=zgh _ c0;have M:=Q (m/n) (m % n) (Nat.div_lt_of_lt_mul (by rw[cX];exact hml)) hmr;rw[e1,hm]at M;exact(R (m % n) (z[m % n]'(by omega)) u (zl (by omega)) M.symm).2
    have H:off*n+k*n<=C.size:=by rw[q2];have B:(off+k)*n<=b.es.length*n:=zH _ c3;have F:=p.fit l;rw[A]at F;rw[qQ]at B;omega
    have W:=run_storeCells_at P (G id).g (off*n) b.e d 0 C w q1 (by rw[D];simpa using H) T;simp only[Qk]at W;have X:off*n+d.length<=C.toList.length:=by rw[D];simpa using H
    have k2:=kO.set (dr:=dr) hi hb l (C.toList.take (off*n)++d++C.toList.drop (off*n+d.length)).toArray (b.es.take off++List.replicate k z++b.es.drop (off+k))
     (by rw[jy,QT _ _ _ X];simpa using q2)
     (fun c' hc'=>by
      rw[q5]at hc';rcases zK.1 hc' with h|h
      ·exact p.len l c' (KG _ _ h)
      ·rcases zK.1 h with h|h
       ·rw[A,List.eq_of_mem_replicate h];exact c5
       ·exact p.len l c' (Wm _ _ h))
     (by
      have B:=p.fit l;have:(b.es.take off++List.replicate k z++b.es.drop (off+k)).length=b.es.length:=by simp;omega
      rw[this];exact B)
     (fun i' j c' I o hj=>by
      have J:(List.replicate k z).length=k:=by simp
      rw[show off+k=off+(List.replicate k z).length from by rw[J],vp _ _ _ _ (by rw[J];omega),J]at o;rw[List.getElem?_toArray,vp _ _ _ _ X,D,A];by_cases K:off<=i'/\i'<off+k
      ·rw[ze K,xI,ze (by omega)]at o;injection o with o
       subst o;have E:j<n:=by rw[<-c5];exact(zi.1 hj).1
       have B:off*n<=i'*n:=zH _ K.1;have F:=j5 (i:=i'-off) (n:=k) (by omega) E;have M:i'*n+j-off*n=(i'-off)*n+j:=by rw[Gi];omega
       rw[ze ⟨by omega,by rw[Gi]at F;omega⟩,M,Q _ _ (by omega) E];have h8:L.cells[j]?=some (L.cells[j]'(by omega)):=jY (by omega);obtain⟨r1,r2⟩:=R j I _ hj h8;exact⟨_,h8,fun _=>r1,.c r1,r2⟩
      ·rw[zd K]at o;have E:j<n:=by rw[<-A,<-p.len l c' (zL o)];exact(zi.1 hj).1
       have:¬(off*n<=i'*n+j/\i'*n+j<off*n+k*n):=by
        by_cases B:i'<off
        ·have F:=j5 (n:=off) B E;omega
        ·have F:off+k<=i':=by omega
         have M:(off+k)*n<=i'*n:=zH _ F;rw[qQ]at M;omega
       rw[zd this];obtain⟨u',u1,u2⟩:=q3 i' j c' I o hj;rw[A]at u1;exact⟨u',by simpa using u1,u2⟩)
    rw[c1]at k2;refine⟨.tuple #[],_,_,_,?_,k2,.c (.wP rfl (by simp))⟩;obtain⟨k',rfl⟩:∃k',k=k'+1:=⟨k-1,by omega⟩;simp[Builtin.clear_,zz hu,QS i1 i2,f,A,W]
   ·cases h
  ·cases h
 ·cases h
theorem Q8{c:Operand->Option O}{a:Operand->Value}(b:∀y f,c y=some f->qe w S G Z f (a y)):∀{l:List Operand} {xs:zb},yh (l.map c)=some xs->Zip (qe w S G Z) xs (l.map a)
 |[],xs,h=>by
  simp only[KH,yh]at h;injection h with h
  subst h;exact .nil
 |x::l,xs,h=>by
  simp only[wc]at h;cases d:c x with
  |none=>rw[d]at h;simp[yh]at h
  |some p=>
   rw[d]at h;simp only[yh]at h;cases e:yh (l.map c)with
   |none=>rw[e]at h;simp at h
   |some r=>rw[e]at h;simp at h;subst h;exact .cons (b _ _ d) (Q8 b e)
def kh(dr:Prop)(P:Program)(g:FuncId)(a:AM.Spec):Prop:=
 (∃fn,P.funcs[g]?=some fn/\(fn.name== "runtime.NumGoroutine")=false/\fn.body.isNone=false) /\
 ∀(args:zb) (Y:Hp) (Z:Nat) (r:O) (c:Hp) (b:Nat),a args Y Z=some (r,c,b)->∀(w:World) (S:Nat->Prop) (G:Nat->GI) (vs:List Value),Inv P w S G Y Z->Zip (qe w S G Z) args vs ->
  Calls P g vs.toArray w fun e w'=>∃v d f,e=.returned v/\kO dr P Y Z S G w c b d f w'/\qe w' d f b r v
abbrev zf:=kh True
def TD(dr:Prop)(P:Program)(w:World)(Y:Hp)(Z:Nat)(S:Nat->Prop)(G:Nat->GI)(x:O)(d:Hp)(c:Nat)(r:Result Next):Prop:=
 (∃v w' a b,(r=.ok (.value v) w'\/(r=.ok .skip w'/\v=undef))/\kO dr P Y Z S G w d c a b w'/\qe w' a b c x v) \/
 ∃g vs,r=.ok (.enter g vs) w/\Calls P g vs w fun e w'=>∃v a b,e=.returned v/\kO dr P Y Z S G w d c a b w'/\qe w' a b c x v
theorem Qn.op{x:O}{a:Hp}{b:Nat}{s:Sem Value}(h:Qn dr P w Y Z S G x a b (s.run P w)):TD dr P w Y Z S G x a b ((do pure (.value (<-s)):Sem Next).run P w):=by obtain⟨v,w',c,d,e,f,g⟩:=h;exact .inl ⟨v,w',c,d,.inl (by simp[e]),f,g⟩
theorem UO{ts:Array TypeId}{us:Array Value}{t:TypeId}{u:Value}(ty:TypeId)(a:ts[0]?=some t)(b:us[0]?=some u):Builtin.len_ ts ty us=Builtin.len_ #[t] ty #[u]:=by simp[Builtin.len_,a,b]
theorem GF{ts:Array TypeId}{us:Array Value}{t t':TypeId}{u v:Value}(ty:TypeId)(a:ts[0]?=some t)(b:ts[1]?=some t')(c:us[0]?=some u)(d:us[1]?=some v):Builtin.append_ ts ty us=Builtin.append_ #[t,t'] ty #[u,v]:=by simp[Builtin.append_,a,b,c,d]
theorem PO{ts:Array TypeId}{us:Array Value}{t:TypeId}{u v:Value}(ty:TypeId)(a:ts[0]?=some t)(b:us[0]?=some u)(c:us[1]?=some v):Builtin.copy_ ts ty us=Builtin.copy_ #[t,t] ty #[u,v]:=by simp[Builtin.copy_,a,b,c]
theorem WN{α a:Type}{R:α->a->Prop}{x:α}{us:List a}(h:Zip R [x] us):∃u,us=[u]/\R x u:=by obtain⟨u,b,rfl,c,d⟩:=h.jG;rw[d.Wq];exact⟨u,rfl,c⟩
theorem Fg{α a:Type}{R:α->a->Prop}{x y:α}{us:List a}(h:Zip R [x,y] us):∃u v,us=[u,v]/\R x u/\R y v:=by obtain⟨u,b,rfl,c,d⟩:=h.jG;obtain⟨v,rfl,e⟩:=WN d;exact⟨u,v,rfl,c,e⟩
theorem Zip.append{α c:Type}{R:α->c->Prop}{xs ys:List α}{us vs:List c}(h:Zip R xs us)(k:Zip R ys vs):Zip R (xs++ys) (us++vs):=by
 refine⟨by simp[h.1,k.1],fun j x u a b=>?_⟩;by_cases d:j<xs.length
 ·rw[z8 d]at a;rw[z8 (by rw[<-h.1];exact d)]at b;exact h.2 j x u a b
 ·rw[zQ (by omega)]at a;rw[zQ (by rw[<-h.1];omega),<-h.1]at b;exact k.2 _ x u a b
theorem zV{α a:Type}{o:Option α}{f:α->a}{y:a}(h:o.map f=some y):∃x,o=some x/\f x=y:=by
 cases o with
 |none=>simp at h
 |some x=>exact⟨x,rfl,by simpa using h⟩
end
theorem bq{C:Ctx}{w:World}{S:Nat->Prop}{G:Nat->GI}{Y:Hp}{Z:Nat}(hΓ:∀g L,C.Γ g=some L->kh dr C.P g L)(hi:Inv C.P w S G Y Z)
  {ρ:Operand->Option O} {a:Operand->Value} (d:∀y pv,ρ y=some pv->qe w S G Z pv (a y)) {o:Oper} {x:O} {Y':Hp} {Z':Nat} (h:zU C ρ Y Z o.op=some (x,Y',Z')) :
  TD dr C.P w Y Z S G x Y' Z' ((execOp a o).run C.P w):=by
 have A:∀{f:O} {y:O},(f,Y,Z)=(y,Y',Z')->f=y/\Y=Y'/\Z=Z':=by
  intro f y h;injection h with K h
  injection h with N Q;exact⟨K,N,Q⟩
 unfold zU at h;unfold execOp;split at h
 ·rename_i y B;obtain⟨p,D,F⟩:=zV h;obtain⟨rfl,rfl,rfl⟩:=A F;simp only[B];exact .inl ⟨a y,w,S,G,.inl rfl,.refl hi,d _ _ D⟩
 ·rename_i y B;obtain⟨p,D,F⟩:=zV h;obtain⟨rfl,rfl,rfl⟩:=A F;simp only[B];exact .inl ⟨a y,w,S,G,.inl rfl,.refl hi,d _ _ D⟩
 ·rename_i c y z B;simp only[B];split at h
  ·rename_i W;obtain⟨p,D,F⟩:=zV h;obtain⟨rfl,rfl,rfl⟩:=A F;obtain⟨e,_⟩:=(d _ _ W).wX;exact .inl ⟨a y,w,S,G,.inl (by simp[e,asBool]),.refl hi,d _ _ D⟩
  ·rename_i W;obtain⟨p,D,F⟩:=zV h;obtain⟨rfl,rfl,rfl⟩:=A F;obtain⟨e,_⟩:=(d _ _ W).wX;exact .inl ⟨a z,w,S,G,.inl (by simp[e,asBool]),.refl hi,d _ _ D⟩
  ·cases h
 ·rename_i t B;simp only[B];split at h
  ·rename_i n z D F;split at h
   ·rename_i hl;injection h with h
    injection h with K h;injection h with N Q;subst K;subst N;subst Q;exact(CM hi D F hl.1 hl.2).op
   ·cases h
  ·cases h
 ·rename_i t y B;simp only[B];split at h
  ·rename_i n p D F;split at h
   ·rename_i W;injection h with h
    injection h with K h;injection h with N Q;subst K;subst N;subst Q;exact(LA hi D (d _ _ F) W.1 W.2.1 W.2.2).op
   ·cases h
  ·cases h
 ·rename_i t parts B;simp only[B];split at h
  ·rename_i ps hps;obtain⟨p,D,F⟩:=zV h;obtain⟨rfl,rfl,rfl⟩:=A F;exact(CU hi D (by simpa using df d hps)).op
  ·cases h
 ·rename_i t len parts B;simp only[B];split at h
  ·rename_i ps hps;exact(fO hi h (by simpa using df d hps)).op
  ·cases h
 ·rename_i t y B;simp only[B];split at h
  ·rename_i p Y1;obtain⟨q,D,F⟩:=zV h;obtain⟨rfl,rfl,rfl⟩:=A F;exact(nY hi D (d _ _ Y1)).op
  ·cases h
 ·rename_i t y z B;simp only[B];split at h
  ·rename_i p q D F;obtain⟨Y1,I,H⟩:=zV h;injection H with K H
   injection H with N Q;subst K;subst N;subst Q;obtain⟨w',S',G',r1,r2⟩:=CN hi I (d _ _ D) (d _ _ F);exact .inl ⟨undef,w',S',G',.inr ⟨by simp[r1],rfl⟩,r2,jM⟩
  ·cases h
 ·rename_i y B;simp only[B];split at h
  ·rename_i id i j hy;injection h with h
   obtain⟨rfl,rfl,rfl⟩:=A h;have hr:=d _ _ hy;obtain⟨D,F⟩:=hr.WV;exact .inl ⟨a y,w,S,G,.inl (by rw[F];rfl),.refl hi,hr⟩
  ·rename_i cs hy;injection h with h
   obtain⟨rfl,rfl,rfl⟩:=A h;have hr:=d _ _ hy;have hr2:=hr;have W:=hr.KK;generalize hay:a y=u at *;cases W with
   |ptr us D F=>exact .inl ⟨_,w,S,G,.inl rfl,.refl hi,hr2⟩
  ·cases h
 ·rename_i op t y z t2 B;simp only[B];split at h
  ·rename_i p q D F;obtain⟨r,I,H⟩:=zV h;obtain⟨rfl,rfl,rfl⟩:=A H;exact(Gx hi y z I (d _ _ D) (d _ _ F)).op
  ·cases h
 ·rename_i op t y B;simp only[B];split at h
  ·rename_i p D;obtain⟨r,I,H⟩:=zV h;obtain⟨rfl,rfl,rfl⟩:=A H;exact(Gy hi I (d _ _ D)).op
  ·cases h
 ·rename_i src dst y B;simp only[B];split at h
  ·rename_i p D;obtain⟨r,I,H⟩:=zV h;obtain⟨rfl,rfl,rfl⟩:=A H;exact(Gz hi I (d _ _ D)).op
  ·cases h
 ·rename_i f first J B
  simp only[B];split at h
  ·rename_i xs ys D F;injection h with h
   obtain⟨rfl,rfl,rfl⟩:=A h;exact(mU hi (by simpa using Q8 d D) (by simpa using Q8 d F)).op
  ·cases h
 ·rename_i t l c B;simp only[B];split at h
  ·rename_i p q D F;exact(hZ hi h (d _ _ D) (d _ _ F)).op
  ·cases h
 ·rename_i t y lo hh B;simp only[B];split at h
  ·rename_i p D;obtain⟨r,I,H⟩:=zV h;obtain⟨rfl,rfl,rfl⟩:=A H;have hd:∀o:Option Operand,o.map ρ=none->o.map a=none:=fun o h=>by cases o<;>simp_all
   have hs:∀(o:Option Operand) (p:O),o.map ρ=some (some p)->∃u,o.map a=some u/\qe w S G Z p u:=fun o p h=>by
    cases o with
    |none=>simp at h
    |some y=>exact⟨a y,rfl,d _ _ (by simpa using h)⟩
   exact(CR hi I (d _ _ D) (hd lo) (hs lo) (hd hh) (hs hh)).op
  ·cases h
 ·rename_i t y f B;simp only[B];split at h
  ·rename_i p D;obtain⟨r,I,H⟩:=zV h;obtain⟨rfl,rfl,rfl⟩:=A H;exact(hC hi I (d _ _ D)).op
  ·cases h
 ·rename_i t y f B;simp only[B];split at h
  ·rename_i p D;obtain⟨r,I,H⟩:=zV h;obtain⟨rfl,rfl,rfl⟩:=A H;exact(CO hi I (d _ _ D)).op
  ·cases h
 ·rename_i t y z B;simp only[B];split at h
  ·rename_i p q D F;obtain⟨r,I,H⟩:=zV h;obtain⟨rfl,rfl,rfl⟩:=A H;exact(hU hi I (d _ _ D) (d _ _ F)).op
  ·cases h
 ·rename_i t y z B;simp only[B];split at h
  ·rename_i p q D F;obtain⟨r,I,H⟩:=zV h;obtain⟨rfl,rfl,rfl⟩:=A H;exact(CP hi I (d _ _ D) (d _ _ F)).op
  ·cases h
 ·rename_i y i B;simp only[B];split at h
  ·rename_i vs D;obtain⟨r,I,H⟩:=zV h;obtain⟨rfl,rfl,rfl⟩:=A H;exact(pY hi I (d _ _ D)).op
  ·cases h
 ·rename_i c B;simp only[B];obtain⟨callee,⟨E⟩,M⟩:=c;unfold xO at h;simp only at h;split at h
  ·rename_i xs R;have hz:=Q8 d R;split at h
   ·rename_i b;unfold yn at h;split at h
    ·split at h
     ·rename_i y t ht;obtain⟨u,hu1,hu2⟩:=WN hz;obtain⟨r,I,H⟩:=zV h;obtain⟨rfl,rfl,rfl⟩:=A H;have hd:=(LJ (dr:=dr) (ty:=o.type) hi I hu2).op;rw[<-UO (us:=(E.map a).toArray) o.type ht (by simp[hu1])]at hd;simpa[resolve,invoke,builtin,-bind_pure_comp]using hd
     ·cases h
    ·obtain⟨r,I,H⟩:=zV h;obtain⟨rfl,rfl,rfl⟩:=A H;have hd:=(LK (dr:=dr) (us:=(E.map a).toArray) (ts:=M) (ty:=o.type) hi I (by simpa using hz)).op;simpa[resolve,invoke,builtin,-bind_pure_comp]using hd
    ·obtain⟨r,I,H⟩:=zV h;obtain⟨rfl,rfl,rfl⟩:=A H;have hd:=(LL (dr:=dr) (us:=(E.map a).toArray) (ts:=M) (ty:=o.type) hi I (by simpa using hz)).op;simpa[resolve,invoke,builtin,-bind_pure_comp]using hd
    ·split at h
     ·rename_i s y t t' ht ht';obtain⟨u,v,T,hu,hv⟩:=Fg hz;have hd:=(uh (dr:=dr) (ty:=o.type) hi h hu hv).op;rw[<-GF (us:=(E.map a).toArray) o.type ht ht' (by simp[T]) (by simp[T])]at hd;simpa[resolve,invoke,builtin,-bind_pure_comp]using hd
     ·cases h
    ·split at h
     ·rename_i s y t ht;obtain⟨u,v,T,hu,hv⟩:=Fg hz;have hd:=(GD (dr:=dr) (t':=t) (ty:=o.type) hi h hu hv).op;rw[<-PO (us:=(E.map a).toArray) o.type ht (by simp[T]) (by simp[T])]at hd;simpa[resolve,invoke,builtin,-bind_pure_comp]using hd
     ·cases h
    ·split at h
     ·rename_i y t ht;obtain⟨u,hu1,hu2⟩:=WN hz;have hd:=(CW (dr:=dr) (ty:=o.type) hi h hu2).op;rw[<-LM (us:=(E.map a).toArray) o.type ht (by simp[hu1])]at hd;simpa[resolve,invoke,builtin,-bind_pure_comp]using hd
     ·cases h
    ·cases h
   ·rename_i f;unfold jH at h;split at h
    ·rename_i g first J hf
     split at h
     ·rename_i L hg;obtain⟨⟨fn,f1,f2,f3⟩,X⟩:=hΓ g L hg;obtain⟨us,ts,K,l1,l2,r1,r2⟩:=(d _ _ hf).tR;have hz:Zip (qe w S G Z) (first++xs++J) (us.toList++E.map a++ts.toList):=
       (Zip.append ⟨by simpa using l1,fun j pv x p q=>r1 j pv x p (by simpa using q)⟩ (Q8 d R)).append ⟨by simpa using l2,fun j pv x p q=>r2 j pv x p (by simpa using q)⟩
      refine .inr ⟨g,(us.toList++E.map a++ts.toList).toArray,?_,X _ _ _ _ _ _ h w S G _ hi hz⟩;have f2':¬fn.name= "runtime.NumGoroutine":=by simpa using f2
      have f3':¬fn.body=none:=by intro h;simp[h]at f3
      have e5:(us.toList++E.map a++ts.toList).toArray=us++(E.map a).toArray++ts:=by apply Array.ext';simp
      rw[e5];simp[resolve,K,Deferred.ofValue,invoke,callFunc,f1,f2',f3']
     ·cases h
    ·cases h
   ·cases h
  ·cases h
 ·rename_i t B;simp only[B];split at h
  ·rename_i kt hk;injection h with h
   injection h with K h;injection h with N Q;subst K;subst N;subst Q;exact(ra hi t).op
  ·cases h
 ·rename_i t y z ok B;simp only[B];split at h
  ·rename_i p q D F;obtain⟨r,I,H⟩:=zV h;obtain⟨rfl,rfl,rfl⟩:=A H;exact(ui hi I (d _ _ D) (d _ _ F)).op
  ·cases h
 ·rename_i t m k y B;simp only[B];split at h
  ·rename_i p q r D F I;obtain⟨Y1,H,h5⟩:=zV h;injection h5 with K h5
   injection h5 with N Q;subst K;subst N;subst Q;obtain⟨w',S',G',r1,r2⟩:=eL hi H (d _ _ D) (d _ _ F) (d _ _ I);exact .inl ⟨undef,w',S',G',.inr ⟨by simp[r1],rfl⟩,r2,jM⟩
  ·cases h
 ·rename_i t m k y B;simp only[B];split at h
  ·rename_i p q r D F I;obtain⟨Y1,H,h5⟩:=zV h;injection h5 with K h5
   injection h5 with N Q;subst K;subst N;subst Q;obtain⟨w',S',G',r1,r2⟩:=eL hi H (d _ _ D) (d _ _ F) (d _ _ I);exact .inl ⟨undef,w',S',G',.inr ⟨by simp[r1],rfl⟩,r2,jM⟩
  ·cases h
 ·cases h
end Go.AM
