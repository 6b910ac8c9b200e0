/- Lemmas. -/
import Derived.Test.YtmngbpkapamhoaaGreatDoorG1
set_option maxRecDepth 8000
open Go Proofs Proofs.YtmngbpkapamhoaaGreatDoor Proofs.Tryz RowKit AM SpanLaw Q Zz
namespace Go.AM
variable{dr:Prop}
section
variable{P:Program}{w:World}{S:Nat->Prop}{G:Nat->GI}{Y:Hp}{Z:Nat}
theorem fX{o:Option (Option O)}{v:Option Value}{a n y:Nat}(code:BoundsCode)(h:vD a o=some n)(d:n<=y)(hd:o=none->v=none)(hs:∀p,o=some (some p)->∃u,v=some u/\qw w S G Z p u)(e:o≠some none) :
  (v=none/\n=a)\/∃k i,v=some (.int k i)/\(Instr.sliceBound (.int k i) y code).run P w=.ok n w:=by
 unfold vD at h;split at h
 ·injection h with h;exact .inl ⟨hd rfl,h.symm⟩
 ·rename_i k i;split at h
  ·rename_i b;injection h with h
   subst h;obtain⟨u,rfl,c⟩:=hs _ rfl;obtain⟨rfl,_⟩:=c.yi;refine .inr ⟨k,i,rfl,?_⟩;have:i<=y:=by omega
   simp[Instr.sliceBound,asIntOf,b,this]
  ·cases h
 ·cases h
theorem Ji{isS:Bool}{len cap l h:Nat}{lo hi:Option (Option O)}{vl vh:Option Value}(c:vD 0 lo=some l)(g:vD len hi=some h)(a:l<=h)(b:h<=cap)
  (d:lo=none->vl=none) (e:∀p,lo=some (some p)->∃u,vl=some u/\qw w S G Z p u) (n1:lo≠some none)
  (j:hi=none->vh=none) (m:∀p,hi=some (some p)->∃u,vh=some u/\qw w S G Z p u) (n:hi≠some none) :
  (Instr.sliceBounds isS len cap vl vh none).run P w=.ok (l,h,cap) w:=by
 rcases fX (P:=P) (if isS then .sliceAcap else .sliceAlen) g b j m n with⟨rfl,rfl⟩|⟨k,i,rfl,q⟩
 ·rcases fX (P:=P) .sliceB c a d e n1 with⟨rfl,rfl⟩|⟨o,i',rfl,f⟩
  ·simp[Instr.sliceBounds]
  ·simp[Instr.sliceBounds,f]
 ·rcases fX (P:=P) .sliceB c a d e n1 with⟨rfl,rfl⟩|⟨o,i',rfl,f⟩
  ·cases isS<;>simp_all[Instr.sliceBounds]
  ·cases isS<;>simp_all[Instr.sliceBounds]
theorem Hc(hi:Inv P w S G Y Z){t:TypeId}{p x:O}{lo R:Option (Option O)}{vl vh:Option Value}{u:Value}(h:jO P Y t p lo R=some x)(Y':qw w S G Z p u)
  (K:lo=none->vl=none) (L:∀p,lo=some (some p)->∃u,vl=some u/\qw w S G Z p u)
  (M:R=none->vh=none) (N:∀p,R=some (some p)->∃u,vh=some u/\qw w S G Z p u):Q9 dr P w Y Z S G x Y Z ((Instr.sliceAt t u vl vh none).run P w):=by
 have B:∀{d n:Nat} {o:Option (Option O)},vD d o=some n->o≠some none:=by rintro d n o h rfl;simp[vD]at h
 unfold jO at h;split at h
 ·rename_i s y;obtain⟨rfl,_⟩:=Y'.yi;split at h
  ·rename_i l k q r;split at h
   ·rename_i f;injection h with h
    subst h;have z:=Ji (P:=P) (isS:=false) (cap:=s.size) q r f.1 f.2 K L (B q) M N (B r);exact qH (v:=.string (s.extract l k)) hi (by simp[Instr.sliceAt,zK y,Instr.slice,z]) (Zf _ rfl)
   ·cases h
  ·cases h
 ·rename_i e s es y;split at h
  ·rename_i n l k a q r;split at h
   ·rename_i f;obtain⟨rfl,f⟩:=f;injection h with h
    subst h;cases Y'.dF with
    |sl us h0 h1 h2 h3 h4 h5=>
     rename_i A cap;have z:=Ji (P:=P) (isS:=true) (cap:=cap) q r f.1 (by omega) K L (B q) M N (B r);have D:((es.drop l).take (k-l)).length=k-l:=by simp;omega
     have C:∀(i:Nat) (c:zb),((es.drop l).take (k-l))[i]?=some c->i<k-l/\es[l+i]?=some c:=by
      intro i c hi;rw[qI]at hi;split at hi
      ·rw[q8]at hi;exact⟨by assumption,hi⟩
      ·cases hi
     have E:ya w S (.sl s ((es.drop l).take (k-l))) (.slice (if cap=l then A else A.map (·.add (l*s))) ((es.drop l).take (k-l)).length (cap-l)):=by
      refine .sl (fun i j=>us (l+i) j) (fun T=>by have:A=none:=(by split at T<;>simp_all);have:=h0 this;omega) (by omega) (by omega) (fun c f=>h3 c (Yl _ _ (V2 _ _ f))) (fun i j c U hi W=>?_) (fun i j c U hi W=>h5 _ j c U (C i c hi).2 W);obtain⟨Dp,X⟩:=C i c hi;obtain⟨ad,rfl,Q,g2,g3⟩:=h4 (l+i) j c U X W;rw[ze (by omega)];refine⟨ad.add (l*s),rfl,by rw[Wm];exact Q,?_,g3⟩;rw[dI];have:l*s+(i*s+j)=(l+i)*s+j:=by rw[wo];omega
      rw[this];exact g2
     rw[D]at E;exact qH (v:=_) hi (by simp[Instr.sliceAt,zK y,Instr.slice,z,yA a]) (.c E)
   ·cases h
  ·cases h
 ·rename_i e y;have:=Y'.xQ;subst this;split at h
  ·rename_i n l k a q r;split at h
   ·rename_i f;obtain⟨rfl,rfl⟩:=f;injection h with h
    subst h;have z:=Ji (P:=P) (isS:=true) (len:=0) (cap:=0) q r (zl _) (zl _) K L (B q) M N (B r);exact qH (v:=.slice none 0 0) hi (by simp[Instr.sliceAt,zK y,Instr.slice,z,yA a]) (.c .nil)
   ·cases h
  ·cases h
 ·rename_i e id off n y;have F:=Y'.vy;obtain⟨cap,Q,g2,g3,g4,rfl⟩:=Y'.vf;split at h
  ·rename_i m l k a q r;split at h;rename_i b hbl;split at h
   ·rename_i f;obtain⟨hbm,f⟩:=f;injection h with h
    have z:=Ji (P:=P) (isS:=true) (cap:=cap) q r f.1 (by omega) K L (B q) M N (B r);by_cases H:l=0
    ·subst H;simp only[qV]at h;subst h;refine qH (v:=.slice (some ⟨(G id).g,off*(G id).s,none⟩) k cap) hi ?_ (.own Q (by omega) g3 g4 F);by_cases I:cap=0
     ·subst I;simp[Instr.sliceAt,zK y,Instr.slice,z,yA a]
     ·simp[Instr.sliceAt,zK y,Instr.slice,z,yA a,I,ko]
    ·rw[ze H]at h;by_cases J:k=l
     ·subst J;simp only[qV]at h;subst h;refine qH (v:=_) hi (by simp[Instr.sliceAt,zK y,Instr.slice,z,yA a];rfl) (.c ?_);exact .sl (es:=[]) (fun _ _=>undef) (fun T=>by split at T<;>simp_all) (by simp) (by omega) (by simp) (by simp) (by simp)
     ·rw[ze J]at h;subst h;have hcl:¬cap=l:=by omega
      refine qH (v:=.slice (some ⟨(G id).g,(off+l)*(G id).s,none⟩) (k-l) (cap-l)) hi ?_ (.own Q (by omega) (by omega) ?_ F)
      ·have hgs:(G id).s=m:=by rw[<-(hi.live id b hbl).bs,hbm]
       simp[Instr.sliceAt,zK y,Instr.slice,z,yA a,hcl,ko,hgs,wo]
      ·rw[show off+l+(cap-l)=off+cap from by omega];exact g4
   ·cases h
   ·cases h
  ·cases h
 ·cases h
theorem se(hi:Inv P w S G Y Z){f:Fn}{xs ys:zb}{us ts:Array Value}(d:Zip (qw w S G Z) xs us.toList)(e:Zip (qw w S G Z) ys ts.toList) :
  Q9 dr P w Y Z S G (.fn f xs ys) Y Z ((Instr.makeFunc f us ts).run P w):=
 qH (v:=.func f us ts) hi rfl (.fn (by simpa using d.1) (by simpa using e.1) (fun j c x a b=>d.2 j c x a (by simpa using b)) (fun j c x a b=>e.2 j c x a (by simpa using b)))
theorem Di{z:Array Value}{n s i j:Nat}(hs:z.size=s)(hi:i<n)(b:j<s):(madeCells z (n*s))[i*s+j]?=z[j]?:=by
 have a:i*s+j<n*s:=kK hi b;unfold madeCells;rw[Array.getElem?_map,Array.getElem?_range,zd a];have c:(i*s+j) % s=j:=by rw[Q5,Nat.add_mul_mod_self_right];exact Nat.mod_eq_of_lt b
 simp only[zH,hs,c];rw[jC (by omega)];simp only[qa];exact(Y3 z j (by omega))
theorem nt(hi:Inv P w S G Y Z){t:TypeId}{p q x:O}{Y':Hp}{Z':Nat}{u v:Value}(h:Wn P Y Z t p q=some (x,Y',Z'))(J:qw w S G Z p u)(K:qw w S G Z q v) :
  Q9 dr P w Y Z S G x Y' Z' ((Instr.makeSlice t u v).run P w):=by
 unfold Wn at h;split at h
 ·rename_i L l M c;obtain⟨rfl,_⟩:=J.yi;obtain⟨rfl,_⟩:=K.yi;split at h
  ·rename_i e N;split at h
   ·rename_i n by_ z E Q R;split at h
    ·rename_i T;obtain⟨F,o,U,W,H,c6⟩:=T;injection h with h
     injection h with X h;injection h with eh en;subst X;subst eh;subst en;obtain⟨i,d,r,i2,i3⟩:=QI R;obtain⟨z1,z2⟩:=jI (w:=w) (S:=S) i3;have f:i.size=n:=by simpa[qE,r]using E
     have s:i.bytes=by_:=by simpa[kD,r]using Q
     have y:d.cells.size=n:=by rw[<-o,z1];simp
     have hm:c.toNat<=9223372036854775807:=by simpa[maxLen]using H
     have b:(i.bytes:Int)*c<=281474976710656:=by
      have:((c.toNat*by_:Nat):Int)<=140737488355328:=by omega
      rw[Int.natCast_mul,Int.toNat_of_nonneg (by omega)]at this;rw[s,Int.mul_comm];omega
     have hr:=run_make (P:=P) w t e i d (vI N) r i2 L M l c U W b (by omega);have g:l.toNat<=c.toNat:=by omega
     have k:=kW.alloc (dr:=dr) hi (madeCells d.cells (c.toNat*i.size)) e true (List.replicate l.toNat z) n F (by simpa[qE]using E) (fun c' A=>by rw[(List.mem_replicate.1 A).2];exact o)
      (by rw[size_madeCells,f,List.length_replicate];exact zT _ g) (fun i' j c' pv a I=>by
       have B:i'<l.toNat:=by have:=(zk.1 a).1;simpa using this
       rw[cw,zd B]at a;injection a with a
       subst a;have C:j<n:=by rw[<-o];exact(zk.1 I).1
       have m:j<d.cells.size:=by omega
       rw[f,Di y (by omega) C];have D:=z2 j pv d.cells[j] I (by simp[m]);exact⟨d.cells[j],by simp[m],fun _=>D.1,.c D.1,D.2.1⟩)
     refine⟨_,_,_,_,hr,k,?_⟩;have:=qw.own (w:=w.alloc (.cells (madeCells d.cells (c.toNat*i.size)) e)) (S:=S) (G:=qq G Z ⟨w.heap.size,(madeCells d.cells (c.toNat*i.size)).size,n⟩) (Z:=Z+1) (id:=Z) (off:=0) (n:=l.toNat) (cap:=c.toNat) (by omega) g H (by simp[size_madeCells,f]) (by simpa using F);simpa using this
    ·cases h
   ·cases h
  ·cases h
 ·cases h
end
variable{dr:Prop}
section
variable{P:Program}{w:World}{S:Nat->Prop}{G:Nat->GI}{Y:Hp}{Z:Nat}
theorem kW.Ao{Y1:Hp}{w':World}(hi:Inv P w S G Y Z)(a:∀id b,Y1 id=some b->Y id=some b)(f:GI)(e:TypeId)(x:Bool)(es:List zb)(cur:Array Value)
  (X:w'.os=w.os) (B:w'.tape=w.tape) (q:w'.output=w.output) (t:w.heap.size<=w'.heap.size) (y:w.drawn<=w'.drawn)
  (D:Nat->Prop) (L:∀b,D b->ke Y G b/\¬S b/\∀id r,Y1 id=some r->(G id).g≠b)
  (m:∀b,b<w.heap.size->b≠f.g->¬D b->w'.heap[b]?=w.heap[b]?) (A:∀id b,Y1 id=some b->(G id).g≠f.g) (C:¬S f.g) (E:ke Y G f.g\/w.heap.size<=f.g)
  (M:0<f.s) (N:(P.info? e).map (·.size)=some f.s) (F:∀c∈es,c.length=f.s) (H:es.length*f.s<=f.z) (I:w'.heap[f.g]?=some (.cells cur e (0,0))) (Q:cur.size=f.z)
  (J:∀(i j:Nat) (c:zb) (K:O),es[i]?=some c->c[j]?=some K->∃u,cur[i*f.s+j]?=some u/\jM w S G Z x K u) :
  kW dr P Y Z S G w (qq Y1 Z (some ⟨e,f.s,x,es⟩)) (Z+1) S (qq G Z f) w':=by
 have R:∀b,S b->S b/\w'.heap[b]?=w.heap[b]?:=fun b d=>⟨d,m b (hi.st b d) (fun e=>C (e ▸ d)) fun h=>(L b h).2.1 d⟩
 have p:∀id,id<Z->qq G Z f id=G id:=fun id hid=>zD _ _ _ _ (by omega)
 have l:∀id,id≠Z->qq Y1 Z (some ⟨e,f.s,x,es⟩) id=Y1 id:=fun id hid=>zD _ _ _ _ hid
 refine⟨⟨fun b d=>ja (hi.st b d) t,fun id b d=>?_,fun id b d=>?_,fun id b d=>?_,fun id id' b r d n v=>?_,hi.fS.mono R⟩,by omega,p,fun _ d=>d,fun _ d=>.inl d,fun id b d=>?_,⟨X,B,q,t,fun _=>y,fun k hk U=>m k hk (fun e=>?_) fun h=>U (L k h).1⟩⟩
 ·by_cases hid:id=Z
  ·omega
  ·rw[l id hid]at d;have:=hi.top id b (a id b d);omega
 ·by_cases hid:id=Z
  ·subst hid;simp only[wU]at d⊢;injection d with d
   subst d;refine .xp M rfl ⟨N,F,H,cur,I,Q,fun i j c K T hj=>?_⟩;obtain⟨u,h1,h2⟩:=J i j c K T hj;exact⟨u,h1,h2.mono R (by omega) p⟩
  ·rw[l id hid]at d;have ht:=hi.top id b (a id b d);rw[p id ht];have W:=hi.live id b (a id b d);exact W.mono R (by omega) p (m _ W.lt (A id b d) fun h=>(L _ h).2.2 id b d rfl)
 ·by_cases hid:id=Z
  ·subst hid;simpa using C
  ·rw[l id hid]at d;rw[p id (hi.top id b (a id b d))];exact hi.apart id b (a id b d)
 ·by_cases hid:id=Z<;>by_cases o:id'=Z
  ·omega
  ·subst hid;rw[l id' o]at n;rw[p id' (hi.top id' r (a id' r n))]at v;simp only[wU]at v;exact(A id' r n v.symm).elim
  ·subst o;rw[l id hid]at d;rw[p id (hi.top id b (a id b d))]at v;simp only[wU]at v;exact(A id b d v).elim
  ·rw[l id hid]at d;rw[l id' o]at n;rw[p id (hi.top id b (a id b d)),p id' (hi.top id' r (a id' r n))]at v;exact hi.inj id id' b r (a id b d) (a id' r n) v
 ·by_cases hid:id=Z
  ·subst hid;simpa using E
  ·rw[l id hid]at d;rw[p id (hi.top id b (a id b d))];exact .inl ⟨id,b,a id b d,rfl⟩
 ·subst e;rcases E with h|h
  ·exact U h
  ·omega
theorem Vn(hi:Inv P w S G Y Z){n:Nat}{x:O}{xs:List zb}{u:Value}(h:view Y n x=some xs)(r:qw w S G Z x u) :
  ∃(A:Option Addr) (c:Nat) (f:Nat->Value),u=.slice A xs.length c/\(∀l∈xs,l.length=n) /\
   ∀(i j:Nat) (l:zb) (d:O),xs[i]?=some l->l[j]?=some d->∃ad,A=some ad/\w.cell? (ad.add (i*n+j))=some (f (i*n+j))/\jM w S G Z true d (f (i*n+j)):=by
 have M:∀(A:Option Addr) (xs:List zb) (c:Nat),ya w S (.sl n xs) (.slice A xs.length c)->(∃us:Nat->Nat->Value,(∀l∈xs,l.length=n) /\
   (∀(i j:Nat) (c:zb) (d:O),xs[i]?=some c->c[j]?=some d->∃ad,A=some ad/\w.cell? (ad.add (i*n+j))=some (us i j)/\(us i j).oneCell'=true/\ya w S d (us i j))):=by
  intro A xs c h;cases h with
  |sl us N F H t I D=>refine⟨us,t,fun i j c d a b=>?_⟩;obtain⟨ad,e,_,o,q⟩:=I i j c d a b;exact⟨ad,e,o,q,D i j c d a b⟩
 have y:∀(A:Option Addr) (c:Nat) (us:Nat->Nat->Value),(∀l∈xs,l.length=n) ->
   (∀(i j:Nat) (c:zb) (d:O),xs[i]?=some c->c[j]?=some d->∃ad,A=some ad/\w.cell? (ad.add (i*n+j))=some (us i j)/\jM w S G Z true d (us i j))->u=.slice A xs.length c ->
   ∃(A:Option Addr) (c:Nat) (f:Nat->Value),u=.slice A xs.length c/\(∀l∈xs,l.length=n) /\
    ∀(i j:Nat) (l:zb) (d:O),xs[i]?=some l->l[j]?=some d->∃ad,A=some ad/\w.cell? (ad.add (i*n+j))=some (f (i*n+j))/\jM w S G Z true d (f (i*n+j)):=by
  intro A c us F H t;refine⟨A,c,fun k=>match A with|some ad=>(w.cell? (ad.add k)).getD undef|none=>undef,t,F,fun i j l d m J=>?_⟩;obtain⟨ad,rfl,o,q⟩:=H i j l d m J;exact⟨ad,rfl,by simp[o],by simpa[o]using q⟩
 unfold view at h;split at h
 ·injection h with h;subst h;have:=r.xQ;subst this;exact⟨none,0,fun _=>undef,rfl,by simp,by simp⟩
 ·injection h with h;subst h;obtain⟨ad,cap,rfl,_⟩:=r.rX;exact⟨some ad,cap,fun _=>undef,rfl,by simp,by simp⟩
 ·rename_i s es;split at h
  ·rename_i hs;subst hs;injection h with h
   subst h;have K:=r.dF;cases K with
   |sl us N F H t I D=>refine y _ _ us t (fun i j c d a b=>?_) rfl;obtain⟨ad,e,_,o,q⟩:=I i j c d a b;exact⟨ad,e,o,fun _=>D i j c d a b,.c (D i j c d a b),q⟩
  ·cases h
 ·rename_i id off k;split at h
  ·rename_i b Q;split at h
   ·rename_i K;injection h with h
    obtain⟨R,T,c3⟩:=K;have z:=r.vy;obtain⟨cap,o,q,g3,g4,rfl⟩:=r.vf;have p:=hi.live id b Q;obtain⟨cur,U,r2,W⟩:=p.row z;have hs:(G id).s=n:=by rw[<-p.bs,T]
    have X:xs.length=k:=by rw[<-h];simp;omega
    have B:∀(i:Nat) (c:zb),xs[i]?=some c->b.es[off+i]?=some c:=by
     intro i c m;rw[<-h,qI]at m;split at m
     ·rwa [q8]at m
     ·cases m
    refine y (some ⟨(G id).g,off*(G id).s,none⟩) cap (fun i j=>(cur[(off+i)*n+j]?).getD undef) (fun l C=>?_) (fun i j c d m J=>?_) (by rw[X])
    ·rw[<-h]at C;rw[<-hs];exact p.len z l (Yl _ _ (V2 _ _ C))
    ·obtain⟨v,E,L⟩:=W (off+i) j c d (B i c m) J;refine⟨_,rfl,?_,?_⟩
     ·rw[ko,zdY w _ _ cur _ _ U,hs];rw[hs]at E;rw[show off*n+(i*n+j)=(off+i)*n+j from by rw[wo];omega,E];rfl
     ·rw[hs]at E;simp only[E,Yn];rw[R]at L;exact L
   ·cases h
  ·cases h
 ·cases h
theorem P3{n k m:Nat}(a:0<n)(b:k<m*n):k/n<m/\k % n<n/\k/n*n+k % n=k:=by refine⟨(Nat.div_lt_iff_lt_mul a).2 b,zkD _ a,?_⟩;rw[fI];exact Nat.div_add_mod k n
theorem aJ{n:Nat}{xs:List zb}{A:Option Addr}{f:Nat->Value}(l:0<n)(m:∀a∈xs,a.length=n)
  (h:∀(i j:Nat) (a:zb) (b:O),xs[i]?=some a->a[j]?=some b->∃ad,A=some ad/\w.cell? (ad.add (i*n+j))=some (f (i*n+j))/\jM w S G Z true b (f (i*n+j))) :
  ∀k,k<xs.length*n->∃ad,A=some ad/\w.cell? (ad.add k)=some (f k)/\(f k).oneCell'=true:=by
 intro k o;obtain⟨c,s,p⟩:=P3 l o;have q:xs[k/n]?=some xs[k/n]:=zq c;have r:xs[k/n].length=n:=m _ (zi c);obtain⟨ad,e,d,g⟩:=h (k/n) (k % n) _ (xs[k/n][k % n]'(by omega)) q (zq (by omega));rw[p]at d g;exact⟨ad,e,d,g.2.2⟩
theorem Av(t ty e:TypeId)(i:TypeInfo)(z:Value)(s:P.underlying t=some (.slice e))(hi:P.info? e=some i)(C:i.zero=some z)(D:0<i.size)
  (v:Value) (n:Nat) (xs:List Value) (h:w.ownsRow 0 e i.size v n xs) (a:Addr) (m c:Nat) (b:List Value) (p:b.length=m*i.size) (d:∀j u,b[j]?=some u->w.cell? (a.add j)=some u) (E:∀u∈b,u.oneCell'=true)
  (y:n+m<=maxLen) (f:(n+m)*i.bytes<=140737488355328) {F:Value} {w':World} (r:(Builtin.append_ #[t,t] ty #[v,.slice (some a) m c]).run P w=.ok F w'):w.drawn<=w'.drawn:=by
 have x:n+m<=9223372036854775807:=by simp only[maxLen]at y;omega
 rcases h.2 with⟨rfl,rfl⟩|⟨g,cap,cur,rfl,G,H,I,J,A,B⟩
 ·by_cases K:m=0
  ·subst K;have L:b=[]:=wx (by simpa using p);subst L;have l:(Builtin.append_ #[t,t] ty #[.slice none 0 0,.slice (some a) 0 c]).run P w=.ok (.slice none 0 0) w:=by simp[Builtin.append_,zK s,sizeOf,typeInfo,hi,Builtin.lenOf,Builtin.firstCells,loadCells,loadCellsFrom]
   rw[l]at r;injection r with _ r
   rw[<-r];exact zl _
  ·have l:=run_append_nil (P:=P) w t ty e i z s hi C a m c b p d (by omega) (by omega) (by have M:=f;simp only[wg]at M;omega);rw[l]at r;injection r with _ r
   rw[<-r];exact yd _
 ·by_cases k:n+m<=cap
  ·have q:n*i.size+b.length<=cur.size:=by rw[p,A,<-wo];exact zT _ k
   have l:=run_append_room (P:=P) w t ty e i s hi g n cap cur H a m c b p d E k q;rw[l]at r;injection r with _ r
   rw[<-r];exact zl _
  ·have o:∀j u,xs[j]?=some u->w.cell? ((⟨g,0,none⟩:Addr).add j)=some u:=h.cells (g:=g) rfl;have l:=run_append_grow (P:=P) w t ty e i z s hi C ⟨g,0,none⟩ n cap xs h.1 o a m c b p d (by omega) (by omega) (growslice_fits (by omega) f);rw[l]at r;injection r with _ r
   rw[<-r];exact yd _
def Hd(P:Program)(w:World)(t t' ty e:TypeId)(n by_ m:Nat)(x:Value)(a:List Value):Prop:=
 ∀(base:Nat) (v:Value) (k:Nat) (olds:List Value),w.ownsRow base e n v k olds->base<=w.heap.size->k+m<=maxLen->(k+m)*by_<=140737488355328 ->
  ∃b w',(Builtin.append_ #[t,t'] ty #[v,x]).run P w=.ok b w'/\w'.ownsRow base e n b (k+m) (olds++a)/\w.grownBy w' v.ownBlock/\(b.ownBlock=v.ownBlock\/b.ownBlock=some w.heap.size)/\w.drawn<=w'.drawn/\(m=0->b=v/\w'=w)
theorem MV{t ty e:TypeId}{n by_:Nat}{i:TypeInfo}{r:Value}(l:P.underlying t=some (.slice e))(s:P.info? e=some i)(C:i.zero=some r)(b:i.size=n)(o:i.bytes=by_)(y:r.cells.size=n)(D:0<n)
  {A:Option Addr} {m c:Nat} {f:Nat->Value} (z:∀k,k<m*n->∃ad,A=some ad/\w.cell? (ad.add k)=some (f k)/\(f k).oneCell'=true):Hd P w t t ty e n by_ m (.slice A m c) ((List.range (m*n)).map f):=by
 intro base v k olds a d p E;by_cases F:m=0
 ·subst F;refine⟨v,w,?_,by simpa using a,World.grownBy.refl w _,.inl rfl,zl _,fun _=>⟨rfl,rfl⟩⟩;rcases a.2 with⟨rfl,_⟩|⟨g,cap,cur,rfl,_,_,J,_⟩
  ·cases A<;>simp[Builtin.append_,zK l,sizeOf,typeInfo,s,Builtin.lenOf,Builtin.firstCells,loadCells,loadCellsFrom]
  ·cases A<;>simp[Builtin.append_,zK l,sizeOf,typeInfo,s,Builtin.lenOf,Builtin.firstCells,loadCells,loadCellsFrom,J,storeCells]
 ·obtain⟨ad,rfl,_,_⟩:=z 0 (Nat.mul_pos (by omega) D);have G:∀j u,((List.range (m*n)).map f)[j]?=some u->w.cell? (ad.add j)=some u:=fun j u x=>by
   have q:j<m*n:=by have:=(zk.1 x).1;simpa using this
   obtain⟨K,B,L,_⟩:=z j q;injection B with B;subst B;rw[qz,kJ q]at x;simp at x;rw[L,x]
  have H:∀u∈(List.range (m*n)).map f,u.oneCell'=true:=fun u l=>by obtain⟨k,M,rfl⟩:=q9.1 l;exact(z k (jK.1 M)).choose_spec.2.2
  obtain⟨N,w',I,Q,R,W,S⟩:=run_append_own_at (P:=P) w base t ty e i r n by_ l s C b o y D v k olds a ad m c ((List.range (m*n)).map f) (by simp) G H p E d;refine⟨N,w',I,Q,R,S,?_,fun h=>(F h).elim⟩;exact Av t ty e i r l s C (by omega) v k olds (by rw[b];exact⟨a.1,a.2.imp (fun h=>h) fun⟨g,cap,cur,T,_,U⟩=>⟨g,cap,cur,T,ZS _,U⟩⟩) ad m c ((List.range (m*n)).map f) (by simp[b]) G H p (by rw[o];exact E) I
theorem zat{t u ty e:TypeId}{i:TypeInfo}(p:P.underlying t=some (.slice e))(hs:P.underlying u=some .string)(q:P.info? e=some i)(y:i.zero=some (.int .u8 0))(b:i.size=1)(d:i.bytes=1)(s:ByteArray) :
  Hd P w t u ty e 1 1 s.size (.string s) (Lib.strCells s):=by
 intro base v k olds a f r C;rw[ziK]at C;have E:olds.length=k:=by simpa using a.1
 have x:k+s.size<=9223372036854775807:=by simp only[maxLen]at r;omega
 obtain⟨F,w',c,G,H,Q⟩:=Lib.run_append_own_string (P:=P) w base t u ty e i p hs q y b d v k olds a s r C f;refine⟨F,w',c,G,H,?_⟩;by_cases j:s.size=0
 ·have l:(Builtin.append_ #[t,u] ty #[v,.string s]).run P w=.ok v w:=by
   have I:Lib.strCells s=[]:=wx (by rw[Lib.strCells_length];exact j);have z:=Lib.run_firstCells_string (P:=P) w 1 s;rw[j,I]at z;rcases a.2 with⟨rfl,_⟩|⟨g,cap,cur,rfl,_,_,J,_⟩
   ·simp[Builtin.append_,zK p,zK hs,sizeOf,typeInfo,q,b,Builtin.lenOf,j,z]
   ·simp[Builtin.append_,zK p,zK hs,sizeOf,typeInfo,q,b,Builtin.lenOf,j,z,J,storeCells]
  rw[l]at c;injection c with m n
  subst m;subst n;exact⟨.inl rfl,zl _,fun _=>⟨rfl,rfl⟩⟩
 ·rcases a.2 with⟨rfl,rfl⟩|⟨g,cap,cur,rfl,K,L,M,N,A,B⟩
  ·have l:=run_append_nil_string (P:=P) w t u ty e i (.int .u8 0) p hs q y s (by omega) (by omega) (by rw[d];omega);rw[l]at c;injection c with m n
   subst m;subst n;exact⟨.inr rfl,yd _,fun h=>(j h).elim⟩
  ·have D:cur.size=cap:=by simpa using A
   by_cases o:k+s.size<=cap
   ·have l:=Lib.run_append_room_string (P:=P) w t u ty e i p hs q b g k cap cur L s o (by omega);rw[l]at c;injection c with m n
    subst m;subst n;exact⟨.inl rfl,zl _,fun h=>(j h).elim⟩
   ·have l:=Lib.run_append_grow_string (P:=P) w t u ty e i (.int .u8 0) p hs q y ⟨g,0,none⟩ k cap olds (by rw[b];omega) (a.cells (g:=g) rfl) s (by omega) (by omega) (growslice_fits (by omega) (by rw[d];omega));rw[l]at c;injection c with m n
    subst m;subst n;exact⟨.inr rfl,yd _,fun h=>(j h).elim⟩
theorem MW{e:TypeId}(h:De P e=true):∃i,P.info? e=some i/\i.zero=some (.int .u8 0)/\i.size=1/\i.bytes=1:=by
 unfold De at h;split at h
 ·rename_i i hi;split at h
  ·rename_i z a;simp only[zE,jY]at h;obtain⟨⟨rfl,b⟩,c⟩:=h;exact⟨i,hi,a,b,c⟩
  ·cases h
 ·cases h
theorem P4{u:TypeId}(h:PX P u=true):P.underlying u=some .string:=by
 unfold PX at h;split at h
 ·assumption
 ·cases h
theorem Dj(hi:Inv P w S G Y Z){t t' ty:TypeId}{s x y:O}{Y':Hp}{Z':Nat}{u v:Value}(h:jb P Y Z t t' s x=some (y,Y',Z'))(hs:qw w S G Z s u)(hx:qw w S G Z x v) :
  Q9 dr P w Y Z S G y Y' Z' ((Builtin.append_ #[t,t'] ty #[u,v]).run P w):=by
 unfold jb at h;split at h
 ·rename_i e he;split at h
  ·rename_i n by_ z h1 h2 h3;split at h
   ·rename_i xs F;obtain⟨i,vz,i1,i2,i3⟩:=QI h3;have hsz:i.size=n:=by simpa[qE,i1]using h1
    have hby:i.bytes=by_:=by simpa[kD,i1]using h2
    have hzl:=(jI (w:=w) (S:=S) i3).1;have hu:=vI he;have L:0<n->z.length=n->∃m,Hd P w t t' ty e n by_ xs.length v m/\m.length=xs.length*n/\(∀d∈xs,d.length=n) /\
      ∀(i j:Nat) (d:zb) (p:O),xs[i]?=some d->d[j]?=some p->∃N,m[i*n+j]?=some N/\jM w S G Z true p N:=by
     intro hn hzl';unfold nf at F;split at F
     ·rename_i b;split at F
      ·rename_i W;injection F with F
       subst F;obtain⟨i',j1,j2,j3,j4⟩:=MW W.2;rw[i1]at j1;injection j1 with j1
       subst j1;have hn1:n=1:=by omega
       have hb1:by_=1:=by omega
       subst hn1;subst hb1;have hvs:v=.string b:=by
        cases hx with
        |c h=>cases h;rfl
       subst hvs;have hl:(b.data.toList.map fun c=>[O.v (.int .u8 c.toNat)]).length=b.size:=by rw[Zn,yl];rfl
       refine⟨Lib.strCells b,by rw[hl];exact zat hu (P4 W.1) i1 j2 j3 j4 b,by rw[hl,Lib.strCells_length,ziK],fun d Q=>?_,fun i j d p a q=>?_⟩
       ·obtain⟨x,_,rfl⟩:=q9.1 Q;rfl
       ·rw[qz]at a;obtain⟨x,hx1,rfl⟩:=fH.1 a;obtain rfl:j=0:=by have:=(zk.1 q).1;simpa using this
        simp only[cx,qa]at q;subst q;refine⟨.int .u8 x.toNat,?_,fun _=>.v rfl,.c (.v rfl),rfl⟩;unfold Lib.strCells;rw[qz,ziK,vS,hx1];rfl
      ·cases F
     ·split at F
      ·rename_i he';subst he';obtain⟨A,c,f,rfl,I,X⟩:=Vn hi F hx;have hzc:vz.cells.size=n:=by rw[<-hzl',hzl];simp
       refine⟨(List.range (xs.length*n)).map f,MV hu i1 i2 hsz hby hzc hn (aJ hn I X),by simp,I,fun i j d p a q=>?_⟩;obtain⟨ad',a1,a2,a3⟩:=X i j d p a q;have r:j<n:=by rw[<-I d (zN a)];exact(zk.1 q).1
       have C:i<xs.length:=(zk.1 a).1;have D:=kK (n:=xs.length) C r;exact⟨f (i*n+j),by rw[qz,kJ D];rfl,a3⟩
      ·cases F
    split at h
    ·split at h
     ·rename_i W;obtain⟨c1,c2,c3,c4⟩:=W;have:=hs.xQ;subst this;obtain⟨m,hA,_,I,X⟩:=L c1 c2;split at h
      ·rename_i hm;injection h with h
       injection h with ey h;injection h with eh en;subst ey;subst eh;subst en;obtain⟨v',w',r1,_,_,_,_,r6⟩:=hA w.heap.size (.slice none 0 0) 0 [] (World.ownsRow_nil w _ e n) (zl _) (by simpa using c3) (by simpa using c4);obtain⟨rfl,rfl⟩:=r6 hm;exact qH (v:=.slice none 0 0) hi r1 (.c .nil)
      ·rename_i hm;injection h with h
       injection h with ey h;injection h with eh en;subst ey;subst eh;subst en;obtain⟨v',w',r1,r2,B,r5,rd,_⟩:=hA w.heap.size (.slice none 0 0) 0 [] (World.ownsRow_nil w _ e n) (zl _) (by simpa using c3) (by simpa using c4);simp only[wg,w7]at r2;rcases r2.2 with⟨e1,e2⟩|⟨g,cap,cur,rfl,e2,e3,e4,e5,e6,e7⟩
       ·exact(hm e2).elim
       ·have hg:g=w.heap.size:=by rcases r5 with h5|h5<;>simp[Value.ownBlock]at h5;exact h5
        subst hg;have k:=kW.Ao (dr:=dr) (Y1:=Y) hi (fun _ _ h=>h) ⟨w.heap.size,cur.size,n⟩ e true xs cur B.os B.tape B.output B.size rd (fun _=>False) (fun _ h=>h.elim) (fun b H R _=>B.block b H (by simp[Value.ownBlock])) (fun id b H=>Nat.ne_of_lt (hi.live id b H).lt)
         (fun hS=>by have:=hi.st _ hS;simp at this) (.inr (zl _)) c1 (by simpa[qE]using h1) I (by rw[e6];exact zT _ e4) e3 rfl (fun i' j d p a q=>by
          obtain⟨N,a1,a3⟩:=X i' j d p a q;have r:j<n:=by rw[<-I d (zN a)];exact(zk.1 q).1
          have C:i'<xs.length:=(zk.1 a).1;have D:=kK (n:=xs.length) C r;refine⟨N,?_,a3⟩;have h7:(cur.toList.take (xs.length*n))[i'*n+j]?=some N:=by rw[e7];exact a1
          rw[qI,zd D]at h7;simpa using h7)
        refine⟨_,_,_,_,r1,k,?_⟩;have:=qw.own (w:=w') (S:=S) (G:=qq G Z ⟨w.heap.size,cur.size,n⟩) (Z:=Z+1) (id:=Z) (off:=0) (n:=xs.length) (cap:=cap) (by omega) e4 e5 (by simp[e6]) (by simpa using c1);simpa using this
     ·cases h
    ·rename_i id k;split at h
     ·rename_i b H;split at h
      ·rename_i W;obtain⟨c0,c1,c2,c3,c4,c5,c6⟩:=W;injection h with h
       injection h with ey h;injection h with eh en;subst ey;subst eh;subst en;have J:=hs.vy;obtain⟨cap,g1,g2,g3,g4,rfl⟩:=hs.vf;have hzc:vz.cells.size=n:=by rw[<-c4,hzl];simp
       have E:=hi.live id b H;obtain⟨cur,q1,q2,q3⟩:=E.row J;have K:(G id).s=n:=by
        have h5:=E.size J;rw[c1]at h5;have h6:(P.info? e).map (·.size)=some n:=by simpa[qE]using h1
        rw[h6]at h5;injection h5 with h5
        exact h5.symm
       have hg0:(⟨(G id).g,0*(G id).s,none⟩:Addr)=⟨(G id).g,0,none⟩:=by simp
       rw[hg0];have hcz:cur.size=cap*n:=by rw[q2,<-g4,K];simp
       have M:w.ownsRow 0 e n (.slice (some ⟨(G id).g,0,none⟩) k cap) k (cur.toList.take (k*n)):=by refine⟨?_,.inr ⟨(G id).g,cap,cur,rfl,ZS _,by rw[<-c1];exact q1,g2,g3,hcz,rfl⟩⟩;simp only[ju,yl,hcz];exact Nat.min_eq_left (zT _ g2)
       have hsub:∀id' o,qq Y id none id'=some o->Y id'=some o:=fun id' o h=>vL h
       have hnl:∀id' o,qq Y id none id'=some o->(G id').g≠(G id).g:=fun id' o h he=>by
        have R:id'≠id:=by rintro rfl;simp at h
        exact R (hi.inj id' id o b (vL h) H he)
       obtain⟨m,hA,_,I,X⟩:=L c3 c4;obtain⟨v',w',r1,r2,B,r5,rd,_⟩:=hA 0 _ k _ M (ZS _) c5 c6;simp only[Value.ownBlock]at B r5;rcases r2.2 with⟨e1,e2⟩|⟨g,cap',l,rfl,e2,e3,e4,e5,e6,e7⟩
       ·subst e1;simp[Value.ownBlock]at r5
       ·have hg:g=(G id).g\/g=w.heap.size:=by simpa[Value.ownBlock]using r5
        have hgl:=E.lt;have Ps:∀(i' j:Nat) (d:zb) (p:O),(b.es++xs)[i']?=some d->d[j]?=some p->∃u,l[i'*n+j]?=some u/\jM w S G Z true p u:=by
         intro i' j d p a q;have hcl:d.length=n:=by
          rcases qi.1 (zN a)with h|h
          ·rw[<-K];exact E.len J d h
          ·exact I d h
         have r:j<n:=by rw[<-hcl];exact(zk.1 q).1
         have C:i'<k+xs.length:=by have:=(zk.1 a).1;simp at this;omega
         have D:=kK (n:=k+xs.length) C r;have h7:(l.toList.take ((k+xs.length)*n))[i'*n+j]?=l[i'*n+j]?:=by rw[qI,zd D];simp
         rw[<-h7,e7];have hkl:(cur.toList.take (k*n)).length=k*n:=M.1;by_cases T:i'<k
         ·have hlt':=kK (n:=k) T r;rw[qh (by rw[c2]at T;exact T)]at a;rw[qh (by omega),qI,zd hlt'];obtain⟨N,u1,u2⟩:=q3 i' j d p a q;rw[K]at u1;rw[c0]at u2;exact⟨N,by simpa using u1,u2⟩
         ·rw[zY (by omega),<-c2]at a;have hge:k*n<=i'*n:=zT _ (by omega);rw[zY (by omega),hkl];have hkk:i'*n+j-k*n=(i'-k)*n+j:=by rw[ME];omega
          rw[hkk];exact X (i'-k) j d p a q
        have k2:=kW.Ao (dr:=dr) (Y1:=qq Y id none) hi hsub ⟨g,l.size,n⟩ e true (b.es++xs) l B.os B.tape B.output B.size rd
         (fun o=>o=(G id).g) (fun o U=>by subst U;exact⟨⟨id,b,H,rfl⟩,hi.apart id b H,hnl⟩)
         (fun o U R hbg=>B.block o U (by simpa using hbg))
         (fun id' o h=>by
          rcases hg with h'|h'
          ·simp only[h'];exact hnl id' o h
          ·simp only[h'];exact Nat.ne_of_lt (hi.live id' o (vL h)).lt)
         (by
          rcases hg with h'|h'
          ·simp only[h'];exact hi.apart id b H
          ·simp only[h'];intro hS;have:=hi.st _ hS;simp at this)
         (by
          rcases hg with h'|h'
          ·simp only[h'];exact .inl ⟨id,b,H,rfl⟩
          ·simp only[h'];exact .inr (zl _))
         c3 (by simpa[qE]using h1)
         (fun d Q=>by
          rcases qi.1 Q with h|h
          ·simp only[<-K];exact E.len J d h
          ·exact I d h)
         (by rw[zm,<-c2,e6];exact zT _ e4) e3 rfl Ps
        refine⟨_,_,_,_,r1,k2,?_⟩;have:=qw.own (w:=w') (S:=S) (G:=qq G Z ⟨g,l.size,n⟩) (Z:=Z+1) (id:=Z) (off:=0) (n:=k+xs.length) (cap:=cap') (by omega) e4 e5 (by simp[e6]) (by simpa using c3);simpa using this
      ·cases h
     ·cases h
    ·cases h
   ·cases h
  ·cases h
 ·cases h
end
variable{dr:Prop}
section
variable{P:Program}{w:World}{S:Nat->Prop}{G:Nat->GI}{Y:Hp}{Z:Nat}
theorem kW.allocMap(h:Inv P w S G Y Z)(t:TypeId):kW dr P Y Z S G w (qq Y Z (some ⟨t,0,false,[]⟩)) (Z+1) S (qq G Z ⟨w.heap.size,0,0⟩) (w.alloc (.map #[] 0)):=by
 have j:∀b,b<w.heap.size->(w.alloc (.map #[] 0)).heap[b]?=w.heap[b]?:=fun b a=>Below.heap_alloc w _ b a
 have r:∀b,S b->S b/\(w.alloc (.map #[] 0)).heap[b]?=w.heap[b]?:=fun b a=>⟨a,j b (h.st b a)⟩
 have n:∀id,id<Z->qq G Z ⟨w.heap.size,0,0⟩ id=G id:=fun id hid=>zD _ _ _ _ (by omega)
 have d:∀id,id≠Z->qq Y Z (some (⟨t,0,false,[]⟩:Blk)) id=Y id:=fun id hid=>zD _ _ _ _ hid
 have l:(w.alloc (.map #[] 0)).heap.size=w.heap.size+1:=by show(w.heap.push _).size=_;simp
 have o:∀id b,Y id=some b->(G id).g<w.heap.size:=fun id b a=>(h.live id b a).lt
 refine⟨⟨fun b a=>by rw[l];have:=h.st b a;omega,fun id b a=>?_,fun id b a=>?_,fun id b a=>?_,fun id id' b q a f p=>?_,h.fS.mono r⟩,by omega,n,fun _ a=>a,fun _ a=>.inl a,fun id b a=>?_,⟨rfl,rfl,rfl,by rw[l];omega,fun _=>zl _,fun k s _=>j k s⟩⟩
 ·by_cases hid:id=Z
  ·omega
  ·rw[d id hid]at a;have:=h.top id b a;omega
 ·by_cases hid:id=Z
  ·subst hid;simp only[wU]at a⊢;injection a with a
   subst a;exact⟨rfl,fun u=>absurd u (by simp),fun _=>⟨⟨#[],0,heap_alloc_new w _,rfl,fun i c e hi _=>by simp at hi⟩,#[],0,heap_alloc_new w _,by simp[Stamped]⟩⟩
  ·rw[d id hid]at a;have v:=h.top id b a;rw[n id v];exact(h.live id b a).mono r (by omega) n (j _ (o id b a))
 ·by_cases hid:id=Z
  ·subst hid;simp only[wU];intro hs;have:=h.st _ hs;omega
  ·rw[d id hid]at a;rw[n id (h.top id b a)];exact h.apart id b a
 ·by_cases hid:id=Z<;>by_cases m:id'=Z
  ·omega
  ·subst hid;rw[d id' m]at f;rw[n id' (h.top id' q f)]at p;have:=o id' q f;simp at p;omega
  ·subst m;rw[d id hid]at a;rw[n id (h.top id b a)]at p;have:=o id b a;simp at p;omega
  ·rw[d id hid]at a;rw[d id' m]at f;rw[n id (h.top id b a),n id' (h.top id' q f)]at p;exact h.inj id id' b q a f p
 ·by_cases hid:id=Z
  ·subst hid;simp
  ·rw[d id hid]at a;rw[n id (h.top id b a)];exact .inl ⟨id,b,a,rfl⟩
theorem Stamped.push{en:Array MapEntry}{c:Nat}(h:Stamped en c)(v z:Value):Stamped (en.push {key:=v,val:=z,born:=c}) (c+1):=by
 obtain⟨e,f⟩:=h;refine⟨fun x d=>?_,?_⟩
 ·simp only[Array.toList_push,qi,wG]at d;rcases d with d|rfl
  ·exact Nat.lt_succ_of_lt (e x d)
  ·exact Nat.lt_succ_self _
 ·rw[Array.toList_push,JH,List.nodup_append];refine⟨f,by simp,fun a g b i=>?_⟩;obtain⟨x,d,rfl⟩:=q9.1 g;simp only[z6,yX,wG]at i;have:=e x d;omega
theorem Stamped.modify{en:Array MapEntry}{clock:Nat}(h:Stamped en clock)(i:Nat)(v z:Value):Stamped (en.modify i fun e=>{e with key:=v,val:=z}) clock:=by
 have a:((en.modify i fun e=>{e with key:=v,val:=z}).toList.map (·.born))=en.toList.map (·.born):=by
  apply List.ext_getElem?;intro j;simp only[qz,Array.getElem?_toList,kS];split
  ·cases en[j]?<;>rfl
  ·rfl
 refine⟨fun x b=>?_,by rw[a];exact h.2⟩;have:x.born∈en.toList.map (·.born):=by rw[<-a];exact q9.2 ⟨x,b,rfl⟩
 obtain⟨y,c,e⟩:=q9.1 this;have:=h.1 y c;omega
theorem kW.U9(h:Inv P w S G Y Z){id:Nat}{b:Blk}(hid:Y id=some b)(r:(G id).s=0)(en:Array MapEntry)(a:Nat)(es:List zb)(t:Stamped en a)(B:en.size=es.length)
  (n:∀(i:Nat) (c:zb) (e:MapEntry),es[i]?=some c->en[i]?=some e->fT w S c e) :
  kW dr P Y Z S G w (qq Y id (some ⟨b.e,b.s,b.arr,es⟩)) Z S G {w with heap:=w.heap.setIfInBounds (G id).g (.map en a)}:=by
 obtain⟨C,p,o,_⟩:=((h.live id b hid).AD r).row;have l:=MapKept.heap_set (o':=Obj.map en a) o;have j:∀k,k≠(G id).g->(w.heap.setIfInBounds (G id).g (.map en a))[k]?=w.heap[k]?:=l.2;have u:∀b,S b->S b/\(w.heap.setIfInBounds (G id).g (.map en a))[b]?=w.heap[b]?:=fun k f=>⟨f,j k fun e=>h.apart id b hid (e ▸ f)⟩
 have m:∀k,k≠id->qq Y id (some (⟨b.e,b.s,b.arr,es⟩:Blk)) k=Y k:=fun k f=>zD _ _ _ _ f
 refine⟨⟨fun k f=>by show k<(w.heap.setIfInBounds _ _).size;simpa using h.st k f,fun k c f=>?_,fun k c f=>?_,fun k c f=>?_,fun k q c v f x y=>?_,h.fS.mono u⟩,zl _,fun _ _=>rfl,fun _ z=>z,fun _ z=>.inl z,fun k c f=>?_,⟨rfl,rfl,rfl,by simp,fun _=>zl _,fun k _ D=>j k fun e=>D ⟨id,b,hid,e.symm⟩⟩⟩
 ·by_cases d:k=id
  ·subst d;exact h.top _ b hid
  ·rw[m k d]at f;exact h.top k c f
 ·by_cases d:k=id
  ·subst d;simp only[wU]at f;injection f with f
   subst f;refine⟨(h.live _ b hid).bs,fun Q=>by omega,fun _=>⟨⟨en,a,l.1,B,fun i c e hi y=>?_⟩,en,a,l.1,t⟩⟩;obtain⟨q,E,F,H,I,J⟩:=n i c e hi y;exact⟨q,E,F,H,I,J.mono u⟩
  ·rw[m k d]at f;exact(h.live k c f).mono u (zl _) (fun _ _=>rfl) (j _ fun e=>d (h.inj k id c b f hid e))
 ·by_cases d:k=id
  ·subst d;exact h.apart _ b hid
  ·rw[m k d]at f;exact h.apart k c f
 ·have A:∀k c,qq Y id (some (⟨b.e,b.s,b.arr,es⟩:Blk)) k=some c->∃v,Y k=some v:=by
   intro k c f;by_cases d:k=id
   ·subst d;exact⟨b,hid⟩
   ·rw[m k d]at f;exact⟨c,f⟩
  obtain⟨K,L⟩:=A k c f;obtain⟨M,N⟩:=A q v x;exact h.inj k q K M L N y
 ·by_cases d:k=id
  ·subst d;exact .inl ⟨_,b,hid,rfl⟩
  ·rw[m k d]at f;exact .inl ⟨k,c,f,rfl⟩
theorem Aw(hi:Inv P w S G Y Z)(t:TypeId):Q9 dr P w Y Z S G (.mp Z) (qq Y Z (some ⟨t,0,false,[]⟩)) (Z+1) ((Instr.makeMap t none).run P w):=by refine⟨.map (some w.heap.size),w.alloc (.map #[] 0),S,qq G Z ⟨w.heap.size,0,0⟩,by simp[Instr.makeMap],kW.allocMap hi t,?_⟩;have:=qw.mp (w:=w.alloc (.map #[] 0)) (S:=S) (G:=qq G Z ⟨w.heap.size,0,0⟩) (Z:=Z+1) (id:=Z) (by omega) (by simp);simpa using this
theorem nu{t:TypeId}{f:Option IntKind}{g:TypeId}(h:dJ P t=some (f,g)):∃a d,P.underlying t=some (.map a g)/\P.underlying a=some d/\(∀k,iH f k=true->MapKept.IsKey d k)/\(d=.string\/∃i,d=.int i):=by
 unfold dJ at h;split at h
 ·rename_i a l j;split at h
  ·rename_i i b;injection h with h
   injection h with c e;subst c;subst e;exact⟨a,.int i,j,b,fun k b=>by cases k<;>simp_all[iH,MapKept.IsKey],.inr ⟨i,rfl⟩⟩
  ·rename_i b;injection h with h
   injection h with c e;subst c;subst e;exact⟨a,.string,j,b,fun k b=>by cases k<;>simp_all[iH,MapKept.IsKey],.inl rfl⟩
  ·cases h
 ·cases h
theorem iJ{d:TypeDesc}{a b:Value}{r:Bool}(hd:d=.string\/∃i,d=.int i)(c:MapKept.IsKey d a)(h:YN a b=some r):Instr.sameNow d a b=some r:=by
 unfold YN at h;split at h
 ·rename_i k x f y;rcases hd with rfl|⟨i,rfl⟩
  ·simp[MapKept.IsKey]at c
  ·split at h
   ·rename_i e;simpa[Instr.sameNow,e]using h
   ·cases h
 ·rename_i x y;rcases hd with rfl|⟨i,rfl⟩
  ·injection h with h;simp only[Instr.sameNow,qa];rw[<-h,qA,MapKept.bytes_beq,jY];exact⟨fun e=>by rw[e],fun e=>by obtain⟨x⟩:=x;obtain⟨y⟩:=y;congr 1;exact(by rw[MF,MF]at e;exact U2.1 e)⟩
  ·simp[MapKept.IsKey]at c
 ·cases h
theorem KD{d:TypeDesc}{k:Value}(hd:d=.string\/∃i,d=.int i)(b:MapKept.IsKey d k):∀{es:List zb} {en:List MapEntry} {i:Nat} {r:Option (Nat×O)},es.length=en.length->(∀(j:Nat) (c:zb) (e:MapEntry),es[j]?=some c->en[j]?=some e->fT w S c e)->KB k es i=some r ->
  (r=none/\Instr.findNow d k en i=some none)\/∃j v e,r=some (i+j,v)/\Instr.findNow d k en i=some (some (i+j,e.val))/\en[j]?=some e/\ya w S v e.val/\YN k e.key=some true/\j<es.length
 |[],[],i,r,_,_,h=>by
  simp only[KB]at h;injection h with h
  exact .inl ⟨h.symm,rfl⟩
 |[],e::en,_,_,a,_,_=>by simp at a
 |c::es,[],_,_,a,_,_=>by simp at a
 |c::es,e::en,i,r,a,l,h=>by
  obtain⟨z,v,rfl,n,_,o⟩:=l 0 c e rfl rfl;simp only[KB]at h;subst n;split at h
  ·rename_i hs;injection h with h
   subst h;refine .inr ⟨0,v,e,rfl,?_,rfl,o,hs,by simp⟩;simp[Instr.findNow,iJ hd b hs]
  ·rename_i hs;have m:=iJ hd b hs;rcases KD hd b (es:=es) (en:=en) (i:=i+1) (r:=r) (by simpa using a) (fun j c e p q=>l (j+1) c e (by simpa using p) (by simpa using q)) h with⟨f,g⟩|⟨j,s,t,f,g,u,x,y,A⟩
   ·exact .inl ⟨f,by simp[Instr.findNow,m,g]⟩
   ·refine .inr ⟨j+1,s,t,by rw[f];congr 2;omega,?_,by simpa using u,x,y,by simp;omega⟩;simp only[Instr.findNow,m,g];congr 3;omega
  ·cases h
theorem tG{t:TypeId}{z:O}(h:dK P t=some z):∃v,(zeroValue t).run P w=.ok v w/\ya w S z v:=by
 unfold dK at h;cases hi:P.info? t with
 |none=>rw[hi]at h;cases h
 |some i=>
  rw[hi]at h;simp only[qc]at h;cases a:i.zero with
  |none=>rw[a]at h;cases h
  |some v=>rw[a]at h;exact⟨v,WK hi a w,iI h⟩
theorem P5(hi:Inv P w S G Y Z){x:O}{u:Value}{es:List zb}(h:Dg Y x=some es)(d:qw w S G Z x u) :
  (u=.map none/\es=[])\/∃r en a,u=.map (some r)/\w.heap[r]?=some (.map en a)/\en.size=es.length/\∀(i:Nat) (c:zb) (e:MapEntry),es[i]?=some c->en[i]?=some e->fT w S c e:=by
 unfold Dg at h;split at h
 ·rename_i id;obtain⟨m,f,rfl⟩:=d.U8;split at h
  ·rename_i b g;split at h
   ·injection h with h;subst h;obtain⟨en,a,j,k,l⟩:=((hi.live id b g).AD f).row;exact .inr ⟨_,en,a,rfl,j,k,l⟩
   ·cases h
  ·cases h
 ·injection h with h;obtain⟨rfl,_⟩:=d.yi;exact .inl ⟨rfl,h.symm⟩
 ·cases h
theorem Dk(hi:Inv P w S G Y Z){t:TypeId}{p q x:O}{u v:Value}{o:Bool}(h:JM P Y t p q o=some x)(Y':qw w S G Z p u)(hq:qw w S G Z q v):Q9 dr P w Y Z S G x Y Z ((Instr.lookup t u v o).run P w):=by
 unfold JM at h;split at h
 ·rename_i kk D es k F H;obtain⟨kt,d,s,g,I,hd⟩:=nu F;obtain⟨rfl,_⟩:=hq.yi;split at h
  ·rename_i hc;have f:=I v hc;rcases P5 hi H Y' with⟨rfl,rfl⟩|⟨r,en,J,rfl,E,U,W⟩
   ·simp only[KB]at h;obtain⟨z,K,m⟩:∃z,dK P D=some z/\(if o=true then O.w5 [z,.v (.bool false)]else z)=x:=by
     cases A:dK P D with
     |none=>rw[A]at h;cases h
     |some z=>rw[A]at h;injection h with h;exact⟨z,rfl,h⟩
    obtain⟨B,l,n⟩:=tG (w:=w) (S:=S) K;have C:Instr.findNow d v [] 0=some none:=rfl;cases o with
    |true=>
     simp only[qV]at m;subst m;refine qH (v:=.tuple #[B,.bool false]) hi ?_ (.c (.w5 rfl fun j L y a b=>?_))
     ·simp[Instr.lookup,zK s,ZE g f,Qb g C,l,Result.andThen]
     ·match j,a,b with
      | 0,a,b=>simp at a b;subst a;subst b;exact n
      | 1,a,b=>simp at a b;subst a;subst b;exact .v rfl
      |j+2,a,b=>simp at a
    |false=>simp only[zP,wF]at m;subst m;refine qH (v:=B) hi ?_ (.c n);simp[Instr.lookup,zK s,ZE g f,Qb g C,l,Result.andThen]
   ·split at h
    ·rename_i i L M;rcases KD hd f (en:=en.toList) (by simpa using U.symm) (fun j c e N Q=>W j c e N (by simpa using Q)) M with⟨R,_⟩|⟨j,y,e,l,n,e3,X,e5,e6⟩
     ·cases R
     ·injection l with l;injection l with l T;subst T;injection h with h;cases o with
      |true=>
       simp only[qV]at h;subst h;refine qH (v:=.tuple #[e.val,.bool true]) hi ?_ (.c (.w5 rfl fun j L y a b=>?_))
       ·simp[Instr.lookup,zK s,Ky E,ZE g f,Qb g n,Result.andThen]
       ·match j,a,b with
        | 0,a,b=>simp at a b;subst a;subst b;exact X
        | 1,a,b=>simp at a b;subst a;subst b;exact .v rfl
        |j+2,a,b=>simp at a
      |false=>simp only[zP,wF]at h;subst h;refine qH (v:=e.val) hi ?_ (.c X);simp[Instr.lookup,zK s,Ky E,ZE g f,Qb g n,Result.andThen]
    ·rename_i M;obtain⟨z,K,m⟩:∃z,dK P D=some z/\(if o=true then O.w5 [z,.v (.bool false)]else z)=x:=by
      cases A:dK P D with
      |none=>rw[A]at h;cases h
      |some z=>rw[A]at h;injection h with h;exact⟨z,rfl,h⟩
     obtain⟨B,l,n⟩:=tG (w:=w) (S:=S) K;rcases KD hd f (en:=en.toList) (by simpa using U.symm) (fun j c e N Q=>W j c e N (by simpa using Q)) M with⟨_,C⟩|⟨j,y,e,R,_⟩
     ·cases o with
      |true=>
       simp only[qV]at m;subst m;refine qH (v:=.tuple #[B,.bool false]) hi ?_ (.c (.w5 rfl fun j L y a b=>?_))
       ·simp[Instr.lookup,zK s,Ky E,ZE g f,Qb g C,l,Result.andThen]
       ·match j,a,b with
        | 0,a,b=>simp at a b;subst a;subst b;exact n
        | 1,a,b=>simp at a b;subst a;subst b;exact .v rfl
        |j+2,a,b=>simp at a
      |false=>simp only[zP,wF]at m;subst m;refine qH (v:=B) hi ?_ (.c n);simp[Instr.lookup,zK s,Ky E,ZE g f,Qb g C,l,Result.andThen]
     ·cases R
    ·cases h
  ·cases h
 ·cases h
theorem He{a b:Value}(h:YN a b=some true):b=a:=by
 unfold YN at h;split at h
 ·rename_i k x c y;split at h
  ·rename_i e;subst e;injection h with h
   rw[jY]at h;rw[h]
  ·cases h
 ·rename_i x y;injection h with h
  rw[jY]at h;obtain⟨x⟩:=x;obtain⟨y⟩:=y;congr 2
  (rw[MF,MF]at h;exact U2.1 h.symm)
 ·cases h
theorem iK(hi:Inv P w S G Y Z){t:TypeId}{p q y:O}{Y':Hp}{u v z:Value}(h:JN P Y t p q y=some Y')(hu:qw w S G Z p u)(hq:qw w S G Z q v)(hy:qw w S G Z y z) :
  ∃w' S' G',(Instr.mapUpdate t u v z).run P w=.ok () w'/\kW dr P Y Z S G w Y' Z S' G' w':=by
 unfold JN at h;split at h
 ·rename_i kk et id k L;obtain⟨kt,d,s,D,M,hd⟩:=nu L;obtain⟨rfl,m⟩:=hq.yi;obtain⟨m1,E,rfl⟩:=hu.U8;split at h
  ·rename_i hc;have g:=M v hc;split at h
   ·rename_i F Y1 hf;obtain⟨S1,r,hr,_,_⟩:=vH hi hf hy;split at h
    ·rename_i b H;split at h
     ·obtain⟨en,clock,A,I,J⟩:=((r.inv.live id b H).AD E).row;have B:Stamped en clock:=by
       obtain⟨N,l,q1,q2⟩:=((r.inv.live id b H).AD E).zd0;rw[A]at q1;obtain⟨rfl,rfl⟩:en=N/\clock=l:=by simpa using q1
       exact q2
      split at h
      ·rename_i i pv n;injection h with h
       subst h;rcases KD hd g (en:=en.toList) (by simpa using I.symm) (fun j c e Q R=>J j c e Q (by simpa using R)) n with⟨T,_⟩|⟨j,x,e,K,e2,e3,e4,e5,e6⟩
       ·cases T
       ·injection K with K;injection K with K e1';have U:i=j:=by omega
        subst U;have C:en[i]?=some e:=by simpa using e3
        have W:e.key=v:=He e5;have X:=kW.U9 (dr:=dr) r.inv H E (en.modify i fun e=>{e with key:=v,val:=z}) clock (b.es.set i [.v v,F]) (B.modify i v z) (by simpa using I) (fun i' c e' f a=>by
         rw[kS]at a;by_cases o:i=i'
         ·subst o;rw[zd rfl,C]at a;rw[ZN e6]at f;injection f with f
          simp only[zH,qa]at a;subst a;subst f;exact⟨v,F,rfl,rfl,m,hr⟩
         ·rw[ze o]at a;rw[jB o]at f;exact J i' c e' f a)
        refine⟨_,S1,G,?_,r.trans X⟩;simp[Instr.mapUpdate,zK s,Ky A,ZE D g,Qb D e2,C,W,MapKept.run_keyThatStays g,MapKept.run_setObj_map _ A,Result.andThen]
      ·rename_i n;injection h with h
       subst h;rcases KD hd g (en:=en.toList) (by simpa using I.symm) (fun j c e Q R=>J j c e Q (by simpa using R)) n with⟨_,hn⟩|⟨j,x,e,T,_⟩
       ·have X:=kW.U9 (dr:=dr) r.inv H E (en.push {key:=v,val:=z,born:=clock}) (clock+1) (b.es++[[.v v,F]]) (B.push v z) (by simp[I]) (fun i' c e' f a=>by
         rw[Array.getElem?_push]at a;split at a
         ·rename_i Dp;injection a with a
          subst a;rw[zY (by omega)]at f;have:i'-b.es.length=0:=by omega
          rw[this]at f;simp at f;exact⟨v,F,f.symm,rfl,m,hr⟩
         ·rename_i Dp;have hlt:i'<en.size:=(zM.1 a).1;rw[qh (by omega)]at f;exact J i' c e' f a)
        refine⟨_,S1,G,?_,r.trans X⟩;simp[Instr.mapUpdate,zK s,Ky A,ZE D g,Qb D hn,MapKept.run_setObj_map _ A,Result.andThen]
       ·cases T
      ·cases h
     ·cases h
    ·cases h
   ·cases h
  ·cases h
 ·cases h
end
variable{dr:Prop}
section
variable{P:Program}{w:World}{S:Nat->Prop}{G:Nat->GI}{Y:Hp}{Z:Nat}
theorem P6(hi:Inv P w S G Y Z){t ty:TypeId}{p x:O}{u:Value}(h:Vi P t p=some x)(b:qw w S G Z p u):Q9 dr P w Y Z S G x Y Z ((Builtin.len_ #[t] ty #[u]).run P w):=by
 have sl:∀{A:Option Addr} {n c:Nat} {e:TypeId},yp P t=some e->(Builtin.len_ #[t] ty #[.slice A n c]).run P w=.ok (.int .i64 n) w:=fun a=>by simp[Builtin.len_,zK (vI a),goInt]
 unfold Vi at h;split at h
 ·obtain⟨rfl,_⟩:=b.yi;split at h
  ·rename_i d;injection h with h
   subst h;exact qH (v:=_) hi (by simp[Builtin.len_,zK d,goInt]) (Zf _ rfl)
  ·cases h
 ·cases a:yp P t with
  |none=>simp[a]at h
  |some e=>simp[a]at h;subst h;obtain⟨rfl,_⟩:=b.yi;exact qH (v:=_) hi (sl a) (Zf _ rfl)
 ·cases a:yp P t with
  |none=>simp[a]at h
  |some e=>
   simp[a]at h;subst h;cases b.dF with
   |sl us f g i j k l=>exact qH (v:=_) hi (sl a) (Zf _ rfl)
 ·cases a:yp P t with
  |none=>simp[a]at h
  |some e=>simp[a]at h;subst h;have:=b.xQ;subst this;exact qH (v:=_) hi (sl a) (Zf _ rfl)
 ·cases a:yp P t with
  |none=>simp[a]at h
  |some e=>simp[a]at h;subst h;obtain⟨ad,cap,rfl,_⟩:=b.rX;exact qH (v:=_) hi (sl a) (Zf _ rfl)
 ·cases a:yp P t with
  |none=>simp[a]at h
  |some e=>simp[a]at h;subst h;obtain⟨cap,_,_,_,_,rfl⟩:=b.vf;exact qH (v:=_) hi (sl a) (Zf _ rfl)
 ·cases h
theorem iL{k:IntKind}:∀{l:zb} {x:Int} {r:O} {us:List Value},aG k x l=some r->Zip (qw w S G Z) l us->∃n,r=.v (.int k n)/\(us.foldlM Builtin.min2 (.int k x)).run P w=.ok (.int k n) w
 |[],x,r,us,h,a=>by
  simp only[aG]at h;injection h with h
  subst h;rw[a.Yq];exact⟨x,rfl,by simp⟩
 |p::l,x,r,us,h,a=>by
  obtain⟨u,c,rfl,d,b⟩:=a.y9;unfold aG at h;split at h
  ·cases ‹p::l=[]›
  ·rename_i m y l' e;injection e with f g
   subst f;subst g;split at h
   ·rename_i i;subst i;obtain⟨rfl,_⟩:=d.yi;obtain⟨n,rfl,j⟩:=iL h b;exact⟨n,rfl,by simp only[List.foldlM_cons,xA,Builtin.min2,Ym,vm];exact j⟩
   ·cases h
  ·cases h
theorem iM{k:IntKind}:∀{l:zb} {x:Int} {r:O} {us:List Value},aH k x l=some r->Zip (qw w S G Z) l us->∃n,r=.v (.int k n)/\(us.foldlM Builtin.max2 (.int k x)).run P w=.ok (.int k n) w
 |[],x,r,us,h,a=>by
  simp only[aH]at h;injection h with h
  subst h;rw[a.Yq];exact⟨x,rfl,by simp⟩
 |p::l,x,r,us,h,a=>by
  obtain⟨u,c,rfl,d,b⟩:=a.y9;unfold aH at h;split at h
  ·cases ‹p::l=[]›
  ·rename_i m y l' e;injection e with f g
   subst f;subst g;split at h
   ·rename_i i;subst i;obtain⟨rfl,_⟩:=d.yi;obtain⟨n,rfl,j⟩:=iM h b;exact⟨n,rfl,by simp only[List.foldlM_cons,xA,Builtin.max2,Ym,vm];exact j⟩
   ·cases h
  ·cases h
theorem P7(hi:Inv P w S G Y Z){ts:Array TypeId}{ty:TypeId}{xs:zb}{x:O}{us:Array Value}(h:PU xs=some x)(c:Zip (qw w S G Z) xs us.toList):Q9 dr P w Y Z S G x Y Z ((Builtin.min_ ts ty us).run P w):=by
 unfold PU at h;split at h
 ·rename_i k y l;obtain⟨u,d,a,e,b⟩:=c.y9;obtain⟨rfl,_⟩:=e.yi;obtain⟨n,rfl,f⟩:=iL (P:=P) h b;exact qH (v:=_) hi (by simp only[Builtin.min_,a];exact f) (Zf _ rfl)
 ·cases h
theorem P8(hi:Inv P w S G Y Z){ts:Array TypeId}{ty:TypeId}{xs:zb}{x:O}{us:Array Value}(h:PW xs=some x)(c:Zip (qw w S G Z) xs us.toList):Q9 dr P w Y Z S G x Y Z ((Builtin.max_ ts ty us).run P w):=by
 unfold PW at h;split at h
 ·rename_i k y l;obtain⟨u,d,a,e,b⟩:=c.y9;obtain⟨rfl,_⟩:=e.yi;obtain⟨n,rfl,f⟩:=iM (P:=P) h b;exact qH (v:=_) hi (by simp only[Builtin.max_,a];exact f) (Zf _ rfl)
 ·cases h
theorem tH:∀(l:List Value) (k off:Nat) (a:Array Value),off+k+l.length<=a.size ->
  ((l.zipIdx k).foldl (fun(cs:Array Value) (p:Value×Nat)=>cs.setIfInBounds (off+p.2) p.1) a).size=a.size /\
  ∀i:Nat,((l.zipIdx k).foldl (fun(cs:Array Value) (p:Value×Nat)=>cs.setIfInBounds (off+p.2) p.1) a)[i]?=if off+k<=i/\i<off+k+l.length then l[i-(off+k)]? else a[i]?
 |[],k,off,a,h=>by simp;omega
 |x::l,k,off,a,h=>by
  simp only[zx]at h;obtain⟨c,e⟩:=tH l (k+1) off (a.setIfInBounds (off+k) x) (by simp;omega);simp only[List.zipIdx_cons,QF];refine⟨by rw[c];simp,fun i=>?_⟩;rw[e];by_cases b:off+(k+1)<=i/\i<off+(k+1)+l.length
  ·rw[zd b,zd ⟨by omega,by simp;omega⟩];obtain⟨d,rfl⟩:∃d,i=off+(k+1)+d:=⟨i-(off+(k+1)),by omega⟩;rw[show off+(k+1)+d-(off+(k+1))=d from by omega,show off+(k+1)+d-(off+k)=d+1 from by omega];simp
  ·rw[ze b];by_cases f:i=off+k
   ·subst f;have hs:(a.setIfInBounds (off+k) x)[off+k]?=some x:=by rw[wT (by omega)]
    rw[zd ⟨by omega,by simp⟩,hs];simp
   ·rw[ze (by simp;omega),qL (by omega)]
theorem LB{u:Value}{off:Nat}{cells:Array Value}(h:off+u.cells.size<=cells.size) :
  (u.cells.zipIdx.foldl (fun cs (c,j)=>cs.setIfInBounds (off+j) c) cells).size=cells.size /\
  ∀i:Nat,(u.cells.zipIdx.foldl (fun cs (c,j)=>cs.setIfInBounds (off+j) c) cells)[i]?=if off<=i/\i<off+u.cells.size then u.cells[i-off]? else cells[i]?:=by
 have:=tH u.cells.toList 0 off cells (by simpa using h);simp only[vS,yl,Array.getElem?_toList]at this;rw[<-Array.foldl_toList,Array.toList_zipIdx];exact this
theorem nv{a:Nat->Option (Nat×Nat)}:∀{q:List (Nat×O)} {vs:List (Nat×Value)} {cs d:zb} {cells:Array Value},qS a cs q=some d ->
  Zip (fun p v=>p.1=v.1/\qw w S G Z p.2 v.2) q vs->cs.length=cells.size->(∀(j:Nat) (f:O) (u:Value),cs[j]?=some f->cells[j]?=some u->qw w S G Z f u) ->
  ∃b,Instr.fill a cells vs=some b/\d.length=b.size/\∀(j:Nat) (f:O) (u:Value),d[j]?=some f->b[j]?=some u->qw w S G Z f u
 |[],vs,cs,d,cells,h,r,s,t=>by
  simp only[qS]at h;injection h with h
  subst h;rw[r.Yq];exact⟨cells,rfl,s,t⟩
 |(i,x)::q,vs,cs,d,cells,h,r,s,t=>by
  obtain⟨⟨i',u⟩,k,rfl,⟨e,A⟩,y⟩:=r.y9;simp only at e A;subst e;simp only[qS]at h;split at h
  ·rename_i off n Y;split at h
   ·rename_i C;obtain⟨B,D,E⟩:=C;obtain⟨F,H⟩:=fW A E;have z:u.cells.size=n:=by rw[<-F,B]
    obtain⟨I,J⟩:=LB (u:=u) (off:=off) (cells:=cells) (by omega);have g:Instr.fill a cells ((i,u)::k)=Instr.fill a (u.cells.zipIdx.foldl (fun cs (c,j)=>cs.setIfInBounds (off+j) c) cells) k:=by
     have K:¬(off+n>cells.size):=by omega
     simp[Instr.fill,Y,z];omega
    rw[g];refine nv h y (by rw[Ys,I,s]) (fun j f v l m=>?_);rw[Vk _ _ _ _ (by rw[B];exact D)]at l;rw[J]at m;by_cases o:off<=j/\j<off+u.cells.size
    ·rw[zd o]at m;rw[zd (by omega)]at l;exact(H (j-off) f v l m).1
    ·rw[ze o]at m;rw[ze (by omega)]at l;exact t j f v l m
   ·cases h
  ·cases h
theorem fY{d:Operand->Option O}{a:Operand->Value}(b:∀y e,d y=some e->qw w S G Z e (a y)):∀{l:List (Nat×Operand)} {c:List (Nat×O)},vY d l=some c ->
  Zip (fun(p:Nat×O) (v:Nat×Value)=>p.1=v.1/\qw w S G Z p.2 v.2) c (l.map fun(i,x)=>(i,a x))
 |[],c,h=>by
  simp only[vY]at h;injection h with h
  subst h;exact .nil
 |(i,x)::l,c,h=>by
  simp only[vY]at h;split at h
  ·rename_i p r Y f;injection h with h
   subst h;exact .cons ⟨rfl,b _ _ Y⟩ (fY b f)
  ·cases h
theorem Hf(hi:Inv P w S G Y Z){t:TypeId}{k:List (Nat×O)}{vs:Array (Nat×Value)}{x:O}(h:qv P t k=some x)(K:Zip (fun p v=>p.1=v.1/\qw w S G Z p.2 v.2) k vs.toList) :
  Q9 dr P w Y Z S G x Y Z ((Instr.build t vs).run P w):=by
 unfold qv at h;split at h
 ·rename_i L z g o;obtain⟨i,q,r,s,y⟩:=QI o;obtain⟨A,B⟩:=jI (w:=w) (S:=S) y;cases b:qS (fun i=>L[i]?) z k with
  |none=>simp[b]at h
  |some C=>
   simp[b]at h;subst h;obtain⟨a,D,E,F⟩:=nv b K (cells:=q.cells) (by rw[A];simp) (fun j H u I d=>.c (B j H u I (by simpa using d)).1);have J:P.built t vs.toList=some a:=by
    unfold ZG at g;split at g
    ·rename_i M d;unfold Program.built;simp only[r,d,s,g];simpa using D
    ·cases g
   exact qH (v:=_) hi (run_build w t vs a J) (.agg E F)
 ·rename_i z g o;split at h
  ·rename_i m e d;split at h
   ·rename_i n l;obtain⟨i,q,r,s,y⟩:=QI o;obtain⟨A,B⟩:=jI (w:=w) (S:=S) y;cases b:qS (fun i=>some (i*n,n)) z k with
    |none=>simp[b]at h
    |some C=>
     simp[b]at h;subst h;obtain⟨a,D,E,F⟩:=nv b K (cells:=q.cells) (by rw[A];simp) (fun j H u I d=>.c (B j H u I (by simpa using d)).1);have J:P.built t vs.toList=some a:=by
      unfold Program.built;unfold qE at l;cases f:P.info? e with
      |none=>simp[f]at l
      |some N=>simp only[f,zH,qa]at l;simp only[r,d,s,f,l];exact D
     exact qH (v:=_) hi (run_build w t vs a J) (.agg E F)
   ·cases h
  ·cases h
 ·cases h
theorem JR:∀{c a:List (Nat×O)} {Y Y1:Hp} {S:Nat->Prop} {vs:List (Nat×Value)} (_:Inv P w S G Y Z),zr Y c=some (a,Y1) ->
  Zip (fun p v=>p.1=v.1/\qw w S G Z p.2 v.2) c vs->∃S',kW dr P Y Z S G w Y1 Z S' G w/\Zip (fun p v=>p.1=v.1/\ya w S' p.2 v.2) a vs
 |[],a,Y,Y1,S,vs,hi,h,d=>by
  simp only[zr]at h;injection h with h
  injection h with g j;subst g;subst j;rw[d.Yq];exact⟨S,.refl hi,.nil⟩
 |(i,x)::c,a,Y,Y1,S,vs,hi,h,d=>by
  obtain⟨⟨i',u⟩,n,rfl,⟨e,k⟩,f⟩:=d.y9;simp only at e k;simp only[zr]at h;split at h
  ·rename_i y g o;split at h
   ·rename_i r j q;injection h with h
    injection h with s t;subst s;subst t;obtain⟨z,b,A,_⟩:=vH (dr:=dr) hi o k;have B:=b.same hi;obtain⟨C,l,D⟩:=JR (S:=z) b.inv q (f.imp fun x u m=>⟨m.1,m.2.mono B (zl _) (fun _ _=>rfl)⟩);exact⟨C,b.trans l,.cons ⟨e,A.mono (l.same b.inv)⟩ D⟩
   ·cases h
  ·cases h
theorem Hg{y:O}{u:Value}(h:ya w S y u)(a:y.cells.all O.yk=true):y.cells.length=u.cells.size/\∀(j:Nat) (d:O) (c:Value),y.cells[j]?=some d->u.cells[j]?=some c->ya w S d c/\c.oneCell'=true:=by
 by_cases e:∃cs,y=.agg cs
 ·obtain⟨cs,rfl⟩:=e;cases h with
  |agg k l=>refine⟨k,fun j d c b f=>?_⟩;have g:=l j d c b f;refine⟨g,g.V5 ?_⟩;simp only[O.cells]at a b;exact ql.1 a d (zN b)
 ·have m:y.cells=[y]:=by cases y<;>first|rfl|exact(e ⟨_,rfl⟩).elim
  rw[m]at a⊢;have hi:y.yk=true:=by simpa using a
  have i:=h.V5 hi;have f:u.cells=#[u]:=by cases u<;>first|rfl|simp[Value.oneCell']at i
  rw[f];refine⟨rfl,fun j d c b a=>?_⟩;cases j with
  |zero=>simp at b a;subst b;subst a;exact⟨h,i⟩
  |succ j=>simp at b
theorem dN{n:Nat}:∀{t:List (Nat×O)} {vs:List (Nat×Value)} {es d:List zb} {cells:Array Value},zJ n es t=some d->Zip (fun p v=>p.1=v.1/\ya w S p.2 v.2) t vs ->
  es.length*n=cells.size->(∀c∈es,c.length=n)->(∀(i j:Nat) (c:zb) (f:O),es[i]?=some c->c[j]?=some f->∃u,cells[i*n+j]?=some u/\ya w S f u/\u.oneCell'=true) ->
  ∃a,Instr.fill (fun i=>some (i*n,n)) cells vs=some a/\d.length=es.length/\a.size=cells.size/\(∀c∈d,c.length=n) /\
   ∀(i j:Nat) (c:zb) (f:O),d[i]?=some c->c[j]?=some f->∃u,a[i*n+j]?=some u/\ya w S f u/\u.oneCell'=true
 |[],vs,es,d,cells,h,y,D,r,z=>by
  simp only[zJ]at h;injection h with h
  subst h;rw[y.Yq];exact⟨cells,rfl,rfl,rfl,r,z⟩
 |(i,x)::t,vs,es,d,cells,h,y,D,r,z=>by
  obtain⟨⟨i',u⟩,l,rfl,⟨e,E⟩,A⟩:=y.y9;simp only at e E;subst e;simp only[zJ]at h;split at h
  ·rename_i B;obtain⟨C,F,I⟩:=B;obtain⟨J,K⟩:=Hg E I;have m:u.cells.size=n:=by rw[<-J,C]
   have G:i*n+n<=cells.size:=by have:(i+1)*n<=es.length*n:=zT _ F;rw[wo]at this;omega
   obtain⟨H,L⟩:=LB (u:=u) (off:=i*n) (cells:=cells) (by omega);have g:Instr.fill (fun i=>some (i*n,n)) cells ((i,u)::l)=Instr.fill (fun i=>some (i*n,n)) (u.cells.zipIdx.foldl (fun cs (c,j)=>cs.setIfInBounds (i*n+j) c) cells) l:=by simp[Instr.fill,m];omega
   rw[g];obtain⟨a,M,N,P,Q,R⟩:=dN h A (cells:=u.cells.zipIdx.foldl (fun cs (c,j)=>cs.setIfInBounds (i*n+j) c) cells) (by rw[H];simpa using D) (fun c B=>by
     rcases QE B with h|h
     ·exact r c h
     ·subst h;exact C) (fun i' j c f b s=>by
     rw[L];by_cases k:i'=i
     ·subst k;rw[ZN F]at b;injection b with b
      subst b;have o:j<n:=by rw[<-C];exact(zk.1 s).1
      rw[zd ⟨by omega,by omega⟩,show i'*n+j-i'*n=j from by omega];have q:j<u.cells.size:=by omega
      have T:=K j f u.cells[j] s (by simp[q]);exact⟨u.cells[j],by simp[q],T⟩
     ·rw[jB (fun e=>k e.symm)]at b;have o:j<n:=by rw[<-r c (zN b)];exact(zk.1 s).1
      have:=nj o k 0 n (by omega);rw[ze (by rw[m];simpa using this)];exact z i' j c f b s)
   exact⟨a,M,by rw[N];simp,by rw[P,H],Q,R⟩
  ·cases h
theorem lY(hi:Inv P w S G Y Z){t:TypeId}{len:Nat}{H:List (Nat×O)}{vs:Array (Nat×Value)}{x:O}{Y':Hp}{Z':Nat}(h:zt P Y Z t len H=some (x,Y',Z'))(Q:Zip (fun p v=>p.1=v.1/\qw w S G Z p.2 v.2) H vs.toList) :
  Q9 dr P w Y Z S G x Y' Z' ((Instr.buildSlice t len vs).run P w):=by
 unfold zt at h;split at h
 ·rename_i e I;split at h
  ·rename_i n z qs Y1 q R T;split at h
   ·rename_i r;obtain⟨s,y,c3⟩:=r;split at h
    ·rename_i es A;injection h with h
     injection h with U h;injection h with W en;subst U;subst W;subst en;obtain⟨i,f,X,i2,i3⟩:=QI R;obtain⟨z1,z2⟩:=jI (w:=w) (S:=S) i3;have B:f.cells.size=n:=by rw[<-y,z1];simp
     obtain⟨S1,C,q1⟩:=JR (dr:=dr) hi T Q;obtain⟨a,J,g2,K,g4,g5⟩:=dN (w:=w) A q1 (cells:=madeCells f.cells (len*n)) (by simp[size_madeCells]) (fun c r=>by rw[(List.mem_replicate.1 r).2];exact y) (fun i' j c D d o=>by
      have g:i'<len:=by have:=(zk.1 d).1;simpa using this
      rw[cw,zd g]at d;injection d with d
      subst d;have E:j<n:=by rw[<-y];exact(zk.1 o).1
      have k:j<f.cells.size:=by omega
      rw[Di B g E];have L:=z2 j D f.cells[j] o (by simp[k]);exact⟨f.cells[j],by simp[k],L.1.mono (C.same (dr:=dr) hi),L.2.1⟩)
     have F:es.length=len:=by rw[g2];simp
     have k2:=kW.alloc (dr:=dr) C.inv a e true es n s (by simpa[qE]using q) g4 (by rw[K,size_madeCells,F];exact zl _) (fun i' j c D d o=>by obtain⟨u,u1,M,u3⟩:=g5 i' j c D d o;exact⟨u,u1,fun _=>M,.c M,u3⟩)
     have N:¬(len*n>2 ^ 24):=by simp;omega
     refine⟨.slice (some ⟨w.heap.size,0,none⟩) len len,_,_,_,?_,C.trans k2,?_⟩
     ·by_cases l:len*n=0
      ·have hl0:len=0:=by
        rcases Nat.mul_eq_zero.1 l with h|h
        ·exact h
        ·omega
       have b:Instr.fill (fun i=>some (i*n,n)) ((Array.range (len*n)).map ((#[]:Array Value)[· % (#[]:Array Value).size]!)) vs.toList=some a:=by rw[<-J];congr 1;rw[l];simp[madeCells]
       simp[Instr.buildSlice,zK (vI I),yA q,l,newRow];simp[l]at b;simp[b]
      ·have b:Instr.fill (fun i=>some (i*n,n)) ((Array.range (len*n)).map (f.cells[· % f.cells.size]!)) vs.toList=some a:=J;simp[Instr.buildSlice,zK (vI I),yA q,l,newRow,WK X i2,b];omega
     ·have m:len<=maxLen:=by have:len*1<=len*n:=Nat.mul_le_mul_left _ s;simp only[maxLen];omega
      have:=qw.own (w:=w.alloc (.cells a e)) (S:=S1) (G:=qq G Z ⟨w.heap.size,a.size,n⟩) (Z:=Z+1) (id:=Z) (off:=0) (n:=len) (cap:=len) (by omega) (zl _) m (by simp[K,size_madeCells]) (by simpa using s);simpa using this
    ·cases h
   ·cases h
  ·cases h
 ·cases h
end
variable{dr:Prop}
section
variable{P:Program}{w:World}{S:Nat->Prop}{G:Nat->GI}{Y:Hp}{Z:Nat}
theorem MX(hi:Inv P w S G Y Z){t t' ty:TypeId}{d x y:O}{Y':Hp}{Z':Nat}{u v:Value}(h:Ly P Y Z t d x=some (y,Y',Z'))(hd:qw w S G Z d u)(hx:qw w S G Z x v) :
  Q9 dr P w Y Z S G y Y' Z' ((Builtin.copy_ #[t,t'] ty #[u,v]).run P w):=by
 unfold Ly at h;split at h
 ·rename_i e id off k he;split at h
  ·rename_i b n hb hn;split at h
   ·rename_i xs hv;split at h
    ·rename_i hc;obtain⟨c1,c2,c3,c4⟩:=hc;injection h with h
     injection h with ey h;injection h with eh en;subst ey;subst eh;subst en;have a:=hd.vy;obtain⟨cap,g1,g2,g3,g4,rfl⟩:=hd.vf;obtain⟨A,c,f,rfl,Q,f2⟩:=Vn hi hv hx;have l:=hi.live id b hb;obtain⟨cur,q1,q2,q3⟩:=l.row a;have R:=vI he;have p:(G id).s=n:=by
      have q:=l.size a;rw[c2]at q;have r:(P.info? e).map (·.size)=some n:=by simpa[qE]using hn
      rw[r]at q;injection q with q
      exact q.symm
     have J:Nat.min xs.length k=min xs.length k:=rfl;have T:min xs.length k<=xs.length:=Nat.min_le_left _ _;have hmk:min xs.length k<=k:=Nat.min_le_right _ _;generalize hm:min xs.length k=m at *;have E:=aJ c4 Q f2;have hmn:m*n<=xs.length*n:=zT _ T;have z:(Builtin.firstCells n m (.slice A xs.length c)).run P w=.ok ((List.range (m*n)).map f).toArray w:=by
      by_cases h0:m=0
      ·subst h0;cases A<;>simp[Builtin.firstCells,loadCells,loadCellsFrom]
      ·obtain⟨ad,rfl,_,_⟩:=E 0 (Nat.mul_pos (by omega) c4);have:=run_loadCells_list (P:=P) w ad ((List.range (m*n)).map f) (fun j u B=>by
        have U:j<m*n:=by have:=(zk.1 B).1;simpa using this
        obtain⟨W,X,e2,_⟩:=E j (by omega);injection X with X;subst X;rw[qz,kJ U]at B;simp at B;rw[e2,B])
       simpa[Builtin.firstCells]using this
     have C:off*n+m*n<=cur.size:=by rw[q2];have q:(off+m)*n<=b.es.length*n:=zT _ (by omega);have r:=l.fit a;rw[p]at r;rw[wo]at q;omega
     have K:=run_storeCells_at P (G id).g (off*n) b.e ((List.range (m*n)).map f) 0 cur w q1 (by simpa using C) (fun u R=>by obtain⟨k,hk,rfl⟩:=q9.1 R;exact(E k (by have:=jK.1 hk;omega)).choose_spec.2.2)
     simp only[vS]at K;have L:((List.range (m*n)).map f).length=m*n:=by simp
     have M:off*n+((List.range (m*n)).map f).length<=cur.toList.length:=by simpa using C
     have k2:=kW.set (dr:=dr) hi hb a (cur.toList.take (off*n)++(List.range (m*n)).map f++cur.toList.drop (off*n+((List.range (m*n)).map f).length)).toArray (b.es.take off++xs.take m++b.es.drop (off+m))
      (by rw[j9,WL _ _ _ M];simpa using q2)
      (fun D N=>by
       rw[qG]at N;rcases qi.1 N with h|h
       ·exact l.len a D (V2 _ _ h)
       ·rcases qi.1 h with h|h
        ·rw[p];exact Q D (V2 _ _ h)
        ·exact l.len a D (Yl _ _ h))
      (by
       have q:=l.fit a;have:(b.es.take off++xs.take m++b.es.drop (off+m)).length=b.es.length:=by simp;omega
       rw[this];exact q)
      (fun i' j D pv o B=>by
       have F:(xs.take m).length=m:=by simp;omega
       rw[show off+m=off+(xs.take m).length from by rw[F],vZ _ _ _ _ (by rw[F];omega),F]at o;rw[List.getElem?_toArray,vZ _ _ _ _ M,L,p];by_cases H:off<=i'/\i'<off+m
       ·rw[zd H,qI,zd (by omega)]at o;have I:j<n:=by rw[<-Q D (zN o)];exact(zk.1 B).1
        have q:off*n<=i'*n:=zT _ H.1;have r:=kK (i:=i'-off) (n:=m) (by omega) I;have h7:i'*n+j-off*n=(i'-off)*n+j:=by rw[ME];omega
        rw[zd ⟨by omega,by rw[ME]at r;omega⟩,h7,qz,kJ r];obtain⟨W,a1,a2,a3⟩:=f2 (i'-off) j D pv o B;refine⟨f ((i'-off)*n+j),rfl,?_⟩;rw[c1];exact a3
       ·rw[ze H]at o;have I:j<n:=by rw[<-p,<-l.len a D (zN o)];exact(zk.1 B).1
        have:¬(off*n<=i'*n+j/\i'*n+j<off*n+m*n):=by
         by_cases q:i'<off
         ·have r:=kK (n:=off) q I;omega
         ·have r:off+m<=i':=by omega
          have h7:(off+m)*n<=i'*n:=zT _ r;rw[wo]at h7;omega
        rw[ze this];obtain⟨u',u1,u2⟩:=q3 i' j D pv o B;rw[p]at u1;exact⟨u',by simpa using u1,u2⟩)
     rw[c1]at k2;refine⟨.int .i64 m,_,_,_,?_,k2,Zf _ rfl⟩;simp[Builtin.copy_,zK R,Builtin.lenOf,yA hn,J,z,p,K,goInt]
    ·cases h
   ·cases h
  ·cases h
 ·cases h
theorem P9{ts:Array TypeId}{us:Array Value}{t:TypeId}{u:Value}(ty:TypeId)(a:ts[0]?=some t)(b:us[0]?=some u):Builtin.clear_ ts ty us=Builtin.clear_ #[t] ty #[u]:=by simp[Builtin.clear_,a,b]
theorem Hh(hi:Inv P w S G Y Z){t ty:TypeId}{x y:O}{Y':Hp}{Z':Nat}{v:Value}(h:fV P Y Z t x=some (y,Y',Z'))(hd:qw w S G Z x v) :
  Q9 dr P w Y Z S G y Y' Z' ((Builtin.clear_ #[t] ty #[v]).run P w):=by
 unfold fV at h;split at h
 ·rename_i e id off k he;split at h
  ·rename_i b n z hb hn hz;split at h
   ·rename_i hc;obtain⟨⟨c0,c5⟩,c1,c2,c3,c4⟩:=hc;injection h with h
    injection h with ey h;injection h with eh en;subst ey;subst eh;subst en;have l:=hd.vy;obtain⟨cap,g1,g2,g3,g4,rfl⟩:=hd.vf;have p:=hi.live id b hb;obtain⟨cur,q1,q2,q3⟩:=p.row l;have hu:=vI he;have A:(G id).s=n:=by
     have B:=p.size l;rw[c2]at B;have E:(P.info? e).map (·.size)=some n:=by simpa[qE]using hn
     rw[E]at B;injection B with B
     exact B.symm
    obtain⟨i,K,i1,i2,i3⟩:=QI hz;obtain⟨z1,z2⟩:=jI (w:=w) (S:=S) i3;have M:K.cells.size=n:=by have:=z1;simp at this;omega
    obtain⟨d,f⟩:=wZ ((Builtin.zeroCells K.cells k).toList);have C:d.length=k*n:=by rw[<-f];simp[Builtin.zeroCells,M]
    have N:∀q r,q<k->r<n->d[q*n+r]?=K.cells[r]?:=fun q r hq hr=>by
     have hlt:=kK (n:=k) hq hr;have hm:(q*n+r) % n=r:=by rw[Q5,Nat.add_mul_mod_self_right];exact Nat.mod_eq_of_lt hr
     rw[<-f];simp only[Builtin.zeroCells,M,Array.toList_map,Array.toList_range,qz];rw[kJ hlt,zH,hm,Y3 _ r (by omega),jC (by omega)]
    have Q:∀r H u,z[r]?=some H->K.cells[r]?=some u->ya w S H u/\u.oneCell'=true:=fun r H u h1 h2=>by obtain⟨a,b,_⟩:=z2 r H u h1 (by simpa using h2);exact⟨a,b⟩
    have R:∀u∈d,u.oneCell'=true:=fun u hu=>by
     obtain⟨m,hm⟩:=Va hu;have hml:m<k*n:=by rw[<-C];exact(zk.1 hm).1
     have e1:m/n*n+m % n=m:=by rw[fI];exact Nat.div_add_mod m n
     have hmr:m % n<n:=zkD _ c0;have L:=N (m/n) (m % n) (Nat.div_lt_of_lt_mul (by rw[fI];exact hml)) hmr;rw[e1,hm]at L;exact(Q (m % n) (z[m % n]'(by omega)) u (zq (by omega)) L.symm).2
    have F:off*n+k*n<=cur.size:=by rw[q2];have B:(off+k)*n<=b.es.length*n:=zT _ c3;have E:=p.fit l;rw[A]at E;rw[wo]at B;omega
    have T:=run_storeCells_at P (G id).g (off*n) b.e d 0 cur w q1 (by rw[C];simpa using F) R;simp only[vS]at T;have U:off*n+d.length<=cur.toList.length:=by rw[C];simpa using F
    have k2:=kW.set (dr:=dr) hi hb l (cur.toList.take (off*n)++d++cur.toList.drop (off*n+d.length)).toArray (b.es.take off++List.replicate k z++b.es.drop (off+k))
     (by rw[j9,WL _ _ _ U];simpa using q2)
     (fun W X=>by
      rw[qG]at X;rcases qi.1 X with h|h
      ·exact p.len l W (V2 _ _ h)
      ·rcases qi.1 h with h|h
       ·rw[A,List.eq_of_mem_replicate h];exact c5
       ·exact p.len l W (Yl _ _ h))
     (by
      have B:=p.fit l;have:(b.es.take off++List.replicate k z++b.es.drop (off+k)).length=b.es.length:=by simp;omega
      rw[this];exact B)
     (fun i' j W H o hj=>by
      have I:(List.replicate k z).length=k:=by simp
      rw[show off+k=off+(List.replicate k z).length from by rw[I],vZ _ _ _ _ (by rw[I];omega),I]at o;rw[List.getElem?_toArray,vZ _ _ _ _ U,C,A];by_cases J:off<=i'/\i'<off+k
      ·rw[zd J,cw,zd (by omega)]at o;injection o with o
       subst o;have D:j<n:=by rw[<-c5];exact(zk.1 hj).1
       have B:off*n<=i'*n:=zT _ J.1;have E:=kK (i:=i'-off) (n:=k) (by omega) D;have L:i'*n+j-off*n=(i'-off)*n+j:=by rw[ME];omega
       rw[zd ⟨by omega,by rw[ME]at E;omega⟩,L,N _ _ (by omega) D];have h8:K.cells[j]?=some (K.cells[j]'(by omega)):=jC (by omega);obtain⟨r1,r2⟩:=Q j H _ hj h8;exact⟨_,h8,fun _=>r1,.c r1,r2⟩
      ·rw[ze J]at o;have D:j<n:=by rw[<-A,<-p.len l W (zN o)];exact(zk.1 hj).1
       have:¬(off*n<=i'*n+j/\i'*n+j<off*n+k*n):=by
        by_cases B:i'<off
        ·have E:=kK (n:=off) B D;omega
        ·have E:off+k<=i':=by omega
         have L:(off+k)*n<=i'*n:=zT _ E;rw[wo]at L;omega
       rw[ze this];obtain⟨u',u1,u2⟩:=q3 i' j W H o hj;rw[A]at u1;exact⟨u',by simpa using u1,u2⟩)
    rw[c1]at k2;refine⟨.tuple #[],_,_,_,?_,k2,.c (.w5 rfl (by simp))⟩;obtain⟨k',rfl⟩:∃k',k=k'+1:=⟨k-1,by omega⟩;simp[Builtin.clear_,zK hu,WK i1 i2,f,A,T]
   ·cases h
  ·cases h
 ·cases h
theorem WY{c:Operand->Option O}{a:Operand->Value}(b:∀y f,c y=some f->qw w S G Z f (a y)):∀{l:List Operand} {xs:zb},yH (l.map c)=some xs->Zip (qw w S G Z) xs (l.map a)
 |[],xs,h=>by
  simp only[yX,yH]at h;injection h with h
  subst h;exact .nil
 |x::l,xs,h=>by
  simp only[z6]at h;cases d:c x with
  |none=>rw[d]at h;simp[yH]at h
  |some p=>
   rw[d]at h;simp only[yH]at h;cases e:yH (l.map c)with
   |none=>rw[e]at h;simp at h
   |some r=>rw[e]at h;simp at h;subst h;exact .cons (b _ _ d) (WY b e)
def yY(dr:Prop)(P:Program)(g:FuncId)(a:AM.Spec):Prop:=
 (∃fn,P.funcs[g]?=some fn/\(fn.name== "runtime.NumGoroutine")=false/\fn.body.isNone=false) /\
 ∀(args:zb) (Y:Hp) (Z:Nat) (r:O) (Y':Hp) (Z':Nat),a args Y Z=some (r,Y',Z')->∀(w:World) (S:Nat->Prop) (G:Nat->GI) (vs:List Value),Inv P w S G Y Z->Zip (qw w S G Z) args vs ->
  Calls P g vs.toArray w fun e w'=>∃v S' G',e=.returned v/\kW dr P Y Z S G w Y' Z' S' G' w'/\qw w' S' G' Z' r v
abbrev zg:=yY True
theorem yY.lax{d:Prop}{P:Program}{g:FuncId}{spec:AM.Spec}(h:yY d P g spec)(hd:dr->d:=by intro h;exact True.intro):yY dr P g spec:=
 ⟨h.1,fun args Y Z r Y' Z' e w S G vs hi a=>(h.2 args Y Z r Y' Z' e w S G vs hi a).mono fun _ _ ⟨v,S',G',b,k,c⟩=>⟨v,S',G',b,⟨k.inv,k.up,k.loc,k.keep,k.from_,k.own,k.fr.lax hd⟩,c⟩⟩
def zc6(dr:Prop)(P:Program)(w:World)(Y:Hp)(Z:Nat)(S:Nat->Prop)(G:Nat->GI)(x:O)(Y':Hp)(Z':Nat)(r:Result Next):Prop:=
 (∃v w' S' G',(r=.ok (.value v) w'\/(r=.ok .skip w'/\v=undef))/\kW dr P Y Z S G w Y' Z' S' G' w'/\qw w' S' G' Z' x v) \/
 ∃g vs,r=.ok (.enter g vs) w/\Calls P g vs w fun e w'=>∃v S' G',e=.returned v/\kW dr P Y Z S G w Y' Z' S' G' w'/\qw w' S' G' Z' x v
theorem Q9.op{x:O}{Y':Hp}{Z':Nat}{s:Sem Value}(h:Q9 dr P w Y Z S G x Y' Z' (s.run P w)):zc6 dr P w Y Z S G x Y' Z' ((do pure (.value (<-s)):Sem Next).run P w):=by obtain⟨v,w',S',G',a,b,c⟩:=h;exact .inl ⟨v,w',S',G',.inl (by simp[a]),b,c⟩
theorem zd3{ts:Array TypeId}{us:Array Value}{t:TypeId}{u:Value}(ty:TypeId)(a:ts[0]?=some t)(b:us[0]?=some u):Builtin.len_ ts ty us=Builtin.len_ #[t] ty #[u]:=by simp[Builtin.len_,a,b]
theorem MY{ts:Array TypeId}{us:Array Value}{t t':TypeId}{u v:Value}(ty:TypeId)(a:ts[0]?=some t)(b:ts[1]?=some t')(c:us[0]?=some u)(d:us[1]?=some v):Builtin.append_ ts ty us=Builtin.append_ #[t,t'] ty #[u,v]:=by simp[Builtin.append_,a,b,c,d]
theorem zau{ts:Array TypeId}{us:Array Value}{t:TypeId}{u v:Value}(ty:TypeId)(a:ts[0]?=some t)(b:us[0]?=some u)(c:us[1]?=some v):Builtin.copy_ ts ty us=Builtin.copy_ #[t,t] ty #[u,v]:=by simp[Builtin.copy_,a,b,c]
theorem YS{α a:Type}{R:α->a->Prop}{x:α}{us:List a}(h:Zip R [x] us):∃u,us=[u]/\R x u:=by obtain⟨u,b,rfl,c,d⟩:=h.y9;rw[d.Yq];exact⟨u,rfl,c⟩
theorem LC{α a:Type}{R:α->a->Prop}{x y:α}{us:List a}(h:Zip R [x,y] us):∃u v,us=[u,v]/\R x u/\R y v:=by obtain⟨u,b,rfl,c,d⟩:=h.y9;obtain⟨v,rfl,e⟩:=YS d;exact⟨u,v,rfl,c,e⟩
theorem Zip.append{α c:Type}{R:α->c->Prop}{xs ys:List α}{us vs:List c}(h:Zip R xs us)(k:Zip R ys vs):Zip R (xs++ys) (us++vs):=by
 refine⟨by simp[h.1,k.1],fun j x u a b=>?_⟩;by_cases d:j<xs.length
 ·rw[qh d]at a;rw[qh (by rw[<-h.1];exact d)]at b;exact h.2 j x u a b
 ·rw[zY (by omega)]at a;rw[zY (by rw[<-h.1];omega),<-h.1]at b;exact k.2 _ x u a b
theorem z7{α a:Type}{o:Option α}{f:α->a}{y:a}(h:o.map f=some y):∃x,o=some x/\f x=y:=by
 cases o with
 |none=>simp at h
 |some x=>exact⟨x,rfl,by simpa using h⟩
end
theorem dO{C:Ctx}{w:World}{S:Nat->Prop}{G:Nat->GI}{Y:Hp}{Z:Nat}(hΓ:∀g L,C.Γ g=some L->yY dr C.P g L)(hi:Inv C.P w S G Y Z)
  {ρ:Operand->Option O} {a:Operand->Value} (d:∀y pv,ρ y=some pv->qw w S G Z pv (a y)) {o:Oper} {x:O} {Y':Hp} {Z':Nat} (h:qb C ρ Y Z o.op=some (x,Y',Z')) :
  zc6 dr C.P w Y Z S G x Y' Z' ((execOp a o).run C.P w):=by
 have A:∀{f:O} {y:O},(f,Y,Z)=(y,Y',Z')->f=y/\Y=Y'/\Z=Z':=by
  intro f y h;injection h with K h
  injection h with N Q;exact⟨K,N,Q⟩
 unfold qb at h;unfold execOp;split at h
 ·rename_i y B;obtain⟨p,D,F⟩:=z7 h;obtain⟨rfl,rfl,rfl⟩:=A F;simp only[B];exact .inl ⟨a y,w,S,G,.inl rfl,.refl hi,d _ _ D⟩
 ·rename_i y B;obtain⟨p,D,F⟩:=z7 h;obtain⟨rfl,rfl,rfl⟩:=A F;simp only[B];exact .inl ⟨a y,w,S,G,.inl rfl,.refl hi,d _ _ D⟩
 ·rename_i c y z B;simp only[B];split at h
  ·rename_i U;obtain⟨p,D,F⟩:=z7 h;obtain⟨rfl,rfl,rfl⟩:=A F;obtain⟨e,_⟩:=(d _ _ U).yi;exact .inl ⟨a y,w,S,G,.inl (by simp[e,asBool]),.refl hi,d _ _ D⟩
  ·rename_i U;obtain⟨p,D,F⟩:=z7 h;obtain⟨rfl,rfl,rfl⟩:=A F;obtain⟨e,_⟩:=(d _ _ U).yi;exact .inl ⟨a z,w,S,G,.inl (by simp[e,asBool]),.refl hi,d _ _ D⟩
  ·cases h
 ·rename_i t B;simp only[B];split at h
  ·rename_i n z D F;split at h
   ·rename_i hl;injection h with h
    injection h with K h;injection h with N Q;subst K;subst N;subst Q;exact(G8 hi D F hl.1 hl.2).op
   ·cases h
  ·cases h
 ·rename_i t y B;simp only[B];split at h
  ·rename_i n p D F;split at h
   ·rename_i U;injection h with h
    injection h with K h;injection h with N Q;subst K;subst N;subst Q;exact(PY hi D (d _ _ F) U.1 U.2.1 U.2.2).op
   ·cases h
  ·cases h
 ·rename_i t parts B;simp only[B];split at h
  ·rename_i ps hps;obtain⟨p,D,F⟩:=z7 h;obtain⟨rfl,rfl,rfl⟩:=A F;exact(Hf hi D (by simpa using fY d hps)).op
  ·cases h
 ·rename_i t len parts B;simp only[B];split at h
  ·rename_i ps hps;exact(lY hi h (by simpa using fY d hps)).op
  ·cases h
 ·rename_i t y B;simp only[B];split at h
  ·rename_i p Y1;obtain⟨q,D,F⟩:=z7 h;obtain⟨rfl,rfl,rfl⟩:=A F;exact(tB hi D (d _ _ Y1)).op
  ·cases h
 ·rename_i t y z B;simp only[B];split at h
  ·rename_i p q D F;obtain⟨Y1,I,H⟩:=z7 h;injection H with K H
   injection H with N Q;subst K;subst N;subst Q;obtain⟨w',S',G',r1,r2⟩:=nk hi I (d _ _ D) (d _ _ F);exact .inl ⟨undef,w',S',G',.inr ⟨by simp[r1],rfl⟩,r2,kx⟩
  ·cases h
 ·rename_i y B;simp only[B];split at h
  ·rename_i id i j hy;injection h with h
   obtain⟨rfl,rfl,rfl⟩:=A h;have hr:=d _ _ hy;obtain⟨D,F⟩:=hr.xq;exact .inl ⟨a y,w,S,G,.inl (by rw[F];rfl),.refl hi,hr⟩
  ·rename_i cs hy;injection h with h
   obtain⟨rfl,rfl,rfl⟩:=A h;have hr:=d _ _ hy;have hr2:=hr;have U:=hr.V6;generalize hay:a y=u at *;cases U with
   |ptr us D F=>exact .inl ⟨_,w,S,G,.inl rfl,.refl hi,hr2⟩
  ·cases h
 ·rename_i op t y z t2 B;simp only[B];split at h
  ·rename_i p q D F;obtain⟨r,I,H⟩:=z7 h;obtain⟨rfl,rfl,rfl⟩:=A H;exact(MS hi y z I (d _ _ D) (d _ _ F)).op
  ·cases h
 ·rename_i op t y B;simp only[B];split at h
  ·rename_i p D;obtain⟨r,I,H⟩:=z7 h;obtain⟨rfl,rfl,rfl⟩:=A H;exact(MT hi I (d _ _ D)).op
  ·cases h
 ·rename_i src dst y B;simp only[B];split at h
  ·rename_i p D;obtain⟨r,I,H⟩:=z7 h;obtain⟨rfl,rfl,rfl⟩:=A H;exact(MU hi I (d _ _ D)).op
  ·cases h
 ·rename_i f first J B
  simp only[B];split at h
  ·rename_i xs ys D F;injection h with h
   obtain⟨rfl,rfl,rfl⟩:=A h;exact(se hi (by simpa using WY d D) (by simpa using WY d F)).op
  ·cases h
 ·rename_i t l c B;simp only[B];split at h
  ·rename_i p q D F;exact(nt hi h (d _ _ D) (d _ _ F)).op
  ·cases h
 ·rename_i t y lo hh B;simp only[B];split at h
  ·rename_i p D;obtain⟨r,I,H⟩:=z7 h;obtain⟨rfl,rfl,rfl⟩:=A H;have hd:∀o:Option Operand,o.map ρ=none->o.map a=none:=fun o h=>by cases o<;>simp_all
   have hs:∀(o:Option Operand) (p:O),o.map ρ=some (some p)->∃u,o.map a=some u/\qw w S G Z p u:=fun o p h=>by
    cases o with
    |none=>simp at h
    |some y=>exact⟨a y,rfl,d _ _ (by simpa using h)⟩
   exact(Hc hi I (d _ _ D) (hd lo) (hs lo) (hd hh) (hs hh)).op
  ·cases h
 ·rename_i t y f B;simp only[B];split at h
  ·rename_i p D;obtain⟨r,I,H⟩:=z7 h;obtain⟨rfl,rfl,rfl⟩:=A H;exact(np hi I (d _ _ D)).op
  ·cases h
 ·rename_i t y f B;simp only[B];split at h
  ·rename_i p D;obtain⟨r,I,H⟩:=z7 h;obtain⟨rfl,rfl,rfl⟩:=A H;exact(G9 hi I (d _ _ D)).op
  ·cases h
 ·rename_i t y z B;simp only[B];split at h
  ·rename_i p q D F;obtain⟨r,I,H⟩:=z7 h;obtain⟨rfl,rfl,rfl⟩:=A H;exact(nq hi I (d _ _ D) (d _ _ F)).op
  ·cases h
 ·rename_i t y z B;simp only[B];split at h
  ·rename_i p q D F;obtain⟨r,I,H⟩:=z7 h;obtain⟨rfl,rfl,rfl⟩:=A H;exact(Ha hi I (d _ _ D) (d _ _ F)).op
  ·cases h
 ·rename_i y i B;simp only[B];split at h
  ·rename_i vs D;obtain⟨r,I,H⟩:=z7 h;obtain⟨rfl,rfl,rfl⟩:=A H;exact(Au hi I (d _ _ D)).op
  ·cases h
 ·rename_i c B;simp only[B];obtain⟨callee,⟨E⟩,M⟩:=c;unfold Zp at h;simp only at h;split at h
  ·rename_i xs R;have X:=WY d R;split at h
   ·rename_i b;unfold yQ at h;split at h
    ·split at h
     ·rename_i y t ht;obtain⟨u,hu1,hu2⟩:=YS X;obtain⟨r,I,H⟩:=z7 h;obtain⟨rfl,rfl,rfl⟩:=A H;have hd:=(P6 (dr:=dr) (ty:=o.type) hi I hu2).op;rw[<-zd3 (us:=(E.map a).toArray) o.type ht (by simp[hu1])]at hd;simpa[resolve,invoke,builtin,-bind_pure_comp]using hd
     ·cases h
    ·obtain⟨r,I,H⟩:=z7 h;obtain⟨rfl,rfl,rfl⟩:=A H;have hd:=(P7 (dr:=dr) (us:=(E.map a).toArray) (ts:=M) (ty:=o.type) hi I (by simpa using X)).op;simpa[resolve,invoke,builtin,-bind_pure_comp]using hd
    ·obtain⟨r,I,H⟩:=z7 h;obtain⟨rfl,rfl,rfl⟩:=A H;have hd:=(P8 (dr:=dr) (us:=(E.map a).toArray) (ts:=M) (ty:=o.type) hi I (by simpa using X)).op;simpa[resolve,invoke,builtin,-bind_pure_comp]using hd
    ·split at h
     ·rename_i s y t t' ht ht';obtain⟨u,v,T,hu,hv⟩:=LC X;have hd:=(Dj (dr:=dr) (ty:=o.type) hi h hu hv).op;rw[<-MY (us:=(E.map a).toArray) o.type ht ht' (by simp[T]) (by simp[T])]at hd;simpa[resolve,invoke,builtin,-bind_pure_comp]using hd
     ·cases h
    ·split at h
     ·rename_i s y t ht;obtain⟨u,v,T,hu,hv⟩:=LC X;have hd:=(MX (dr:=dr) (t':=t) (ty:=o.type) hi h hu hv).op;rw[<-zau (us:=(E.map a).toArray) o.type ht (by simp[T]) (by simp[T])]at hd;simpa[resolve,invoke,builtin,-bind_pure_comp]using hd
     ·cases h
    ·split at h
     ·rename_i y t ht;obtain⟨u,hu1,hu2⟩:=YS X;have hd:=(Hh (dr:=dr) (ty:=o.type) hi h hu2).op;rw[<-P9 (us:=(E.map a).toArray) o.type ht (by simp[hu1])]at hd;simpa[resolve,invoke,builtin,-bind_pure_comp]using hd
     ·cases h
    ·cases h
   ·rename_i f;unfold kg at h;split at h
    ·rename_i g first J hf
     split at h
     ·rename_i L hg;obtain⟨⟨fn,f1,f2,f3⟩,W⟩:=hΓ g L hg;obtain⟨us,ts,K,l1,l2,r1,r2⟩:=(d _ _ hf).CU;have X:Zip (qw w S G Z) (first++xs++J) (us.toList++E.map a++ts.toList):=
       (Zip.append ⟨by simpa using l1,fun j pv x p q=>r1 j pv x p (by simpa using q)⟩ (WY d R)).append ⟨by simpa using l2,fun j pv x p q=>r2 j pv x p (by simpa using q)⟩
      refine .inr ⟨g,(us.toList++E.map a++ts.toList).toArray,?_,W _ _ _ _ _ _ h w S G _ hi X⟩;have f2':¬fn.name= "runtime.NumGoroutine":=by simpa using f2
      have f3':¬fn.body=none:=by intro h;simp[h]at f3
      have e5:(us.toList++E.map a++ts.toList).toArray=us++(E.map a).toArray++ts:=by apply Array.ext';simp
      rw[e5];simp[resolve,K,Deferred.ofValue,invoke,callFunc,f1,f2',f3']
     ·cases h
    ·cases h
   ·cases h
  ·cases h
 ·rename_i t B;simp only[B];split at h
  ·rename_i kt hk;injection h with h
   injection h with K h;injection h with N Q;subst K;subst N;subst Q;exact(Aw hi t).op
  ·cases h
 ·rename_i t y z ok B;simp only[B];split at h
  ·rename_i p q D F;obtain⟨r,I,H⟩:=z7 h;obtain⟨rfl,rfl,rfl⟩:=A H;exact(Dk hi I (d _ _ D) (d _ _ F)).op
  ·cases h
 ·rename_i t m k y B;simp only[B];split at h
  ·rename_i p q r D F I;obtain⟨Y1,H,h5⟩:=z7 h;injection h5 with K h5
   injection h5 with N Q;subst K;subst N;subst Q;obtain⟨w',S',G',r1,r2⟩:=iK hi H (d _ _ D) (d _ _ F) (d _ _ I);exact .inl ⟨undef,w',S',G',.inr ⟨by simp[r1],rfl⟩,r2,kx⟩
  ·cases h
 ·rename_i t m k y B;simp only[B];split at h
  ·rename_i p q r D F I;obtain⟨Y1,H,h5⟩:=z7 h;injection h5 with K h5
   injection h5 with N Q;subst K;subst N;subst Q;obtain⟨w',S',G',r1,r2⟩:=iK hi H (d _ _ D) (d _ _ F) (d _ _ I);exact .inl ⟨undef,w',S',G',.inr ⟨by simp[r1],rfl⟩,r2,kx⟩
  ·cases h
 ·cases h
end Go.AM
