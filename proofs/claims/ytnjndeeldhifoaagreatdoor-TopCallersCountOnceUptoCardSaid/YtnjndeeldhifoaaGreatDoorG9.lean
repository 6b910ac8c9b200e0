/- Lemmas. -/
import Derived.Lib.TrimByte
import Derived.Shelf.Spec.SlicesGrow
import Derived.Shelf.SlSortCmp.WholeK
import Derived.Shelf.SlSortCmp.NoneTotal
import Derived.Test.YtnjndeeldhifoaaGreatDoorProg
import Derived.Test.YtnjndeeldhifoaaGreatDoorG8
set_option maxRecDepth 100000
set_option maxHeartbeats 4000000
open Go Proofs Proofs.YtnjndeeldhifoaaGreatDoor Proofs.Tryz RowKit AM SpanLaw Q Zz
open Go.IntKind renaming i64→i6
namespace Go.LikeLaw
inductive Lk:List UInt8->List UInt8->Prop
 |nil:Lk [] []
 |IQ {t p:List UInt8}:Lk t p->Lk t (42::p)
 |IU {c:UInt8} {t p:List UInt8}:Lk t (42::p)->Lk (c::t) (42::p)
 |one {c q:UInt8} {t p:List UInt8}:q≠42->(q=63\/q=c)->Lk t p->Lk (c::t) (q::p)
theorem Jv{t p:za}:Lk t (42::p)↔∃a b,t=a++b/\Lk b p:=by
 constructor
 ·intro h;generalize d:(42::p:za)=q at h
  induction h with
  |nil=>cases d
  |IQ h _=>cases d;exact⟨[],_,rfl,h⟩
  | @IU c t i h e=>obtain⟨a,b,rfl,g⟩:=e d;exact⟨c::a,b,rfl,g⟩
  |one f _ _=>cases d;exact absurd rfl f
 ·rintro⟨a,b,rfl,h⟩
  induction a with
  |nil=>exact .IQ h
  |cons c a e=>exact .IU e
theorem bT{c q:UInt8}{t p:za}(a:q≠42):Lk (c::t) (q::p)↔(q=63\/q=c)/\Lk t p:=by
 constructor
 ·intro h;cases h with
  |IQ=>exact absurd rfl a
  |IU=>exact absurd rfl a
  |one _ b d=>exact⟨b,d⟩
 ·rintro⟨b,d⟩;exact .one a b d
theorem ed{q:UInt8}{p:za}(a:q≠42):¬Lk [] (q::p):=by intro h;cases h;exact a rfl
theorem Mw{p:za}:Lk [] p↔∀q∈p,q=42:=by
 induction p with
 |nil=>simp[Lk.nil]
 |cons q p b=>
  by_cases a:q=42
  ·subst a;rw[Jv];constructor
   ·rintro⟨e,f,h,c⟩;obtain⟨_,rfl⟩:=List.append_eq_nil_iff.1 h.symm;simpa using b.1 c
   ·intro h;exact⟨[],[],rfl,b.2 fun x d=>h x (by simp[d])⟩
  ·constructor
   ·intro h;exact absurd h (ed a)
   ·intro h;exact absurd (h q (by simp)) a
theorem split{k:za}:∀{g t:za},Lk t (g++k)->∃d e,t=d++e/\Lk d g/\Lk e k
 |[],t,h=>⟨[],t,rfl,.nil,h⟩
 |q::g,t,h=>by
  by_cases f:q=42
  ·subst f;obtain⟨a,b,rfl,l⟩:=Jv.1 h;obtain⟨d,e,rfl,i,j⟩:=split l;exact⟨a++d,e,by simp,Jv.2 ⟨a,d,rfl,i⟩,j⟩
  ·cases t with
   |nil=>exact absurd h (ed f)
   |cons c t=>obtain⟨a,b⟩:=(bT f).1 h;obtain⟨d,e,rfl,i,j⟩:=split b;exact⟨c::d,e,rfl,.one f a i,j⟩
theorem Kr{s:za}(hs:∀q∈s,q≠42){p:za}:∀{t:za},Lk t (s++p)->s.length<=t.length/\Lk (t.drop s.length) p:=by
 induction s with
 |nil=>intro t h;exact⟨by simp,h⟩
 |cons q s d=>
  intro t h;have a:q≠42:=hs q (by simp);cases t with
  |nil=>exact absurd h (ed a)
  |cons c t=>obtain⟨_,b⟩:=(bT a).1 h;obtain⟨g,e⟩:=d (fun x f=>hs x (by simp[f])) b;exact⟨by simp;omega,by simpa using e⟩
structure Inv (t p:List UInt8) (star:Int) (fr i k:Nat):Prop where
 hi:i<=t.length
 hk:k<=p.length
 none_:star<0->star=-1/\(Lk t p↔Lk (t.drop i) (p.drop k))
 some_:0<=star->∃s,p.drop (star.toNat+1)=s++p.drop k/\star.toNat+1+s.length=k/\fr+s.length=i/\(∀q∈s,q≠42) /\
  (∀r,Lk (t.drop i) r->Lk (t.drop fr) (s++r))/\(Lk t p↔∃f,fr<=f/\f<=t.length/\Lk (t.drop f) (p.drop (star.toNat+1)))
theorem Inv.start(t p:za):Inv t p (-1) 0 0 0:=⟨by simp,by simp,fun _=>⟨rfl,by simp⟩,fun h=>by omega⟩
theorem Wy{l:za}{k:Nat}(h:k<l.length):l.drop k=l[k]::l.drop (k+1):=zd h
theorem Inv.SQ{t p:za}{a:Int}{l i k:Nat}(h:Inv t p a l i k)(o:k<p.length)(q:p[k]=42):Inv t p k i i (k+1):=by
 have hd:=Wy o;rw[q]at hd;have b:Lk (t.drop i) (p.drop k)↔∃f,i<=f/\f<=t.length/\Lk (t.drop f) (p.drop (k+1)):=by
  rw[hd,Jv];constructor
  ·rintro⟨c,g,e,d⟩;have u:c.length+g.length=t.length-i:=by have:=zo List.length e;simp at this;omega
   refine⟨i+c.length,by omega,by have:=h.hi;omega,?_⟩;rw[<-rX,e];simpa using d
  ·rintro⟨f,D,d,v⟩;refine⟨(t.drop i).take (f-i),t.drop f,?_,v⟩;rw[show t.drop f=(t.drop i).drop (f-i) by rw[rX];congr 1;omega];exact(Qy _ _).symm
 refine⟨h.hi,by omega,fun E=>by omega,fun _=>⟨[],by simp,by simp,by simp,by simp,fun r w=>by simpa using w,?_⟩⟩;have x:(k:Int).toNat=k:=by simp
 rw[x];by_cases hs:a<0
 ·rw[(h.none_ hs).2,b]
 ·obtain⟨s,m,F,G,y,z,A⟩:=h.some_ (by omega);rw[A];constructor
  ·rintro⟨f,H,I,n⟩;rw[m]at n;obtain⟨B,j⟩:=Kr y n;rw[rX]at j;simp at B;rw[hd,Jv]at j;obtain⟨c,g,e,d⟩:=j;have u:c.length+g.length=t.length-(f+s.length):=by have:=zo List.length e;simp at this;omega
   refine⟨f+s.length+c.length,by omega,by omega,?_⟩;rw[<-rX,e];simpa using d
  ·rintro C;exact⟨l,zi _,by have:=h.hi;omega,by rw[m];exact z _ (b.2 C)⟩
theorem Inv.fit{t p:za}{a:Int}{d i k:Nat}(h:Inv t p a d i k)(g:i<t.length)(j:k<p.length)(b:p[k]≠42)(e:p[k]=63\/p[k]=t[i]):Inv t p a d (i+1) (k+1):=by
 have hd:=Wy j;have f:=Wy g;refine⟨by omega,by omega,fun hs=>⟨(h.none_ hs).1,?_⟩,fun hs=>?_⟩
 ·rw[(h.none_ hs).2,hd,f,bT b];exact⟨fun h=>h.2,fun h=>⟨e,h⟩⟩
 ·obtain⟨s,l,v,w,m,n,o⟩:=h.some_ hs;refine⟨s++[p[k]],by rw[l,hd];simp,by simp;omega,by simp;omega,?_,?_,o⟩
  ·intro q c;rcases qh.1 c with h|h
   ·exact m q h
   ·simp at h;rw[h];exact b
  ·intro r u;rw[qY];refine n _ ?_;rw[f];exact .one b e u
theorem zaZ{t p:za}{i k:Nat}(e:i<t.length)(h:k<p.length->∀d:k<p.length,p[k]≠42/\¬(p[k]=63\/p[k]=t[i])):¬Lk (t.drop i) (p.drop k):=by
 intro c;rw[Wy e]at c;by_cases d:k<p.length
 ·rw[Wy d]at c;obtain⟨a,b⟩:=h d d;exact b ((bT a).1 c).1
 ·rw[@vw _ p _ (by omega)]at c;cases c
theorem Inv.none{t p:za}{a:Int}{b i k:Nat}(h:Inv t p a b i k)(hs:a<0)(c:¬Lk (t.drop i) (p.drop k)):¬Lk t p:=by rw[(h.none_ hs).2];exact c
theorem Inv.back{t p:za}{a:Int}{c i k:Nat}(h:Inv t p a c i k)(v:i<t.length)(hs:0<=a)(g:¬Lk (t.drop i) (p.drop k)):Inv t p a (c+1) (c+1) (a.toNat+1):=by
 obtain⟨s,j,w,l,m,x,n⟩:=h.some_ hs;have y:=h.hk;refine⟨by omega,by omega,fun h=>by omega,fun _=>⟨[],by simp,by simp,by simp,by simp,fun r o=>by simpa using o,?_⟩⟩;rw[n];constructor
 ·rintro⟨f,q,d,b⟩;by_cases u:f=c
  ·subst u;rw[j]at b;obtain⟨z,e⟩:=Kr m b;rw[rX,l]at e;exact absurd e g
  ·exact⟨f,by omega,d,b⟩
 ·rintro⟨f,q,d,b⟩;exact⟨f,by omega,d,b⟩
theorem Inv.done{t p:za}{a:Int}{b i k:Nat}(h:Inv t p a b i k)(r:i=t.length):Lk t p↔∀q∈p.drop k,q=42:=by
 have e:t.drop i=[]:=vw (by omega);rw[<-Mw];by_cases hs:a<0
 ·rw[(h.none_ hs).2,e]
 ·obtain⟨s,c,u,v,d,g,j⟩:=h.some_ (by omega);rw[j,c];constructor
  ·rintro⟨f,w,x,l⟩;obtain⟨m,n⟩:=Kr d l;simp at m;rwa [rX,vw (by omega)]at n
  ·intro o;exact⟨b,zi _,by omega,g _ (by rw[e];exact o)⟩
def fP(n m:Nat)(a:Int)(b i:Nat):Nat:=((m:Int)-a).toNat*((n+2)*(n+2))+(n-b)*(n+2)+(n-i)
end Go.LikeLaw
namespace Go.Q
open Go.RowKit Go.AM Go.LikeLaw
theorem Ry(l:za):l.dropWhile (·==42)=[]↔∀q∈l,q=42:=by
 induction l with
 |nil=>simp
 |cons x l b=>
  by_cases a:x=42
  ·simp[a,b]
  ·simp[a]
theorem C6(l:za):Lib.trimB l 42=[]↔∀q∈l,q=42:=by
 unfold Lib.trimB Lib.trimLeftB Lib.trimRightB;rw[Ry];constructor
 ·intro h;have a:∀m:za,(∀q∈m.dropWhile (·==42),q=42)->∀q∈m,q=42:=by
   intro m
   induction m with
   |nil=>simp
   |cons x m f=>
    by_cases b:x=42
    ·subst b;simp only[List.dropWhile_cons,beq_self_eq_true,qI];intro c q hq;rcases zC.1 hq with rfl|hq
     ·rfl
     ·exact f c q hq
    ·have d:(x==42)=false:=by simpa using b
     simp only[List.dropWhile_cons,d,zE,wE];intro c;exact absurd (c x (by simp)) b
  intro q hq;exact a l.reverse (fun q hq=>h q (by simpa using hq)) q (by simpa using hq)
 ·intro h q hq;have e:=List.mem_reverse.1 hq;exact h q (List.mem_reverse.1 ((List.dropWhile_sublist _).mem e))
noncomputable abbrev Clk:Ctx:=zG prog [(176,zg false [] (xR tbP fun _ b=>Cm b))]
theorem Rz:AM.Good Clk (fun g=>[176].contains g):=qc mixed ⟨nX,fun _=>zr _ _,trivial⟩
theorem pa(a:za)(Y:Hp)(Z:Nat)(h:a.length<=zw):zg false [] (xR tbP fun _ b=>Cm b) [str a,str [42]] Y Z=some (str (Lib.trimB a 42),Y,Z):=jL _ _ a [42] Y Z h (by decide) ⟨42,rfl,by decide⟩ rfl
theorem C7{n m:Nat}{a:Int}{b i k:Nat}(e:a<k)(f:k<m):fP n m k i i<fP n m a b i:=by
 unfold fP;obtain⟨d,hd⟩:∃d:Nat,((m:Int)-a).toNat=((m:Int)-(k:Int)).toNat+1+d:=⟨((m:Int)-a).toNat-((m:Int)-(k:Int)).toNat-1,by omega⟩;have c:(((m:Int)-(k:Int)).toNat+1+d)*((n+2)*(n+2))=((m:Int)-(k:Int)).toNat*((n+2)*(n+2))+(n+2)*(n+2)+d*((n+2)*(n+2)):=by rw[wI (_+1) d,wI _ 1,Nat.one_mul]
 rw[hd,c];have g:(n-i)*(n+2)<=n*(n+2):=qt _ (by omega);have h:(n+2)*(n+2)=n*(n+2)+2*(n+2):=by rw[wI]
 omega
theorem hC{n m:Nat}{a:Int}{b i:Nat}(d:b<=i)(e:i<n):fP n m a (b+1) (b+1)<fP n m a b i:=by
 unfold fP;have:n-b=(n-(b+1))+1:=by omega
 have c:(n-(b+1)+1)*(n+2)=(n-(b+1))*(n+2)+(n+2):=by rw[wI _ 1,Nat.one_mul]
 rw[this,c];omega
theorem pb{n m:Nat}{a:Int}{b i:Nat}(c:i<n):fP n m a b (i+1)<fP n m a b i:=by unfold fP;omega
open Classical in
noncomputable def VL (t p:za):Bool:=decide (Lk t p)
theorem pc{t p:za}(h:¬Lk t p):VL t p=false:=by simp[VL,h]
structure LInv (t p:List UInt8) (star:Int) (fr i k:Nat):Prop extends LikeLaw.Inv t p star fr i k where
 s0:-1<=star
 s1:star<k
 f1:fr<=i
theorem C8(t p:za)(L:t.length<=zw)(Y:p.length<=zw):zt Clk f151 [str t,str p]=some (qO (VL t p)):=by
 have A:=pa;refine zl rfl ?_;simp;refine jI (fun st=>∃(a:Int) (e i k:Nat),st.U 0=str t/\st.U 1=str p/\st.U 5=int a/\st.U 6=int e/\st.U 7=int i/\st.U 8=int k/\LInv t p a e i k)
  (fun st=>fP t.length p.length (k7 (st.U 5)) (k7 (st.U 6)).toNat (k7 (st.U 7)).toNat) ⟨-1,0,0,0,by simp,by simp,by simp,by simp,by simp,by simp,LikeLaw.Inv.start t p,by omega,by omega,by omega⟩ ?_
 rintro⟨U,Y,Z⟩ ⟨a,e,i,k,g,j,l,m,n,o,f⟩;simp only at g j l m n o;have B:=f.hk;have I:=f.hi;have M:=f.s0;have N:=f.s1;have H:=f.f1;unfold zw at *;by_cases c:i<t.length
 ·have v:(∀B:k<p.length,p[k]≠42/\¬(p[k]=63\/p[k]=t[i]))->¬Lk (t.drop i) (p.drop k):=fun h=>zaZ c fun _=>h
  have w:(∀B:k<p.length,p[k]≠42/\¬(p[k]=63\/p[k]=t[i]))->(a<0->VL t p=false)/\(0<=a->LInv t p a (e+1) (e+1) (a.toNat+1)):=fun h=>
   ⟨fun hs=>pc (f.none hs (v h)),fun hs=>⟨f.back c hs (v h),by omega,by omega,by omega⟩⟩
  have u:i6.wrap ((e:Int)+1)=((e+1:Nat):Int):=by rw[qE (by omega) (by omega)];omega
  have x:i6.wrap ((i:Int)+1)=((i+1:Nat):Int):=by rw[qE (by omega) (by omega)];omega
  have C:i6.wrap ((k:Int)+1)=((k+1:Nat):Int):=by rw[qE (by omega) (by omega)];omega
  by_cases b:k<p.length
  ·by_cases hs:p[k]=42
   ·simp[g,j,l,m,n,o,c,b,hs];exact⟨⟨i,rfl,i,rfl,k+1,C,f.SQ b hs,by omega,by omega,by omega⟩,C7 f.s1 b⟩
   ·have r:((p[k].toNat:Int)==42)=false:=by rw[show(42:Int)=((42:UInt8).toNat:Int)from rfl,Ar];simpa using hs
    by_cases y:p[k]=63
    ·simp[g,j,l,m,n,o,c,b,y];exact⟨⟨e,rfl,i+1,x,k+1,C,f.fit c b hs (.inl y),by omega,by omega,by omega⟩,by rw[x];exact pb c⟩
    ·have s:((p[k].toNat:Int)==63)=false:=by rw[show(63:Int)=((63:UInt8).toNat:Int)from rfl,Ar];simpa using y
     by_cases z:p[k]=t[i]
     ·have q:((p[k].toNat:Int)==(t[i].toNat:Int))=true:=by rw[Ar];simp[z]
      simp[g,j,l,m,n,o,c,b,r,s,q];exact⟨⟨e,rfl,i+1,x,k+1,C,f.fit c b hs (.inr z),by omega,by omega,by omega⟩,by rw[x];exact pb c⟩
     ·have q:((p[k].toNat:Int)==(t[i].toNat:Int))=false:=by rw[Ar];simp[z]
      obtain⟨D,E⟩:=w fun _=>⟨hs,by simp[y,z]⟩
      by_cases d:0<=a
      ·have F:i6.wrap (a+1)=((a.toNat+1:Nat):Int):=by rw[qE (by omega) (by omega)];omega
       simp[g,j,l,m,n,o,c,b,r,s,q,d];exact⟨⟨e+1,u,e+1,u,a.toNat+1,F,E d⟩,by rw[u];exact hC H c⟩
      ·simp[g,j,l,m,n,o,c,b,r,s,q,d,f151,D (by omega)]
  ·obtain⟨D,E⟩:=w fun h=>absurd h b
   by_cases d:0<=a
   ·have F:i6.wrap (a+1)=((a.toNat+1:Nat):Int):=by rw[qE (by omega) (by omega)];omega
    simp[g,j,l,m,n,o,c,b,d];exact⟨⟨e+1,u,e+1,u,a.toNat+1,F,E d⟩,by rw[u];exact hC H c⟩
   ·simp[g,j,l,m,n,o,c,b,d,f151,D (by omega)]
 ·have hd:=f.done (by omega);have J:(p.drop k).length<=zw:=by simp[zw];omega
  have K:(Lib.trimB (p.drop k) 42).isEmpty=VL t p:=by rw[yg];simp only[List.isEmpty_iff,C6,VL,qG,hd]
  have G:((p.drop k).take (p.length-k))=p.drop k:=q6 (by simp);simp[g,j,l,m,n,o,c,B,G,K,A (p.drop k) Y Z J,f151]
noncomputable def RA (a b:za):O:=qO (VL a b)
theorem ud:zf prog 151 (zg false [] (xR RA fun _ _=>True)):=
 yt (fn:=f151) Rz (qW func151) false [] _ fun args r h=>by obtain⟨a,b,rfl,c,d,_,rfl⟩:=jB h;exact⟨by simp[f151],_,C8 a b c d,qa _⟩
end Go.Q
namespace Go.Q
theorem ee:∀(b:List (List vx)) (o r:List wG),(∀a∈b,∀c∈a,c.xe)->QT o->Kn b o=some r->QT r
 |[],o,r,_,d,h=>by simp only[Kn]at h;injection h with h;subst h;exact d
 |l::b,o,r,e,d,h=>by
  simp only[Kn]at h;split at h
  ·rename_i m f;have g:QT [jN yL]:=(Wu xj).2;exact ee b _ r (fun a i=>e a (by simp[i])) (Yi or d (dJ l _ m (e l (by simp)) g f).1) h
  ·cases h
theorem fQ(t:za):yQ (vP t).1:=by
 have b:yQ []:=⟨by simp,fun s hs=>by cases hs⟩;unfold vP;split
 ·exact b
 rename_i e;split
 ·exact b
 rename_i f d;split
 ·exact b
 rename_i o h;split
 ·exact b
 rename_i g;have i:=(dK _ f t.length (fun s hs=>xT hs) d).1;exact QT.small (ee f [] o (fun a j c k=>(i a j).1 c k) (fun s hs=>by cases hs) h) (show o.length<=zw by unfold zw;omega)
theorem ue{v:yE}(h:jM v=0):v.small:=by
 unfold jM at h;split at h
 case isFalse=>omega
 split at h
 ·omega
 rename_i c;split at h
 ·omega
 rename_i a;refine⟨by unfold zw;omega,fun p Y=>?_⟩;have:¬vc p=true:=fun b=>a (Iw.2 ⟨p,Y,b⟩)
 unfold vc at this;simp only[qR,qG,not_or]at this;unfold zw;omega
theorem C9{t:za}{v:yE}(h:mZ t=some v):jM v=0/\v.small:=by
 have a:jM v=0:=by
  unfold mZ at h;split at h
  ·split at h
   ·split at h
    ·rename_i b;injection h with h
     rw[<-h];exact b
    ·cases h
   ·cases h
  ·cases h
 exact⟨a,ue a⟩
noncomputable def ef (l:List qp) (v:qp) (k:Nat):Bool:=match l[k]? with
 |some x=>decide (yH x v<0)
 |none=>false
noncomputable def sq (l:List qp) (v:qp):Nat×Bool:=(jg (ef l v) 0 l.length,match l[jg (ef l v) 0 l.length]? with
 |some x=>yH x v==0
 |none=>false)
noncomputable def OM (f:List qp->qp->O) (b:zb):zb->Option O:=zS (α:=List qp×qp) (fun a=>.sl 5 (a.1.map qp.V)::.agg a.2.V::b) (fun a=>Ju a.1<=zw/\a.2.vb<=zw) (fun a=>f a.1 a.2)
theorem GP{d:zb}:∀a b:List qp×qp,O.sl 5 (a.1.map qp.V)::.agg a.2.V::d=O.sl 5 (b.1.map qp.V)::.agg b.2.V::d->a=b:=by rintro⟨g,h⟩ ⟨i,j⟩ e;simp only[zc,zs,O.agg.injEq]at e;obtain⟨c,f⟩:=e;injection c with _ c;rw[oh c,ZS f]
noncomputable def RB (l:List qp) (v:qp):O:=.q8 [int (sq l v).1,qO (sq l v).2]
def pd:O:=.fn (.func 146) [] []
theorem GQ(l:List qp)(v:qp)(Y:Hp)(Z:Nat)(h:Ju l<=zw)(a:v.vb<=zw):zg false [] (OM RB [pd]) [.sl 5 (l.map qp.V),.agg v.V,pd] Y Z=some (RB l v,Y,Z):=
 Zc (l,v) _ _ (by simp[vD v,pd]) GP ⟨h,a⟩ (.inl rfl)
theorem A0(l:List qp)(v:qp)(Y:Hp)(Z:Nat)(h:Ju l<=zw)(a:v.vb<=zw):zg false [] (OM (fun l v=>qO (sq l v).2) []) [.sl 5 (l.map qp.V),.agg v.V] Y Z=some (qO (sq l v).2,Y,Z):=
 Zc (l,v) _ _ (by simp[vD v]) GP ⟨h,a⟩ (.inl rfl)
noncomputable abbrev Cbsv:Ctx:=zG prog [(146,zg false [] (P7 zw))]
theorem Mx:AM.Good Cbsv (fun g=>[146].contains g):=qc mixed ⟨Jf zw,fun _=>zr _ _,trivial⟩
theorem GR(l:List qp)(v:qp)(y:Ju l<=zw)(z:v.vb<=zw):zt Cbsv f145 [.sl 5 (l.map qp.V),.agg v.V,pd]=some (RB l v):=by
 have G:=ve l;unfold zw at y z;refine zl rfl ?_;simp[pd];refine jI (fun st=>st.U 0=.sl 5 (l.map qp.V)/\st.U 2=.fn (.func 146) [] []/\st.U 4=.ref 0 0 0/\st.U 8=int l.length/\st.Y 0=some ⟨94,5,false,[v.V]⟩/\∃lo hi:Nat,lo<=hi/\hi<=l.length/\st.U 9=int lo/\st.U 10=int hi/\jg (ef l v) 0 l.length=jg (ef l v) lo hi)
  (fun st=>(k7 (st.U 10)).toNat-(k7 (st.U 9)).toNat) ⟨by simp,by simp,by simp,by simp,by simp,0,l.length,by simp,by simp,by simp,by simp,rfl⟩ ?_
 rintro⟨U,Y,Z⟩ ⟨i,j,n,o,p,lo,hi,A,t,q,c,f⟩;simp only at i j n o q c p;have d:=fun(k:Nat) (w:k<l.length) Y Z=>Vk zw l[k] v Y Z ⟨by have:=Zd (zm w);unfold zw;omega,by have:=Zd (zm w);unfold zw;omega,by unfold zw;omega⟩
 by_cases b:lo<hi
 ·have x:=wo ((lo:Int)+hi);have B:(lo+hi)/2<l.length:=by omega
  obtain⟨m,C⟩:∃m,m=(lo+hi)/2:=⟨_,rfl⟩;have g:i6.wrap ((IntKind.u64.wrap ((lo:Int)+hi)).fdiv (2 ^ min 1 IntKind.u64.bits))=(m:Int):=by
   have D:IntKind.u64.wrap ((lo:Int)+hi)=(lo:Int)+hi:=by rw[Qp];omega
   have E:(2 ^ min 1 IntKind.u64.bits:Int)=2:=by decide
   rw[D,E,jP _ (by omega),qE (by omega) (by omega)];omega
  have a:m<l.length:=by omega
  have F:=qz m;have u:ef l v m=decide (yH l[m] v<0):=by simp[ef,a]
  rw[vt (lo:=lo) b,<-C,u]at f;have e:=d m a;by_cases s:yH l[m] v<0
  ·simp only[s,fl,qI]at f;simp[i,j,n,o,q,c,p,b,x,g,a,e,s,F];exact⟨⟨m+1,hi,by omega,t,by omega,rfl,f⟩,by omega⟩
  ·simp only[s,V5,zE,wE]at f;simp[i,j,n,o,q,c,p,b,x,g,a,e,s];exact⟨⟨lo,m,by omega,by omega,rfl,rfl,f⟩,by omega⟩
 ·have f:jg (ef l v) 0 l.length=lo:=by rw[f,Zp (lo:=lo) b]
  unfold RB sq;rw[f];by_cases h:lo<l.length
  ·have e:=d lo h;simp[i,j,n,o,q,c,p,b,h,e,f145,qU]
  ·have r:l[lo]?=none:=qS (by omega);simp[i,j,n,o,q,c,p,b,h,r,f145,qU]
theorem Da:zf prog 145 (zg false [] (OM RB [pd])):=
 kL Mx func145 false [] fun⟨l,v⟩ ⟨a,b⟩=>⟨zA (zi 3) (by decide),_,GR l v a b,qa _⟩
noncomputable abbrev Cam:Ctx:=zG prog [(145,zg false [] (OM RB [pd]))]
theorem aE:zf prog 103 (zg false [] (OM (fun l v=>qO (sq l v).2) [])):=
 kL (zM mixed ⟨Da,trivial⟩:AM.Good Cam _) func103 false [] fun⟨l,v⟩ ⟨a,b⟩=>by
  have c:∀Y Z,zg false [] (OM RB [pd]) [.sl 5 (l.map qp.V),.agg v.V,.fn (.func 146) [] []] Y Z=some (.q8 [int (sq l v).1,qO (sq l v).2],Y,Z):=fun Y Z=>GQ l v Y Z a b
  exact⟨by simp[f103],_,zl rfl (by simp[c,f103]),qa _⟩
def pg(op n w:Int):Bool:=if op=3 then decide (n<w)else if op=4 then decide (n<=w)else if op=5 then decide (w<n)else decide (w<=n)
noncomputable def FOd:zb->Option O:=zS (α:=Int×Int×Int) (fun a=>[int a.1,int a.2.1,int a.2.2]) (fun _=>True) (fun a=>qO (pg a.1 a.2.1 a.2.2))
theorem GU(a b c:Int)(Y:Hp)(Z:Nat):zg false [] FOd [int a,int b,int c] Y Z=some (qO (pg a b c),Y,Z):=
 Zc (a,b,c) _ _ rfl (fun x y e=>by obtain⟨d,f,g⟩:=x;obtain⟨h,i,j⟩:=y;simp only[zc,zs]at e;rw[zT e.1,zT e.2.1,zT e.2.2]) trivial (.inl rfl)
theorem fR:zf prog 107 (zg false [] FOd):=
 kL y7 func107 false [] fun⟨a,b,c⟩ _=>by
  refine⟨by simp[f107],_,zl rfl ?_,qa _⟩;by_cases d:a=3
  ·simp[d,pg,f107]
  have e:=jr d;by_cases f:a=4
  ·simp[f,pg,f107]
  have g:=jr f;by_cases h:a=5
  ·simp[h,pg,f107]
  have i:=jr h;simp[d,e,f,g,h,i,pg,f107]
noncomputable def RC (s p:za):Bool:=match mZ s with
 |none=>false
 |some v=>(lY v (vP p).1).1
noncomputable def ei (op:Int) (s p:za):Bool:=if op=7 then p.isPrefixOf s else if op=8 then Lib.hasSuffix s p else if op=9 then Lib.contains s p else if op=10 then VL s p else RC s p
noncomputable def FFt:zb->Option O:=zS (α:=Int×za×za) (fun a=>[int a.1,str a.2.1,str a.2.2]) (fun a=>a.2.1.length+1<=zw/\a.2.2.length+1<=zw) (fun a=>qO (ei a.1 a.2.1 a.2.2))
theorem GW(a:Int)(b c:za)(Y:Hp)(Z:Nat)(h:b.length+1<=zw)(d:c.length+1<=zw):zg false [] FFt [int a,str b,str c] Y Z=some (qO (ei a b c),Y,Z):=
 Zc (a,b,c) _ _ rfl (fun x y e=>by obtain⟨f,g,i⟩:=x;obtain⟨j,k,l⟩:=y;simp only[zc,zs]at e;rw[zT e.1,qv e.2.1,qv e.2.2]) ⟨h,d⟩ (.inl rfl)
noncomputable abbrev Cfts:Ctx:=zG prog [(148,zg false [] (xR LS fun _ _=>True)),(149,zg false [] (xR Mt fun _ _=>True)),(150,zg false [] (xR Cj fun _ _=>True)),(151,zg false [] (xR RA fun _ _=>True)),(152,zg false [] (da na)),(153,zg false [] (da AO)),(154,zg false [] (FVR o8))]
theorem Db(a:Int)(b c:za)(h:b.length+1<=zw)(r:c.length+1<=zw):zt Cfts f108 [int a,str b,str c]=some (qO (ei a b c)):=by
 refine zl rfl ?_;have s:=fun Y Z=>bI b c Y Z (by omega) (by omega)
 have t:=fun Y Z=>AZ b c Y Z (by omega) (by omega)
 have u:∀Y Z,zg false [] (xR Cj fun _ _=>True) [str b,str c] Y Z=some (qO (Lib.contains b c),Y,Z):=fun Y Z=>jL _ _ b c Y Z (by omega) (by omega) trivial rfl
 have m:∀Y Z,zg false [] (xR RA fun _ _=>True) [str b,str c] Y Z=some (qO (VL b c),Y,Z):=fun Y Z=>jL _ _ b c Y Z (by omega) (by omega) trivial rfl
 have d:=fun Y Z=>Z2 na b Y Z h
 have i:=fun Y Z=>Z2 AO c Y Z r
 by_cases n:a=7
 ·simp[n,s,ei,f108]
 have j:=jr n;by_cases o:a=8
 ·simp[o,t,ei,f108]
 have k:=jr o;by_cases p:a=9
 ·simp[p,u,ei,f108]
 have l:=jr p;by_cases f:a=10
 ·simp[f,m,ei,f108]
 have e:=jr f;have w:ei a b c=RC b c:=by unfold ei;rw[zj n,zj o,zj p,zj f]
 rw[w];unfold RC;cases q:mZ b with
 |none=>simp only[na,q]at d;simp[j,k,l,e,d,mV,yE.V,f108]
 |some v=>
  have hs:=(C9 q).2;have g:=fun Y Z=>GO o8 v (vP c).1 Y Z hs (fQ c) rfl
  simp only[na,q]at d;simp only[AO]at i;simp only[o8]at g;simp only[yE.V]at d g;simp[j,k,l,e,d,i,g,f108]
theorem uf:zf prog 108 (zg false [] FFt):=
 kL (zM mixed ⟨aW,bp,Ja,ud,QH,YG,fO,trivial⟩:AM.Good Cfts _) func108 false [] fun⟨a,b,c⟩ ⟨d,e⟩=>⟨by simp[f108],_,Db a b c d e,qa _⟩
def ZV(c:qT):jV:=⟨66,7,false,[c.V]⟩
noncomputable abbrev Cps1:Ctx:=zG prog [(103,zg false [] (OM (fun l v=>qO (sq l v).2) []))]
noncomputable abbrev GX:AM.Spec:=qq Cps1 f105
theorem Dc:zf prog 105 GX:=w8 (zM mixed ⟨aE,trivial⟩:AM.Good Cps1 _) func105
theorem My(c:qT)(v:qp)(g:c.cb<=zw)(b:v.vb<=zw)(Y:Hp)(Z id:Nat)(hid:id<Z)(a:Y id=some (ZV c)):GX [.agg v.V,.ref id 0 0] Y Z=some (qO (sq c.kc v).2,ql Y Z (some ⟨94,5,false,[v.V]⟩),Z+1):=by
 have d:=Kj c;unfold GX qq;rw[ze (by simp[f105])];refine wx rfl ?_;have e:=fun Y Z=>A0 c.kc v Y Z (by omega) b
 have f:¬id=Z:=by omega
 simp only[ZV]at a;simp[a,f,e,f105]
def GY(l:List qp):Int:=match l with
 |[]=>0
 |x::_=>x.n
noncomputable def QL (c:qT) (v:qp):Bool:=if c.op=1 then true else if c.op=2 then(sq c.kc v).2 else if c.op=12 then v.kind==4&&v.items.any (fun x=>(sq c.kc x).2)else if ZG c.op=true then v.kind==2&&pg c.op v.n (GY c.kc)else v.kind==3&&ei c.op v.s c.pat
noncomputable def FPs:zb->Option O:=zS (α:=qT×qp) (fun a=>[.agg a.1.V,.agg a.2.V]) (fun a=>a.1.cb<=zw/\a.2.vb<=zw/\(ZG a.1.op=true->0<a.1.kc.length)) (fun a=>qO (QL a.1 a.2))
theorem GZ(c:qT)(v:qp)(Y:Hp)(Z:Nat)(h:c.cb<=zw)(d:v.vb<=zw)(f:ZG c.op=true->0<c.kc.length):zg false [] FPs [.agg c.V,.agg v.V] Y Z=some (qO (QL c v),Y,Z):=
 Zc (c,v) _ _ (by simp[vD v,wY]) (fun a b e=>by obtain⟨g,i⟩:=a;obtain⟨j,k⟩:=b;simp only[zc,zs,O.agg.injEq]at e;rw[Jg e.1,ZS e.2]) ⟨h,d,f⟩ (.inl rfl)
noncomputable abbrev TAps:kW:=[(105,GX)]
noncomputable abbrev Cps:Ctx:=zG prog [(103,zg false [] (OM (fun l v=>qO (sq l v).2) [])),(104,AX TAps),(106,zg false [] (oM ZG)),(107,zg false [] FOd),(108,zg false [] FFt)]
theorem RD:Gd Cps:=zM mixed ⟨aE,ua ⟨Dc,by simp,trivial⟩,Jk,fR,uf,trivial⟩
theorem G3:Zy Cps UY 65 f65:=qW func65
theorem ph(c:qT)(v:qp)(C:c.cb<=zw)(D:v.vb<=zw)(E:ZG c.op=true->0<c.kc.length):zt Cps f65 [.agg c.V,.agg v.V]=some (qO (QL c v)):=by
 have F:=Kj c;have G:=Kf v;refine zl rfl ?_;have u:zw=2097152:=rfl;by_cases f:c.op=1
 ·have a:QL c v=true:=by unfold QL;rw[ze f]
  simp[f,a,f65]
 have b:=jr f;by_cases i:c.op=2
 ·have a:QL c v=(sq c.kc v).2:=by unfold QL;rw[zj f,ze i]
  have o:=fun Y Z=>A0 c.kc v Y Z (by omega) D
  simp[i,o,a,f65]
 have d:=jr i;by_cases k:c.op=12
 ·have a:QL c v=(v.kind==4&&v.items.any fun x=>(sq c.kc x).2):=by unfold QL;rw[zj f,zj i,ze k]
  have H:=ve v.items;have p:=fun x (m:x∈v.items)=>Zd m
  obtain⟨r,J,Z',q,rfl,_,_,_⟩:=GH (U:=Unit) (T:=fun _=>False) (Rep:=fun _ Y=>Y 0=some (ZV c)) (step:=fun _ x=>((sq c.kc x).2,())) (Ta:=TAps) (g:=105) (sp:=GX) (fi:=[]) (cap:=[.ref 0 0 0]) (Z0:=1) (by simp) v.items (by omega)
   (fun _ x Y Z m K w=>⟨_,_,_,My c x C (by have:=p x m;omega) Y Z 0 (by omega) w,rfl,(zk _ _ _ _ (by omega)).trans w,by omega,fun j L _=>zk _ _ _ _ (by omega)⟩) () (ql (ql (fun _=>none) 0 (some (ZV c))) 1 (some ⟨94,5,false,[v.V]⟩)) 2 (by omega) (by simp)
  rw[Wv]at q;simp only[ZV]at q;rw[a];cases y:v.kind==4
  ·simp[k,y,f65]
  ·simp[k,y,q,f65]
 have e:=jr k;cases h:ZG c.op
 ·have a:QL c v=(v.kind==3&&ei c.op v.s c.pat):=by unfold QL;rw[zj f,zj i,zj k,h,zj (by simp)]
  have o:=fun Y Z=>GW c.op v.s c.pat Y Z (by omega) (by omega)
  rw[a];cases z:v.kind==3
  ·simp[b,d,e,h,z,f65]
  ·simp[b,d,e,h,z,o,f65]
 ·have a:QL c v=(v.kind==2&&pg c.op v.n (GY c.kc)):=by unfold QL;rw[zj f,zj i,zj k,ze h]
  have A:=E h;obtain⟨x,l,m⟩:∃x l,c.kc=x::l:=by
   cases t:c.kc with
   |nil=>rw[t]at A;cases A
   |cons x l=>exact⟨x,l,rfl⟩
  have o:=fun Y Z=>GU c.op v.n x.n Y Z
  rw[a];have I:GY c.kc=x.n:=by rw[m];rfl
  rw[I];cases B:v.kind==2
  ·simp[b,d,e,h,B,f65]
  ·simp[b,d,e,h,B,m,o,f65]
theorem lZ:zf prog 65 (zg false [] FPs):=
 yt (fn:=f65) RD G3 false [] _ fun args r h=>by obtain⟨⟨c,v⟩,rfl,⟨a,b,d⟩,rfl⟩:=qd h;exact⟨by simp[f65],_,ph c v a b d,qa _⟩
noncomputable def pj (Ta:kW):AM.Spec:=qq (zG prog Ta) f98
noncomputable def pk (Ta:kW):AM.Spec:=qq (zG prog [(98,pj Ta)]) f60
theorem ug{Ta:kW}(h:YK True prog [] Ta):zf prog 98 (pj Ta):=w8 (qc (q:=[]) mixed h) func98
theorem ej{Ta:kW}(h:YK True prog [] Ta):zf prog 60 (pk Ta):=w8 (qc (q:=[]) (l:=[(98,pj Ta)]) mixed ⟨ug h,by simp,trivial⟩) func60
theorem ek{U:Type}{T:Nat->Prop}{Rep:U->Hp->Prop}{step:U->qT->Bool×U}{Ta:kW}{g:Nat}{sp:AM.Spec}{fi cap:zb}{Z0:Nat}(y:lookup Ta g=some sp)(xs:List qT)(C:xs.length<=zw)
  (D:∀s x Y Z,x∈xs->Z0<=Z->Rep s Y->∃r b Z',sp (fi++.agg x.V::cap) Y Z=some (r,b,Z')/\wO T Rep (qO (step s x).1) (step s x).2 Y Z r b Z')
  (f:U) (h:Hp) (a:Nat) (N:Z0<=a) (E:Rep f h) :
  ∃r b Z',pk Ta [.sl 7 (xs.map qT.V),.fn (.func g) fi cap] h a=some (r,b,Z')/\wO T Rep (qO (qw step f xs).1) (qw step f xs).2 h a r b Z':=by
 have p:∃r b Z',pj Ta [.sl 7 (xs.map qT.V),.fn (.func g) fi cap] h a=some (r,b,Z')/\∃z:Int,r=int z/\decide (0<=z)=(qw step f xs).1/\wO T Rep (int z) (qw step f xs).2 h a r b Z':=by
  unfold pj qq;rw[ze (by simp[f98])];refine zY rfl ?_;unfold zw at C;simp;refine zP (fun k U Y Z=>U 0=.sl 7 (xs.map qT.V)/\U 1=.fn (.func g) fi cap/\U 7=int xs.length/\U 8=int k/\a<=Z/\(∀j,j<a->¬T j->Y j=h j)/\∃s,Rep s Y/\qw step f xs=qw step s (xs.drop k)) xs.length ⟨by simp,by simp,by simp,by simp,zi _,fun _ _ _=>rfl,f,E,by simp⟩ ?_;rintro k U Y Z P ⟨q,t,u,v,w,l,s,m,e⟩;by_cases c:k<xs.length
  ·have F:=qz k;obtain⟨x,o⟩:=kC (xs[k]);obtain⟨r,Y2,G,i,rfl,A,Q,H⟩:=D s x Y Z (by rw[<-o];exact zm c) (by omega) m;rw[zd c,o]at e;have n:∀j,j<a->¬T j->Y2 j=h j:=fun j I B=>by rw[H j (by omega) B];exact l j I B
   cases d:(step s x).1
   ·rw[vg d]at e;rw[d]at i;simp[q,t,u,v,c,o,y,i,F];exact⟨by omega,by omega,n,_,A,e⟩
   ·rw[v8 d]at e;rw[d]at i;simp[q,t,u,v,c,o,y,i,e,wO,f98];exact⟨A,by omega,n⟩
  ·obtain rfl:k=xs.length:=by omega
   rw[zp]at e;simp only[qw]at e;simp[q,t,u,v,e,wO,f98];exact⟨m,w,l⟩
 obtain⟨r,b,Z',i,z,rfl,J,_,K,L,M⟩:=p;unfold pk qq;rw[ze (by simp[f60])];refine zY rfl ?_;simp[i,J,wO,f60];exact⟨K,L,M⟩
def l0(l:List qN):jV:=⟨22,1,false,[[.sl 10 (l.map qN.V)]]⟩
noncomputable abbrev Ckn1:Ctx:=zG prog [(62,zg false [] gZ)]
noncomputable abbrev G5:AM.Spec:=qq Ckn1 f81
theorem Dd:zf prog 81 G5:=w8 (zM mixed ⟨KK,trivial⟩:AM.Good Ckn1 _) func81
theorem Mz(l:List qN)(n:za)(b:l.length<=zw)(Y:Hp)(Z id:Nat)(a:Y id=some (l0 l)):G5 [str n,.ref id 0 0] Y Z=some (qO (xy l n),Y,Z):=by
 unfold G5 qq;rw[ze (by simp[f81])];refine wx rfl ?_;have c:=fun Y Z=>KJ l n Y Z b
 simp[l0]at a;simp[a,c,xy,f81]
theorem hZ{f:za->Bool}:∀l:List za,(qw (fun(_:Unit) n=>(!f n,())) () l).1=!(l.all f)
 |[]=>rfl
 |a::l=>by
  cases h:f a
  ·simp[qw,h]
  ·simp[qw,h,hZ l]
noncomputable def FKn:zb->Option O:=zS (α:=List qN×qT) (fun a=>[.sl 10 (a.1.map qN.V),.agg a.2.V]) (fun a=>a.1.length<=zw/\a.2.cb<=zw) (fun a=>qO (Yk a.1 a.2))
theorem G6(l:List qN)(c:qT)(Y:Hp)(Z:Nat)(h:l.length<=zw)(d:c.cb<=zw):zg false [] FKn [.sl 10 (l.map qN.V),.agg c.V] Y Z=some (qO (Yk l c),Y,Z):=
 Zc (l,c) _ _ (by simp[wY]) (fun a b e=>by obtain⟨f,g⟩:=a;obtain⟨i,j⟩:=b;simp only[zc,zs,O.agg.injEq]at e;rw[VG e.1,Jg e.2]) ⟨h,d⟩ (.inl rfl)
noncomputable abbrev Ckn:Ctx:=zG prog [(80,aC 81 G5 zw)]
theorem uh(l:List qN)(c:qT)(e:l.length<=zw)(d:c.cb<=zw):zt Ckn f46 [.sl 10 (l.map qN.V),.agg c.V]=some (qO (Yk l c)):=by
 refine zl rfl ?_;obtain⟨x,f,Z',a,rfl,_,_,_⟩:=dZ (U:=Unit) (T:=fun _=>False) (Rep:=fun _ Y=>Y 0=some (l0 l)) (step:=fun _ n=>(!xy l n,())) (Q:=fun _=>True) (g:=81) (sp:=G5) (cap:=[.ref 0 0 0]) (Z0:=2) (by decide) (fun _ h=>h.elim)
  (fun _ Y j b i h=>by rw[zk _ _ _ _ (by omega)];exact h) (fun _ n Y Z _ _ _ h=>⟨_,Y,Z,Mz l n e Y Z 0 h,by simp,h,zi _,fun _ _ _=>rfl⟩) zw c () (ql (ql (fun _=>none) 0 (some (l0 l))) 1 (some ⟨66,7,false,[c.V]⟩)) 2 d d (fun _ _=>trivial) (zi _) (by simp)
 rw[hZ]at a;simp only[l0,Bool.not_not]at a;simp[a,Yk,qU,f46]
theorem pn:zf prog 46 (zg false [] FKn):=
 kL (zM mixed ⟨KL Dd zw,trivial⟩:AM.Good Ckn _) func46 false [] fun⟨l,c⟩ ⟨a,b⟩=>⟨by simp[f46],_,uh l c a b,qa _⟩
def l6(st:List Int):jV:=⟨3,1,true,st.map fun z=>[int z]⟩
noncomputable def G7 (sp:AM.Spec):AM.Spec:=qq (zG prog [(62,zg false [] gZ),(47,sp)]) f82
noncomputable def eo:Nat->AM.Spec
 | 0=>fun _ _ _=>none
 |n+1=>qq (zG prog [(80,aC 82 (G7 (eo n)) zw)]) f47
theorem De{sp:AM.Spec}(h:zf prog 47 sp):zf prog 82 (G7 sp):=
 w8 (qc (q:=[]) (l:=[(62,zg false [] gZ),(47,sp)]) mixed ⟨KK,by simp,h,by simp,trivial⟩) func82
theorem ep:∀n,zf prog 47 (eo n)
 | 0=>Qi ⟨_,func47,by kernel_rfl,by kernel_rfl⟩
 |n+1=>w8 (qc (q:=[]) (l:=[(80,aC 82 (G7 (eo n)) zw)]) mixed ⟨KL (De (ep n)) zw,by simp,trivial⟩) func47
theorem ia{S α b:Type}(f:S->b->Bool×S)(m:α->b):∀(s:S) (l:List α),qw (fun s a=>f s (m a)) s l=qw f s (l.map m)
 |_,[]=>rfl
 |s,a::l=>by simp only[z6,qw,ia f m _ l]
theorem A1(st:List Int)(i:Nat)(v:Int):(st.map fun z=>[int z]).set i [int v]=(st.set i v).map fun z=>[int z]:=by rw[List.map_set]
theorem po(l:List qN)(hl:bm l<=zw)(S:∀s∈l,∀n∈s.cond.names,xy l n=true)(ids:Nat):∀(n:Nat) (st:List Int) (i:Nat) (Y:Hp) (Z:Nat),vF st<n->st.length=l.length->i<l.length->ids<Z->Y ids=some (l6 st) ->
  ∃x W Z',eo n [.sl 10 (l.map qN.V),.own ids 0 l.length,int i] Y Z=some (x,W,Z')/\wO (·=ids) (fun st Y=>Y ids=some (l6 st)) (qO (jw (yB l) n st i).1) (jw (yB l) n st i).2 Y Z x W Z'
 | 0,_,_,_,_,h,_,_,_,_=>absurd h (by omega)
 |n+1,st,i,Y0,a,hw,B,d,hid,C=>by
  have hle:=JM l;have X:=VI (zm d);have hmc:l[i].cb=1+l[i].name.length+VH l[i].ins+VH l[i].outs+l[i].cond.cb:=rfl;unfold zw at hl;have ni:¬ids=a:=by omega
  have k:¬ids=a+1:=by omega
  have c:i<st.length:=by omega
  have D:=C;simp[l6]at D;unfold eo qq;rw[ze (by simp[f47])];refine zY rfl ?_;by_cases w:st[i]=0
  case neg=>
   have E:jw (yB l) (n+1) st i=(decide (st[i]?=some 1),st):=by simp only[jw];rw[zj (by rw[zn c];simpa using w)]
   have F:=xE w;have G:decide (st[i]?=some 1)=(st[i]==1):=by rw[zn c,yg];simp
   rw[E,G];simp[D,ni,k,d,c,F,wO,f47];exact⟨rfl,by omega,fun j H o=>by rw[zk _ _ _ _ (by omega),zk _ _ _ _ (by omega)]⟩
  have h0:st[i]?=some 0:=by rw[zn c,w]
  have hwc:=XP h0 (v:=1) (by decide);have e:yB l i=l[i].cond.names.map (ZD l):=by unfold yB;rw[zn d]
  have E:jw (yB l) (n+1) st i=((qw (jw (yB l) n) (st.set i 1) (yB l i)).1,(qw (jw (yB l) n) (st.set i 1) (yB l i)).2.set i 2):=by simp only[jw];rw[ze h0]
  have I:=Qh (j5 (yB l) n) (yB l i) (st.set i 1);obtain⟨x,Y2,p,f,rfl,⟨q,r2b,r2c,J,K⟩,n2,r⟩:=dZ (U:=List Int) (T:=(·=ids)) (Rep:=fun s Y=>Y ids=some (l6 s)/\s.length=l.length/\vF s<n/\Y a=some (l0 l)/\Y (a+1)=some ⟨40,1,false,[[.own ids 0 l.length]]⟩) (step:=fun s m=>jw (yB l) n s (ZD l m)) (Q:=fun m=>xy l m=true) (g:=82)
   (sp:=G7 (eo n)) (cap:=[.ref a 0 0,.ref (a+1) 0 0]) (Z0:=a+2) (by decide) (fun j H=>by omega)
   (fun s Y j b H ⟨L,y,z,t,A⟩=>⟨by rw[zk _ _ _ _ (by omega)];exact L,y,z,by rw[zk _ _ _ _ (by omega)];exact t,by rw[zk _ _ _ _ (by omega)];exact A⟩)
   (fun s m Y Z hq hml o ⟨L,y,z,t,A⟩=>by
    have M:=lT hq;have G:=fun Y Z=>KJ l m Y Z (by unfold zw;omega)
    obtain⟨x,Y2,p,f,rfl,q,n2,r⟩:=po l (by unfold zw;omega) S ids n s (ZD l m) Y Z z y M (by omega) L;have u:=j5 (yB l) n s (ZD l m);refine⟨_,Y2,p,?_,rfl,⟨q,by rw[u.len];exact y,zdh u.wh z,by rw[r a (by omega) (by omega)];exact t,by rw[r (a+1) (by omega) (by omega)];exact A⟩,n2,r⟩;unfold G7 qq;rw[ze (by simp[f82])];refine wx rfl ?_;simp only[l0]at t;simp only[ZD]at f;simp[t,A,G,f,ZD,f82])
   zw l[i].cond (st.set i 1) (ql (ql (ql Y0 a (some (l0 l))) (a+1) (some ⟨40,1,false,[[.own ids 0 l.length]]⟩)) ids (some (l6 (st.set i 1)))) (a+2) (by unfold zw;omega) (by unfold zw;omega) (fun m X=>S _ (zm d) m X) (zi _)
   ⟨by simp,by simp[B],by omega,by rw[zk _ _ _ _ (by omega),zk _ _ _ _ (by omega)];simp,by rw[zk _ _ _ _ (by omega)];simp⟩
  rw[ia (jw (yB l) n) (ZD l),<-e]at f q;rw[E];simp only[l0,l6,<-A1]at f;simp only[l6]at q;have N:¬a=ids:=by omega
  have P:¬a+1=ids:=by omega
  have R:i<(qw (jw (yB l) n) (st.set i 1) (yB l i)).2.length:=by rw[I.len,gk];exact c
  simp[D,ni,k,N,P,d,c,w,f,q,J,K,R,wO,f47];exact⟨by rw[A1];rfl,by omega,fun j H o=>by rw[zk _ _ _ _ o,r j (by omega) o,zk _ _ _ _ o,zk _ _ _ _ (by omega),zk _ _ _ _ (by omega)]⟩
noncomputable abbrev Css1:Ctx:=zG prog [(78,zg false [] (Rv T8))]
noncomputable abbrev MA:AM.Spec:=qq Css1 f77
theorem Df:zf prog 77 MA:=w8 (zM mixed ⟨VK,trivial⟩:AM.Good Css1 _) func77
def VM(s:qN):jV:=⟨120,10,false,[s.V]⟩
theorem MB(s:qN)(k:za)(b:VH s.outs<=zw)(c:k.length<=zw)(Y:Hp)(Z id:Nat)(a:Y id=some (VM s)):MA [str k,.ref id 0 0] Y Z=some (qO (kD s.outs k).2,Y,Z):=by
 unfold MA qq;rw[ze (by simp[f77])];refine wx rfl ?_;have d:=fun Y Z=>lU s.outs k Y Z b c
 simp[VM]at a;simp[a,d,f77]
def Q4(f:za->Bool):Nat->List za->Int
 |_,[]=>-1
 |k,s::l=>if f s=true then k else Q4 f (k+1) l
theorem er(f:za->Bool):∀(l:List za) (k:Nat),decide (0<=Q4 f k l)=l.any f
 |[],k=>by simp[Q4]
 |s::l,k=>by
  cases h:f s
  ·rw[Q4,h,zj (by simp),er f l (k+1),xF,h];rfl
  ·rw[Q4,h,ze rfl,xF,h];simp
noncomputable abbrev Csix:Ctx:=zG prog [(77,MA)]
noncomputable abbrev MC:AM.Spec:=qq Csix f132
theorem Dg:zf prog 132 MC:=w8 (zM mixed ⟨Df,trivial⟩:AM.Good Csix _) func132
def fS(id:Nat):O:=.fn (.func 77) [] [.ref id 0 0]
theorem MD(s:qN)(hs:s.cb<=zw)(Y:Hp)(Z id:Nat)(q:Y id=some (VM s)) :
  MC [.sl 1 (zZ s.ins),fS id] Y Z=some (int (Q4 (fun k=>(kD s.outs k).2) 0 s.ins),Y,Z):=by
 have r:s.cb=1+s.name.length+VH s.ins+VH s.outs+s.cond.cb:=rfl;have t:=bR s.ins;have u:=fun k (o:k∈s.ins)=>bQ o
 unfold zw at hs;unfold MC qq;rw[ze (by simp[f132])];refine wx rfl ?_;have e:(zZ s.ins).length=s.ins.length:=by simp[zZ]
 simp[fS,e];refine zP (fun k U Y1 f=>U 0=.sl 1 (zZ s.ins)/\U 1=fS id/\U 7=int s.ins.length/\U 8=int k/\Y1=Y/\f=Z/\Q4 (fun k=>(kD s.outs k).2) 0 s.ins=Q4 (fun k=>(kD s.outs k).2) k (s.ins.drop k)) s.ins.length ⟨by simp,by simp[fS],by simp,by simp,rfl,rfl,by simp⟩ ?_;rintro k U Y1 f o ⟨i,j,l,m,rfl,rfl,c⟩;by_cases b:k<s.ins.length
 ·have p:=qz k;obtain⟨y,n⟩:=kC (s.ins[k]);have v:=u y (by rw[<-n];exact zm b);have d:k<(zZ s.ins).length:=by omega
  have g:(zZ s.ins)[k]=[str y]:=by simp[zZ,n]
  have a:=MB s y (by unfold zw;omega) (by unfold zw;omega) Y1 f id q;rw[zd b,n,Q4]at c;cases h:(kD s.outs y).2
  ·rw[h,zj (by simp)]at c;rw[h]at a;simp[i,j,l,m,fS,b,e,d,g,a,p];exact⟨by omega,c⟩
  ·rw[h,ze rfl]at c;rw[h]at a;simp[i,j,l,m,fS,b,e,d,g,a,p,c,f132]
 ·obtain rfl:k=s.ins.length:=by omega
  rw[zp]at c;simp only[Q4]at c;simp[i,j,l,m,c,f132]
noncomputable abbrev Csct:Ctx:=zG prog [(132,MC)]
noncomputable abbrev ME:AM.Spec:=qq Csct f76
theorem Dh:zf prog 76 ME:=w8 (zM mixed ⟨Dg,trivial⟩:AM.Good Csct _) func76
theorem MF(s:qN)(hs:s.cb<=zw)(Y:Hp)(Z id:Nat)(b:Y id=some (VM s)) :
  ME [.sl 1 (zZ s.ins),fS id] Y Z=some (qO (s.ins.any fun k=>(kD s.outs k).2),Y,Z):=by
 unfold ME qq;rw[ze (by simp[f76])];refine wx rfl ?_;have a:=MD s hs Y Z id b;have c:=er (fun k=>(kD s.outs k).2) s.ins 0;simp only[fS]at a;simp[fS,a,c,f76]
noncomputable def RE (out:qN->O):zb->Option O:=zS (α:=qN) (fun s=>[.agg s.V]) (fun s=>s.cb<=zw) out
theorem Di(out:qN->O)(s:qN)(Y:Hp)(Z:Nat)(h:s.cb<=zw)(c:(out s).flat=true):zg false [] (RE out) [.agg s.V] Y Z=some (out s,Y,Z):=
 Zc s _ _ (by simp[kT]) (fun a b e=>by simp only[zc,zs,O.agg.injEq]at e;exact VF e) h (.inl c)
noncomputable abbrev Csg1:Ctx:=zG prog [(75,zg false [] (FTl (fun l=>int (ZI l)) fun l=>VH l<=zw)),(76,ME),(79,GC fun c=>int c.check)]
theorem MG{l m:List za}(a:oQ m):(l.any fun k=>(kD m k).2)=l.any fun k=>m.contains k:=by congr 1;funext k;exact bS a k
theorem VN(s:qN)(h:s.cb<=zw):zt Csg1 f45 [.agg s.V]=some (int (ZU s)):=by
 have n:s.cb=1+s.name.length+VH s.ins+VH s.outs+s.cond.cb:=rfl;unfold zw at h;have j:=fun Y Z=>oX (fun l=>int (ZI l)) (fun l=>VH l<=zw) s.ins Y Z (by unfold zw;omega) rfl
 have m:=fun Y Z=>oX (fun l=>int (ZI l)) (fun l=>VH l<=zw) s.outs Y Z (by unfold zw;omega) rfl
 have o:=fun Y Z=>JI (fun c=>int c.check) s.cond Y Z (by unfold zw;omega)
 refine zl rfl ?_;simp[zu,zX,zv];rw[zO];by_cases b:ZI s.ins=0
 case neg=>
  have a:ZU s=ZI s.ins:=by unfold ZU;rw[zj b]
  have g:=xE b;simp[j,g,a,qU,f45]
 have p:=wo 1;have q:=wo 2;simp[j,b,p];rw[zO];by_cases d:ZI s.outs=0
 case neg=>
  have a:ZU s=ZI s.outs:=by unfold ZU;rw[ze b,zj d]
  have i:=xE d;simp[m,i,a,qU,f45]
 simp[m,d,q];rw[zO];have e:=MF s (by unfold zw;omega) (ql (ql (fun _=>none) 0 (some (VM s))) 1 (some ⟨49,1,true,[[.sl 1 (zZ s.ins)],[.sl 1 (zZ s.outs)]]⟩)) 2 0 (by simp);rw[MG (dU d)]at e;simp only[fS,VM]at e;cases f:s.ins.any fun k=>s.outs.contains k
 ·have a:ZU s=s.cond.check:=by unfold ZU;rw[ze b,ze d,f,zj (by simp)]
  rw[f]at e;simp[e,o,a,qU,f45]
 ·have a:ZU s=7:=by unfold ZU;rw[ze b,ze d,f,ze rfl]
  rw[f]at e;simp[e,a,qU,f45]
theorem KM:zf prog 45 (zg false [] (RE fun s=>int (ZU s))):=
 kL (zM mixed ⟨bn,Dh,Yj,trivial⟩:AM.Good Csg1 _) func45 false [] fun s a=>⟨by simp[f45],_,VN s a,qa _⟩
def Q5(l:List qN)(k:Nat):Option za:=if k=0 then none else(l[k-1]?).map qN.name
noncomputable def FSs (out:List qN->O):zb->Option O:=zS (α:=List qN) (fun l=>[.sl 10 (l.map qN.V)]) (fun l=>bm l<=zw) out
theorem G8(out:List qN->O)(l:List qN)(Y:Hp)(Z:Nat)(h:bm l<=zw)(c:(out l).flat=true):zg false [] (FSs out) [.sl 10 (l.map qN.V)] Y Z=some (out l,Y,Z):=
 Zc l _ _ rfl (fun a b e=>by simp only[zc,zs]at e;exact VG e) h (.inl c)
noncomputable abbrev RF:Ctx:=zG prog [(30,zg false [] (FS qK)),(45,zg false [] (RE fun s=>int (ZU s))),(46,zg false [] FKn),(47,eo 2097153)]
theorem MH:Gd RF:=zM mixed ⟨jK,KM,pn,ep _,trivial⟩
theorem Dj:Zy RF UY 26 f26:=qW func26
theorem KN(l:List qN)(h:bm l<=zw):zt RF f26 [.sl 10 (l.map qN.V)]=some (int (ky l)):=by
 have hlen:=JM l;have IV:zw=2097152:=rfl;refine zl rfl ?_;by_cases o:(100:Int)<l.length
 ·have d:ky l=2:=by unfold ky;rw[ze o]
  simp[o,d,f26]
 refine vf (fun U Y Z=>U 0=.sl 10 (l.map qN.V)) (by simp) ?_;rintro U Y Z c;refine vf (fun U Y Z=>U 0=.sl 10 (l.map qN.V)) (by simp[c,o]) ?_;clear c U Y Z;rintro U Y Z c;refine vf (fun U Y Z=>U 0=.sl 10 (l.map qN.V)/\YH none l=0) ?_ ?_
 ·simp[c];refine zP (fun k U Y Z=>U 0=.sl 10 (l.map qN.V)/\U 13=.sl 10 (l.map qN.V)/\U 14=int l.length/\U 15=int k/\YH none l=YH (Q5 l k) (l.drop k)) l.length ⟨by simp[c],by simp,by simp,by simp,by simp[Q5]⟩ ?_;clear c U Y Z;rintro k U Y Z hk ⟨c,e,f,g,a⟩;by_cases b:k<l.length
  ·have G:=qz k;obtain⟨s,hs⟩:=kC (l[k]);have L:=VI (zm b);rw[hs]at L;have M:s.cb=1+s.name.length+VH s.ins+VH s.outs+s.cond.cb:=rfl;have i:s.name.length<=zw:=by omega
   have B:Q5 l (k+1)=some s.name:=by simp[Q5,b,hs]
   have p:=fun Y Z=>Di (fun s=>int (ZU s)) s Y Z (by omega) rfl
   rw[tS b,hs]at a;cases r:qK s.name
   ·rw[r,zj (by simp)]at a;have d:ky l=5:=by unfold ky;rw[zj o,a,zj (by decide)]
    simp[c,e,f,g,b,hs,i,r,d,f26]
   rw[r,ze rfl]at a;have key:vH (Q5 l k) s.name=true\/vH (Q5 l k) s.name=false:=by cases vH (Q5 l k) s.name<;>simp
   by_cases k0:k=0
   ·subst k0;have w1:=wo 1;simp only[Q5,vH,qI,zE,wE]at a;by_cases m:ZU s=0
    ·rw[ze m]at a;simp[c,e,f,g,b,hs,i,r,p,m,w1];exact⟨by omega,by rw[a,B];simp⟩
    ·rw[zj m]at a;have t:=xE m;have d:ky l=ZU s:=by unfold ky;rw[zj o,a,zj m]
     simp[c,e,f,g,b,hs,i,r,p,t,d,f26]
   ·obtain⟨j,rfl⟩:∃j,k=j+1:=⟨k-1,by omega⟩;have H:j<l.length:=by omega
    have N:i6.wrap ((j:Int)+1-1)=(j:Int):=by rw[qE (by omega) (by omega)];omega
    have u:=wo (j:Int);have Q:((j:Int)+1).toNat=j+1:=by omega
    have R:0<(j:Int)+1:=by omega
    have S:0<=(j:Int)+1:=by omega
    have T:(j:Int)+1<l.length:=by omega
    have wk:=wo ((j:Int)+1+1);have W:(Op.bytesLess s.name l[j].name||s.name==l[j].name)=fC s.name l[j].name:=rfl;have X:Q5 l (j+1)=some l[j].name:=by simp[Q5,H]
    simp only[X,vH]at a;cases C:fC s.name l[j].name
    ·rw[C,zj (by simp)]at a;by_cases m:ZU s=0
     ·rw[ze m]at a;simp[c,e,f,g,b,H,hs,i,r,N,u,Q,R,S,T,W,C,wk,p,m];exact⟨by omega,by rw[a,B]⟩
     ·rw[zj m]at a;have t:=xE m;have d:ky l=ZU s:=by unfold ky;rw[zj o,a,zj m]
      simp[c,e,f,g,b,H,hs,i,r,N,u,Q,R,S,T,W,C,p,t,d,f26]
    ·rw[C,ze rfl]at a;have d:ky l=8:=by unfold ky;rw[zj o,a,zj (by decide)]
     simp[c,e,f,g,b,H,hs,i,r,N,u,Q,R,S,T,W,C,d,f26]
  ·obtain rfl:k=l.length:=by omega
   rw[zp]at a;have a:YH none l=0:=by rw[a];rfl
   simp[c,e,f,g,a]
 clear c U Y Z;rintro U Y Z ⟨c,hG⟩;refine vf (fun U Y Z=>U 0=.sl 10 (l.map qN.V)/\(l.all fun s=>Yk l s.cond)=true) ?_ ?_
 ·simp[c];refine zP (fun k U Y Z=>U 0=.sl 10 (l.map qN.V)/\U 43=.sl 10 (l.map qN.V)/\U 44=int l.length/\U 45=int k/\(l.all fun s=>Yk l s.cond)=(l.drop k).all fun s=>Yk l s.cond) l.length ⟨by simp[c],by simp,by simp,by simp,by simp⟩ ?_;clear c U Y Z;rintro k U Y Z hk ⟨c,v,w,y,a⟩;by_cases b:k<l.length
  ·have G:=qz k;obtain⟨s,hs⟩:=kC (l[k]);have L:=VI (zm b);rw[hs]at L;have M:s.cb=1+s.name.length+VH s.ins+VH s.outs+s.cond.cb:=rfl;have q:=fun Y Z=>G6 l s.cond Y Z (by omega) (by omega)
   rw[zd b,hs,wJ]at a;cases I:Yk l s.cond
   ·rw[I,Bool.false_and]at a;have d:ky l=9:=by unfold ky;rw[zj o,ze hG,a,zj (by simp)]
    simp[c,v,w,y,b,hs,q,I,d,f26]
   ·rw[I,Ej]at a;simp[c,v,w,y,b,hs,q,I,G];exact⟨by omega,a⟩
  ·obtain rfl:k=l.length:=by omega
   rw[zp]at a;simp only[mQ]at a;simp[c,v,w,y];exact zQ.1 a
 clear c U Y Z;rintro U Y Z ⟨c,hK⟩;have q:∀s∈l,∀n∈s.cond.names,xy l n=true:=fun s hs n hn=>zQ.1 (zQ.1 hK s hs) n hn
 have hm1:l.length<=maxLen:=by unfold maxLen;omega
 have hm2:l.length*8<=140737488355328:=by omega
 simp[c,xL,hm1,hm2];obtain⟨P,hP⟩:=kC Z;rw[hP];refine zP (fun k U Y Z=>U 0=.sl 10 (l.map qN.V)/\U 8=.own P 0 l.length/\U 59=int l.length/\U 60=int k/\P<Z/\∃st:List Int,st.length=l.length/\vF st<2097153/\Y P=some (l6 st)/\gY l=(Gy l st ((List.range l.length).drop k)).1) l.length
  ⟨by simp[c],by simp,by simp,by simp,by simp,List.replicate l.length 0,by simp,by rw[dV];omega,by simp[l6],by simp[gY]⟩ ?_
 clear c hP U Y Z;rintro k U Y Z hk ⟨c,h8,z,A,Uq,st,D,E,hb,a⟩;by_cases b:k<l.length
 ·have G:=qz k;obtain⟨x,Y2,Lg,J,rfl,r2,n2,f2⟩:=po l h q P 2097153 st k Y Z E D b Uq hb;have F:=j5 (yB l) 2097153 st k;rw[zd (by simpa using b),List.getElem_range]at a;unfold Gy at a;cases K:(jw (yB l) 2097153 st k).1
  ·rw[vg K]at a;rw[K]at J;simp[c,h8,z,A,b,J,G];exact⟨by omega,by omega,_,by rw[F.len];exact D,zdh F.wh E,r2,by rw[a];rfl⟩
  ·rw[v8 K]at a;rw[K]at J;have d:ky l=12:=by unfold ky;rw[zj o,ze hG,ze hK,ze a]
   simp[c,h8,z,A,b,J,d,f26]
 ·obtain rfl:k=l.length:=by omega
  have a:gY l=false:=by rw[a,V4 (by simp)];rfl
  have d:ky l=0:=by unfold ky;rw[zj o,ze hG,ze hK,a,zj (by simp)]
  simp[c,h8,z,A,d,f26]
theorem JX:zf prog 26 (zg false [] (FSs fun l=>int (ky l))):=
 yt (fn:=f26) MH Dj false [] _ fun args r h=>by obtain⟨l,rfl,a,rfl⟩:=qd h;exact⟨zA (zi 1) (by decide),_,KN l a,qa _⟩
noncomputable def FFS (f:za×qp->za->O):zb->Option O:=zS (α:=(za×qp)×za) (fun a=>[.agg (wS a.1),str a.2]) (fun _=>True) (fun a=>f a.1 a.2)
theorem pq(Y:Hp)(x:za×qp):qe Y (.agg (wS x))=some (.agg (wS x),Y):=by simp[wS]
theorem ui(x:za×qp):O.noOwn (.agg (wS x))=true:=by have:=gK x.2;simp only[O.noOwn,kU,wS,xF]at this⊢;simpa using this
theorem pt(f:za×qp->za->O)(x:za×qp)(s:za)(Y:Hp)(Z:Nat):zg false [] (FFS f) [.agg (wS x),str s] Y Z=some (f x s,Y,Z):=
 wR (Y1:=Y) (show zy Y [.agg (wS x),str s]=some ([.agg (wS x),str s],Y) by simp only[zy,pq];simp)
  (qx (V:=fun a:(za×qp)×za=>[O.agg (wS a.1),str a.2]) (a:=(x,s)) (fun a b e=>by
   obtain⟨d,h⟩:=a;obtain⟨b1,i⟩:=b;simp only[zc,zs,O.agg.injEq]at e;obtain⟨c,g⟩:=e;have c:wS d=wS b1:=by simpa only[wS,zc]using c
   rw[dO c,qv g]) trivial) (.inr (by simp only[wJ,ui,mQ];rfl))
noncomputable abbrev Cac:Ctx:=zG prog [(41,zg false [] (Cy wX))]
theorem fT:zf prog 102 (zg false [] (FFS fun x s=>int (wX x.1 s))):=
 kL (zM mixed ⟨yd,trivial⟩:AM.Good Cac _) func102 false [] fun⟨x,s⟩ _=>⟨by simp[f102],_,zl rfl (by simp[f102,wS]),qa _⟩
noncomputable def KO (l:List (za×qp)) (s:za) (k:Nat):Bool:=match l[k]? with
 |some x=>decide (wX x.1 s<0)
 |none=>false
noncomputable def ZJ (l:List (za×qp)) (s:za):Nat×Bool:=(jg (KO l s) 0 l.length,match l[jg (KO l s) 0 l.length]? with
 |some x=>wX x.1 s==0
 |none=>false)
noncomputable def RG (g:Nat):zb->Option O:=zS (α:=List (za×qp)×za) (fun a=>[.sl 6 (a.1.map wS),str a.2,.fn (.func g) [] []]) (fun a=>a.1.length<=zw) (fun a=>.q8 [int (ZJ a.1 a.2).1,qO (ZJ a.1 a.2).2])
theorem Dk(g:Nat)(l:List (za×qp))(s:za)(Y:Hp)(Z:Nat)(h:l.length<=zw):zg false [] (RG g) [.sl 6 (l.map wS),str s,.fn (.func g) [] []] Y Z=some (.q8 [int (ZJ l s).1,qO (ZJ l s).2],Y,Z):=
 Zc (l,s) _ _ rfl (fun a b e=>by obtain⟨f,i⟩:=a;obtain⟨j,k⟩:=b;simp only[zc,zs]at e;obtain⟨c,d⟩:=e;injection c with _ c;rw[yF (fun _ _=>dO) c,qv d]) h (.inl rfl)
noncomputable abbrev Cbs:Ctx:=zG prog [(102,zg false [] (FFS fun x s=>int (wX x.1 s)))]
theorem MI(l:List (za×qp))(s:za)(v:l.length<=zw):zt Cbs f101 [.sl 6 (l.map wS),str s,.fn (.func 102) [] []]=some (.q8 [int (ZJ l s).1,qO (ZJ l s).2]):=by
 refine zl rfl ?_;unfold zw at v;simp;refine jI (fun st=>st.U 0=.sl 6 (l.map wS)/\st.U 1=str s/\st.U 2=.fn (.func 102) [] []/\st.U 8=int l.length/\∃lo hi:Nat,lo<=hi/\hi<=l.length/\st.U 9=int lo/\st.U 10=int hi/\jg (KO l s) 0 l.length=jg (KO l s) lo hi)
  (fun st=>(k7 (st.U 10)).toNat-(k7 (st.U 9)).toNat) ⟨by simp,by simp,by simp,by simp,0,l.length,by simp,by simp,by simp,by simp,rfl⟩ ?_
 rintro⟨U,Y,Z⟩ ⟨h,i,j,k,lo,hi,w,r,n,d,f⟩;simp only at h i j k n d;by_cases b:lo<hi
 ·have a:=fun x Y Z=>pt (fun x s=>int (wX x.1 s)) x s Y Z
  have u:=wo ((lo:Int)+hi);have y:(lo+hi)/2<l.length:=by omega
  obtain⟨m,z⟩:∃m,m=(lo+hi)/2:=⟨_,rfl⟩;have g:i6.wrap ((IntKind.u64.wrap ((lo:Int)+hi)).fdiv (2 ^ min 1 IntKind.u64.bits))=(m:Int):=by
   have A:IntKind.u64.wrap ((lo:Int)+hi)=(lo:Int)+hi:=by rw[Qp];omega
   have B:(2 ^ min 1 IntKind.u64.bits:Int)=2:=by decide
   rw[A,B,jP _ (by omega),qE (by omega) (by omega)];omega
  have e:m<l.length:=by omega
  have C:=qz m;have t:KO l s m=decide (wX l[m].1 s<0):=by simp[KO,e]
  rw[vt (lo:=lo) b,<-z,t]at f;have c:=a l[m];simp only[wS]at c;by_cases q:wX l[m].1 s<0
  ·simp only[q,fl,qI]at f;simp[h,i,j,k,n,d,b,u,g,e,c,q,C];exact⟨⟨m+1,hi,by omega,r,by omega,rfl,f⟩,by omega⟩
  ·simp only[q,V5,zE,wE]at f;simp[h,i,j,k,n,d,b,u,g,e,c,q];exact⟨⟨lo,m,by omega,by omega,rfl,rfl,f⟩,by omega⟩
 ·have f:jg (KO l s) 0 l.length=lo:=by rw[f,Zp (lo:=lo) b]
  have a:=fun x Y Z=>pt (fun x s=>int (wX x.1 s)) x s Y Z
  unfold ZJ;rw[f];by_cases o:lo<l.length
  ·have c:=a l[lo];simp only[wS]at c;simp[h,i,j,k,n,d,b,o,c,f101,qU]
  ·have p:l[lo]?=none:=qS (by omega);simp[h,i,j,k,n,d,b,o,p,f101,qU]
theorem G9:zf prog 101 (zg false [] (RG 102)):=
 kL (qc (q:=[102]) mixed ⟨fT,fun _=>zr _ _,trivial⟩:AM.Good Cbs _) func101 false [] fun⟨l,s⟩ a=>⟨zA (zi 3) (by decide),_,MI l s a,qa _⟩
def pw:qp:=.mk 0 0 [] [] []
def l7(s:za):qp:=.mk 3 0 s [] []
def RH:za:=[107,101,121]
noncomputable def qf.find (x:qf) (s:za):qp×Bool:=
 if s==RH then(l7 x.key,true)else match x.attrs[(ZJ x.attrs s).1]? with
  |some a=>if(ZJ x.attrs s).2 then(a.2,true)else(pw,false)
  |none=>(pw,false)
noncomputable def FXS (out:qf->za->O) (pre:qf->za->Prop):zb->Option O:=zS (α:=qf×za) (fun a=>[.agg a.1.V,str a.2]) (fun a=>a.1.cb<=zw/\a.2.length<=zw/\pre a.1 a.2) (fun a=>out a.1 a.2)
theorem Ha(out:qf->za->O)(pre:qf->za->Prop)(x:qf)(s:za)(Y:Hp)(Z:Nat)(h:x.cb<=zw/\s.length<=zw/\pre x s):zg false [] (FXS out pre) [.agg x.V,str s] Y Z=some (out x s,Y,Z):=
 wR (Y1:=Y) (show zy Y [.agg x.V,str s]=some ([.agg x.V,str s],Y) by simp only[zy,az];simp)
  (qx (V:=fun a:qf×za=>[O.agg a.1.V,str a.2]) (a:=(x,s)) (fun a b e=>by obtain⟨c,d⟩:=a;obtain⟨f,g⟩:=b;simp only[zc,zs,O.agg.injEq]at e;rw[dP e.1,qv e.2]) h) (.inr (by simp only[wJ,dQ,mQ];rfl))
theorem Hb{l:List (za×qp)}{s:za}(h:(ZJ l s).2=true):(ZJ l s).1<l.length:=by
 unfold ZJ at h⊢;simp only at h⊢;split at h
 ·rename_i x a;exact(zh.1 a).1
 ·cases h
def KP(r:qp×Bool):O:=.q8 [.agg r.1.V,qO r.2]
noncomputable abbrev Cxa:Ctx:=zG prog [(101,zg false [] (RG 102))]
theorem A2(k n:Int)(s:za):wu (.agg [int k,int n,str s,.nil,.nil]) (.agg (qp.mk k n s [] []).V):=by rw[vD];exact jT.agg (.cons (.refl _) (.cons (.refl _) (.cons (.refl _) (.cons (.BB (.inl ⟨rfl,rfl⟩)) (.cons (.BB (.inl ⟨rfl,rfl⟩)) .nil)))))
theorem px(x:qf)(s:za)(h:x.cb<=zw):∃i,zt Cxa f64 [.agg x.V,str s]=some i/\wu i (KP (x.find s)):=by
 have j:=XO x;have k:=vZ x.attrs;have b:=fun Y Z=>Dk 102 x.attrs s Y Z (by omega)
 refine ZQ rfl ?_;have f:(s==RH)=false->(ZJ x.attrs s).2=false->x.find s=(pw,false):=fun l m=>by unfold qf.find;rw[l,m];simp only[zE,wE];split<;>rfl
 cases c:(s==RH)
 ·have a:(s==[107,101,121])=false:=c;cases d:(ZJ x.attrs s).2
  ·rw[f c d];simp[qf.V,a,b,d,qg,qF,f64];refine⟨.q8 [.agg [int 0,int 0,str [],.nil,.nil],qO false],by simp,?_⟩;exact jT.q8 (.cons (A2 0 0 []) (.cons (.refl _) .nil))
  ·have e:=Hb d;have g:x.find s=(x.attrs[(ZJ x.attrs s).1].2,true):=by unfold qf.find;rw[c,d];simp[e]
   rw[g];simp[qf.V,a,b,d,e,f64];refine⟨KP (x.attrs[(ZJ x.attrs s).1].2,true),by simp[KP],.refl _⟩
 ·have a:(s==[107,101,121])=true:=c;have g:x.find s=(l7 x.key,true):=by unfold qf.find;rw[c];rfl
  rw[g];simp[qf.V,a,qg,qF,f64];refine⟨.q8 [.agg [int 3,int 0,str x.key,.nil,.nil],qO true],by simp,?_⟩;exact jT.q8 (.cons (A2 3 0 x.key) (.cons (.refl _) .nil))
theorem l8:zf prog 64 (zg false [] (FXS (fun x s=>KP (x.find s)) fun _ _=>True)):=
 YF (fn:=f64) (zM mixed ⟨G9,trivial⟩:AM.Good Cxa _) (qW func64) false [] _ fun args r h w S vs a=>by obtain⟨⟨x,s⟩,rfl,b,rfl⟩:=qd h;obtain⟨c,d,e⟩:=px x s b.1;exact⟨_,c,a,zA (zi 2) (by decide),d,e⟩
end Go.Q
namespace Go.SpanLaw
abbrev Sp:=Int×Int
def QM:Int->List Sp->Prop
 |_,[]=>True
 |lo,s::l=>lo<s.1/\s.1<s.2/\QM s.2 l
def mem(l:List Sp)(k:Int):Prop:=∃s∈l,s.1<=k/\k<s.2
theorem A3(k:Int):¬mem [] k:=by simp[mem]
theorem mem_cons(s:Sp)(l:List Sp)(k:Int):mem (s::l) k↔(s.1<=k/\k<s.2)\/mem l k:=by simp[mem]
theorem MJ(f t k:Int):mem [(f,t)] k↔f<=k/\k<t:=by simp[mem]
theorem mem_append(l m:List Sp)(k:Int):mem (l++m) k↔mem l k\/mem m k:=by simp[mem,or_and_right,exists_or]
theorem XU:∀{lo:Int} {l:List Sp},QM lo l->∀{k:Int},mem l k->lo<k
 |_,[],_,k,h=>absurd h (A3 k)
 |lo,s::l,a,k,h=>by
  rcases(mem_cons s l k).1 h with h|h
  ·have:=a.1;omega
  ·have:=XU a.2.2 h;have:=a.1;have:=a.2.1;omega
theorem Hc{lo a:Int}{l:List Sp}(h:QM lo l)(b:a<=lo):QM a l:=by
 cases l with
 |nil=>trivial
 |cons s l=>exact⟨by have:=h.1;omega,h.2⟩
def xz(a c:Int):List Sp->List Sp
 |[]=>if a<c then[(a,c)]else[]
 |b::l=>if b.1<c then(if a<b.1 then(a,b.1)::xz (max a b.2) c l else xz (max a b.2) c l)else if a<c then[(a,c)]else[]
def skip(x:Int):List Sp->List Sp
 |[]=>[]
 |b::l=>if b.2<=x then skip x l else b::l
def Qw:List Sp->List Sp->List Sp
 |[],_=>[]
 |s::a,b=>xz s.1 s.2 (skip s.1 b)++Qw a (skip s.1 b)
theorem KQ:∀{lo x:Int} {b:List Sp},QM lo b->QM lo (skip x b)
 |_,_,[],_=>trivial
 |lo,x,s::b,h=>by
  unfold skip;split
  ·exact KQ (Hc h.2.2 (by have:=h.1;have:=h.2.1;omega))
  ·exact h
theorem pz:∀{x:Int} {b:List Sp} {k:Int},x<=k->(mem (skip x b) k↔mem b k)
 |_,[],_,_=>Iff.rfl
 |x,s::b,k,h=>by
  unfold skip;split
  ·rw[pz h,mem_cons];constructor
   ·exact .inr
   ·rintro (g|g)
    ·omega
    ·exact g
  ·exact Iff.rfl
theorem ib:∀{lo f t:Int} {b:List Sp} {k:Int},QM lo b->(mem (xz f t b) k↔f<=k/\k<t/\¬mem b k)
 |_,f,t,[],k,_=>by
  unfold xz;split
  ·simp[mem]
  ·simp[mem];omega
 |lo,f,t,s::b,k,h=>by
  have hs:=h.2.1;have c:mem b k->s.2<k:=fun g=>XU h.2.2 g
  have a:=@ib s.2 (max f s.2) t b k h.2.2;have d:f<=max f s.2:=Int.le_max_left _ _;have e:s.2<=max f s.2:=Int.le_max_right _ _;have i:max f s.2=f\/max f s.2=s.2:=by omega
  rw[mem_cons];unfold xz;generalize max f s.2=m at a d e i⊢;split
  ·split
   ·rw[mem_cons,a];show(f<=k/\k<s.1)\/_↔_;by_cases g:mem b k
    ·have:=c g;simp only[g,not_true_eq_false,and_false,or_true,or_false,iff_false];omega
    ·simp only[g,not_false_eq_true,zs,or_false];omega
   ·rw[a];by_cases g:mem b k
    ·simp only[g,not_true_eq_false,and_false,or_true]
    ·simp only[g,not_false_eq_true,zs,or_false];omega
  ·split
   ·rw[MJ];by_cases g:mem b k
    ·have:=c g;simp only[g,or_true,not_true_eq_false,and_false,iff_false];omega
    ·simp only[g,or_false];omega
   ·constructor
    ·intro g;exact absurd g (A3 k)
    ·intro g;omega
def Below(a:Int)(l:List Sp):Prop:=∀s∈l,s.2<=a
theorem pA:∀{lo c:Int} {a b:List Sp} {k:Int},QM lo a->QM c b->(mem (Qw a b) k↔mem a k/\¬mem b k)
 |_,_,[],b,k,_,_=>by simp[Qw,mem]
 |lo,c,s::a,b,k,d,f=>by
  have hs:=d.2.1;rw[Qw,mem_append,ib (KQ f),pA d.2.2 (KQ f),mem_cons];have i:mem a k->s.2<k:=fun g=>XU d.2.2 g
  by_cases g:s.1<=k
  ·rw[pz g];by_cases e:mem a k<;>by_cases j:mem b k<;>simp[e,j]
  ·have e:¬mem a k:=fun h=>by have:=i h;omega
   simp only[e,or_false,false_and];constructor
   ·intro h;omega
   ·intro h;omega
structure zdf (op:Int->Prop) (at_:Int) (out:List Sp):Prop where
 canon:QM (-1) out
 below:Below at_ out
 holds:∀k,mem out k↔0<=k/\k<at_/\op k
def Wz:List Sp->Int
 |[]=>0
 |s::l=>(s.2-s.1)+Wz l
end Go.SpanLaw
namespace Go.Q
abbrev wc(s:Sp):zb:=[int s.1,int s.2]
theorem Hd{a b:Sp}(h:wc a=wc b):a=b:=by simp only[zc,zs,O.v.injEq,Value.int.injEq,true_and]at h;exact Prod.ext h.1 h.2
theorem xk{a b:List Sp}(h:O.sl 2 (a.map wc)=O.sl 2 (b.map wc)):a=b:=by injection h with _ h;exact yF (fun _ _=>Hd) h
def spR(s:Sp):Bool:=!vG s.1 0 99999||decide ((100000:Int)<s.2)
def T9(p:Option Int)(s:Sp):Bool:=decide (s.2<=s.1)||(match p with
 |none=>false
 |some q=>decide (s.1<=q))
def I9:Option Int->List Sp->Int
 |_,[]=>0
 |p,s::l=>if spR s then 1 else if T9 p s then 8 else I9 (some s.2) l
theorem He{l:List Sp}{k:Nat}(h:k<l.length)(p:Option Int):I9 p (l.drop k)=if spR l[k]then 1 else if T9 p l[k]then 8 else I9 (some l[k].2) (l.drop (k+1)):=by rw[zd h,I9]
def eu(l:List Sp)(k:Nat):Option Int:=if k=0 then none else(l[k-1]?).map (·.2)
def y9(l:List Sp):Int:=if(100:Int)<l.length then 2 else I9 none l
theorem vK:zf prog 25 (zg false [] (F3 vG)):=
 yt (fn:=f25) y7 (qW func25) false [] _ fun args r h=>by obtain⟨a,b,c,rfl,rfl⟩:=cT h;exact⟨by simp[f25],_,zl rfl (by simp[f25,vG]),qa _⟩
noncomputable abbrev Cwl:Ctx:=zG prog [(25,zg false [] (F3 vG))]
theorem br(l:List Sp):zt Cwl f21 [.sl 2 (l.map wc)]=some (int (y9 l)):=by
 refine zl rfl ?_;rw[y9];by_cases q:(100:Int)<l.length
 ·simp[q,f21]
 simp[q];refine zP (fun k U Y Z=>U 0=.sl 2 (l.map wc)/\U 8=.sl 2 (l.map wc)/\U 9=int l.length/\U 10=int k/\I9 none l=I9 (eu l k) (l.drop k)) l.length
  ⟨by simp,by simp,by simp,by simp,by simp[eu]⟩ ?_
 rintro k U Y Z z ⟨f,g,h,c,a⟩;by_cases b:k<l.length
 ·have A:=qz k;have en:(!vG l[k].1 0 99999||decide ((100000:Int)<l[k].2))=spR l[k]:=rfl;rw[He b]at a;cases n:spR l[k]
  case true=>rw[n]at en a;simp[f,g,h,c,b,en,a,f21]
  rw[n]at en;simp only[n,zE,wE]at a;have e:eu l (k+1)=some l[k].2:=by simp[eu,b]
  by_cases w:k=0
  ·subst w;simp only[eu,qI,T9,Bool.or_false]at a;by_cases d:l[0].2<=l[0].1
   ·simp only[d,fl,qI]at a;simp[f,g,h,c,b,en,d,a,f21]
   ·simp only[d,V5,zE,wE]at a;have x:=wo 1;simp[f,g,h,c,b,en,d,x]
    and_intros<;>first|omega|(rw[a];rw[e];done)|(rw[a];rw[e];simp)
  ·obtain⟨j,rfl⟩:∃j,k=j+1:=⟨k-1,by omega⟩;have o:j<l.length:=by omega
   have r:i6.wrap ((j:Int)+1-1)=(j:Int):=by rw[qE (by omega) (by omega)];omega
   have i:=wo (j:Int);have s:((j:Int)+1).toNat=j+1:=by omega
   have t:0<(j:Int)+1:=by omega
   have u:0<=(j:Int)+1:=by omega
   have v:(j:Int)+1<l.length:=by omega
   have y:=wo ((j:Int)+1+1);have p:eu l (j+1)=some l[j].2:=by simp[eu,o]
   have m:(decide (l[j+1].2<=l[j+1].1)||decide (l[j+1].1<=l[j].2))=T9 (some l[j].2) l[j+1]:=rfl;rw[p]at a;cases d:T9 (some l[j].2) l[j+1]
   ·rw[d]at m;simp only[d,zE,wE]at a;simp[f,g,h,c,b,o,en,r,i,s,t,u,v,m,y]
    and_intros<;>first|omega|(rw[a];rw[e])
   ·rw[d]at m;simp only[d,qI]at a;simp[f,g,h,c,b,o,en,r,i,s,t,u,v,m,a,f21]
 ·obtain rfl:k=l.length:=by omega
  rw[zp]at a;have a:I9 none l=0:=by rw[a];rfl
  simp[f,g,h,c,a,f21]
noncomputable def FP (out:List Sp->O) (pre:List Sp->Prop):zb->Option O:=zS (α:=List Sp) (fun l=>[.sl 2 (l.map wc)]) pre out
theorem l9(out:List Sp->O)(pre:List Sp->Prop)(l:List Sp)(Y:Hp)(Z:Nat)(h:pre l):zg false [] (FP out pre) [.sl 2 (l.map wc)] Y Z=some (out l,Y,Z):=
 Zc l _ _ rfl (fun a b e=>by simp only[zc,zs]at e;exact xk e) h (.inr rfl)
theorem WA:zf prog 21 (zg false [] (FP (fun l=>int (y9 l)) fun _=>True)):=
 kL (qc (q:=[25]) mixed ⟨vK,fun _=>zr _ _,trivial⟩:AM.Good Cwl _) func21 false [] fun l _=>⟨zA (zi 1) (by decide),_,br l,qa _⟩
theorem ic:∀{l:List Sp} {p:Option Int},I9 p l=0->QM (p.getD (-1)) l/\Below 100000 l/\∀s∈l,0<=s.1
 |[],_,_=>⟨trivial,fun s hs=>absurd hs (by simp),fun s hs=>absurd hs (by simp)⟩
 |s::l,p,h=>by
  simp only[I9]at h;split at h
  ·cases h
  split at h
  ·cases h
  rename_i c b;obtain⟨d,e,f⟩:=ic h;simp only[spR,vG,qR,kU,Bool.and_eq_false_iff,decide_eq_false_iff_not,qG,not_or]at c;simp only[T9,qR,qG,not_or]at b;refine⟨⟨?_,by omega,d⟩,fun x a=>?_,fun x a=>?_⟩
  ·cases p with
   |none=>show -1<s.1;omega
   |some q=>have:=b.2;simp at this;exact this
  ·rcases zC.1 a with rfl|a
   ·omega
   ·exact e x a
  ·rcases zC.1 a with rfl|a
   ·omega
   ·exact f x a
theorem fU{l:List Sp}(h:y9 l=0):QM (-1) l/\Below 100000 l/\(∀s∈l,0<=s.1)/\l.length<=100:=by
 unfold y9 at h;split at h
 ·cases h
 ·obtain⟨a,b,c⟩:=ic h;exact⟨a,b,c,by omega⟩
def bU(b:List Sp):Prop:=QM (-1) b/\Below 100000 b/\(∀s∈b,0<=s.1)/\b.length<=100000
theorem mb{b:List Sp}(h:y9 b=0):bU b:=by obtain⟨a,c,d,e⟩:=fU h;exact⟨a,c,d,by omega⟩
theorem Dl{l:List Sp}{k:Nat}(h:k<l.length):Wz (l.drop k)=(l[k].2-l[k].1)+Wz (l.drop (k+1)):=by rw[zd h,Wz]
theorem XV:∀{lo:Int} {l:List Sp},QM lo l->∀s∈l,s.1<s.2
 |_,r::l,h,s,hs=>by
  rcases zC.1 hs with rfl|hs
  ·exact h.2.1
  ·exact XV h.2.2 s hs
theorem Dm(l:List Sp)(h:bU l):zt C0 f22 [.sl 2 (l.map wc)]=some (int (Wz l)):=by
 obtain⟨j,m,n,t⟩:=h;refine zl rfl ?_;simp;refine zP (fun k U Y Z=>U 6=.sl 2 (l.map wc)/\U 7=int l.length/\U 8=int k/\∃a:Int,U 3=int a/\a+Wz (l.drop k)=Wz l/\0<=a/\a<=100000*k) l.length
  ⟨by simp,by simp,by simp,0,by simp,by simp,by simp,by simp⟩ ?_
 rintro k U Y Z u ⟨e,f,g,a,i,c,o,p⟩;by_cases b:k<l.length
 ·have q:=qz k;have d:=zm b;have v:=m _ d;have w:=n _ d;have x:=XV j _ d;have r:=wo (l[k].2-l[k].1);have s:=wo (a+(l[k].2-l[k].1));rw[Dl b]at c;simp[i,e,f,g,b,q,r,s];omega
 ·obtain rfl:k=l.length:=by omega
  rw[zp,Wz]at c;have c:a=Wz l:=by omega
  simp[i,e,f,g,c,f22]
theorem uj:zf prog 22 (zg false [] (FP (fun l=>int (Wz l)) fun l=>bU l)):=
 kL y7 func22 false [] fun l a=>⟨zA (zi 1) (by decide),_,Dm l a,qa _⟩
def pB(l:List Sp):Int×Int:=if y9 l=0 then(Wz l,0)else(0,y9 l)
def Dn(r:Int×Int):O:=.q8 [int r.1,int r.2]
noncomputable abbrev Csz:Ctx:=zG prog [(21,zg false [] (FP (fun l=>int (y9 l)) fun _=>True)),(22,zg false [] (FP (fun l=>int (Wz l)) fun l=>bU l))]
theorem Dp(l:List Sp):zt Csz f10 [.sl 2 (l.map wc)]=some (Dn (pB l)):=by
 have c:=fun Y Z=>l9 (fun l=>int (y9 l)) (fun _=>True) l Y Z trivial
 refine zl rfl ?_;unfold pB;by_cases a:y9 l=0
 ·have d:=fun Y Z=>l9 (fun l=>int (Wz l)) (fun l=>bU l) l Y Z (mb a)
  simp[c,d,a,Dn,qU,f10]
 ·have b:=xE a;simp[c,a,b,Dn,qU,f10]
theorem uk:zf prog 10 (zg false [] (FP (fun l=>Dn (pB l)) fun _=>True)):=
 kL (zM mixed ⟨WA,uj,trivial⟩:AM.Good Csz _) func10 false [] fun l _=>⟨zA (zi 1) (by decide),_,Dp l,qa _⟩
noncomputable def MK (out:List Sp->List Sp->O) (pre:List Sp->List Sp->Prop):zb->Option O:=zS (α:=List Sp×List Sp) (fun a=>[.sl 2 (a.1.map wc),.sl 2 (a.2.map wc)]) (fun a=>pre a.1 a.2) (fun a=>out a.1 a.2)
theorem pC(out:List Sp->List Sp->O)(pre:List Sp->List Sp->Prop)(a b:List Sp)(Y:Hp)(Z:Nat)(h:pre a b):zg false [] (MK out pre) [.sl 2 (a.map wc),.sl 2 (b.map wc)] Y Z=some (out a b,Y,Z):=
 Zc (a,b) _ _ rfl (fun a b e=>by obtain⟨c,d⟩:=a;obtain⟨f,g⟩:=b;simp only[zc,zs]at e;rw[xk e.1,xk e.2]) h (.inr rfl)
theorem Dq{a:List Sp}{j:Nat}(h:j<a.length)(b:List Sp):Qw (a.drop j) b=xz a[j].1 a[j].2 (skip a[j].1 b)++Qw (a.drop (j+1)) (skip a[j].1 b):=by rw[zd h,Qw]
theorem ie{b:List Sp}{k:Nat}(h:k<b.length)(x:Int):skip x (b.drop k)=if b[k].2<=x then skip x (b.drop (k+1))else b.drop k:=by rw[zd h,skip]
theorem Ym{b:List Sp}{k:Nat}(h:k<b.length)(f t:Int):xz f t (b.drop k)=if b[k].1<t then(if f<b[k].1 then(f,b[k].1)::xz (max f b[k].2) t (b.drop (k+1))else xz (max f b[k].2) t (b.drop (k+1)))else if f<t then[(f,t)]else[]:=by rw[zd h,xz]
theorem A4{Y:Hp}{Z e s id:Nat}{v:O}{xs:List zb}(h:wD Y Z e s v xs)(a:Z<=id)(m:Nat):v≠.own id 0 m:=by
 rcases h with⟨rfl,rfl⟩|⟨i,b,rfl,c⟩
 ·simp
 ·intro h;injection h with h;omega
theorem pD(a b:List Sp)(ha:bU a)(hb:bU b):∃r0,zt C0 f14 [.sl 2 (a.map wc),.sl 2 (b.map wc)]=some r0/\wu r0 (.sl 2 ((Qw a b).map wc)):=by
 obtain⟨hc,Ul,Y0,hl⟩:=ha;obtain⟨hc',hbl',hp0',hl'⟩:=hb;have N5:∀{code},f14.body=some code->vU C0 code ⟨jX [.sl 2 (a.map wc),.sl 2 (b.map wc)],fun _=>none,0⟩ (YX C0.P f14 (J9 (.sl 2 ((Qw a b).map wc))))->∃r0,zt C0 f14 [.sl 2 (a.map wc),.sl 2 (b.map wc)]=some r0/\wu r0 (.sl 2 ((Qw a b).map wc)):=by intro code hb h;obtain⟨r0,h1,h2⟩:=lg hb h;exact⟨r0,h1,fun w S u hr=>cM hr h2⟩
 refine N5 rfl ?_;simp;refine zP (fun j U Y Z=>U 1=.sl 2 (b.map wc)/\U 11=.sl 2 (a.map wc)/\U 12=int a.length/\U 13=int j/\∃(k:Nat) (d:List Sp),U 6=int k/\k<=b.length/\wD Y Z 59 2 (U 5) (d.map wc)/\d++Qw (a.drop j) (b.drop k)=Qw a b/\d.length<=100001*j) a.length
  ⟨by simp,by simp,by simp,by simp,0,[],by simp,by simp,.inl (by simp),by simp,by simp⟩ ?_
 rintro j U Y Z hj ⟨h1,h11,h12,Pb,k0,d,h6,hk0,hO,hd,hdl⟩;by_cases F:j<a.length
 ·have hw:=qz j;have hmm:=zm F;have b1:=Ul _ hmm;have b2:=Y0 _ hmm;have b3:=XV hc _ hmm;rw[Dq F]at hd;have Ur:=hO.more (some ⟨59,2,false,[wc a[j]]⟩);simp[h1,h11,h12,Pb,F];refine jI (fun st=>st.U 1=.sl 2 (b.map wc)/\st.U 11=.sl 2 (a.map wc)/\st.U 12=int a.length/\st.U 13=int j/\st.U 8=.ref Z 0 0/\st.U 5=U 5/\st.Y=ql Y Z (some ⟨59,2,false,[wc a[j]]⟩)/\st.Z=Z+1/\∃k:Nat,st.U 6=int k/\k<=b.length/\skip a[j].1 (b.drop k)=skip a[j].1 (b.drop k0))
   (fun st=>b.length-(k7 (st.U 6)).toNat) ⟨by simp[h1],by simp[h11],by simp[h12],by simp[Pb],by simp,by simp,by simp,by simp,k0,by simp[h6],hk0,rfl⟩ ?_
  rintro⟨σ1,Y1,Um⟩ ⟨g1,M,N,Q,g8,g5,ghp,gnx,k,g6,hk,hs⟩;simp only at g1 M N Q g8 g5 ghp gnx g6;subst ghp;subst gnx;by_cases SM:∃x:k<b.length,b[k].2<=a[j].1
  ·obtain⟨x,hto⟩:=SM;have hwk:=qz k;rw[ie x,ze hto]at hs;simp[g1,g5,g6,g8,M,N,Q,x,hto,hwk];exact⟨⟨k+1,by simp,x,hs⟩,by omega⟩
  have hsk:b.drop k=skip a[j].1 (b.drop k0):=by
   rw[<-hs];by_cases x:k<b.length
   ·rw[ie x,zj fun h=>SM ⟨x,h⟩]
   ·rw[vw (by omega)];rfl
  rw[<-hsk]at hd;by_cases x:k<b.length
  ·have hto:¬b[k].2<=a[j].1:=fun h=>SM ⟨x,h⟩
   simp[g1,g5,g6,g8,M,N,Q,x,hto];refine jI (fun st=>st.U 1=.sl 2 (b.map wc)/\st.U 11=.sl 2 (a.map wc)/\st.U 12=int a.length/\st.U 13=int j/\st.U 8=.ref Z 0 0/\st.U 6=int k/\st.Y Z=some ⟨59,2,false,[wc a[j]]⟩/\Z<st.Z/\∃(i:Nat) (f:Int) (C:List Sp),st.U 10=int i/\st.U 9=int f/\k<=i/\i<=b.length/\wD st.Y st.Z 59 2 (st.U 5) (C.map wc)/\(∀m,st.U 5≠.own Z 0 m)/\C++xz f a[j].2 (b.drop i)=d++xz a[j].1 a[j].2 (b.drop k)/\C.length<=d.length+(i-k)/\0<=f/\f<=100000)
    (fun st=>b.length-(k7 (st.U 10)).toNat) ⟨by simp[g1],by simp[M],by simp[N],by simp[Q],by simp[g8],by simp[g6],by simp,by simp,k,a[j].1,d,by simp[g6],by simp,by omega,by omega,by simpa[g5]using Ur,by simp only[zk _ _ _ _ (by decide:(5:Nat)≠10),ne_eq];simp[g5];exact fun m=>A4 hO (zi _) m,rfl,by omega,b2,by omega⟩ ?_
   rintro⟨σ2,Y2,R⟩ ⟨G,g,l,n,H,I,e,T,i,f,C,o,J,hki,Em,q,K,y,hdl',hf0,hf1⟩;simp only at G g l n H I e T o J q K;by_cases z:∃ZY:i<b.length,b[i].1<a[j].2
   ·obtain⟨ZY,p⟩:=z;have W:=qz i;rw[Ym ZY,ze p]at y;have hbi:=hbl' _ (zm ZY);have hbp:=hp0' _ (zm ZY);obtain⟨X,L,D,E⟩:∃X,(if f<b[i].2 then b[i].2 else f)=X/\0<=X/\X<=100000:=⟨_,rfl,by split<;>omega,by split<;>omega⟩;have SR:max f b[i].2=X:=by rw[<-L];split<;>omega
    rw[SR]at y;by_cases B:f<b[i].1
    ·rw[ze B]at y;have r:=q.jb (P:=prog) (t:=60) (c:=wc (f,b[i].1)) LQ LN LO LP rfl (by omega) (by rw[qQ];unfold maxLen;omega) (by rw[qQ];omega);have s:∀Y Z,zu prog Y Z 60 1 [(0,.agg (wc (f,b[i].1)))]=some (.own Z 0 1,ql Y Z (some ⟨59,2,true,[wc (f,b[i].1)]⟩),Z+1):=fun Y Z=>by simp[zu,zX,zv]
     simp only[wc]at r s;simp[G,I,H,J,o,g,l,n,e,ZY,p,B,W,L,qg,qF,s,r];refine⟨⟨?_,by omega,i+1,by simp,by omega,ZY,C++[(f,b[i].1)],?_,by omega,by rw[qY];exact y,by simp;omega,D,E⟩,by omega⟩
     ·rw[zk _ _ _ _ (by omega),yo q _ _ K,zk _ _ _ _ (by omega)];exact e
     ·rw[JU,zdi];exact .inr ⟨R+1,by omega,by simp,by simp⟩
    ·rw[zj B]at y;simp[G,I,H,J,o,g,l,n,e,ZY,p,B,W,L];exact⟨⟨T,i+1,by simp,by omega,ZY,C,q,K,y,by omega,D,E⟩,by omega⟩
   ·have hpe:xz f a[j].2 (b.drop i)=if f<a[j].2 then[(f,a[j].2)]else[]:=by
     by_cases ZY:i<b.length
     ·rw[Ym ZY,zj fun h=>z ⟨ZY,h⟩]
     ·rw[vw (by omega),xz]
    rw[hpe]at y;have A:(∃ZY:i<b.length,¬b[i].1<a[j].2)\/¬i<b.length:=by
     by_cases ZY:i<b.length
     ·exact .inl ⟨ZY,fun h=>z ⟨ZY,h⟩⟩
     ·exact .inr ZY
    by_cases v:f<a[j].2
    ·rw[ze v]at y;have r:=q.jb (P:=prog) (t:=60) (c:=wc (f,a[j].2)) LQ LN LO LP rfl (by omega) (by rw[qQ];unfold maxLen;omega) (by rw[qQ];omega);have s:∀Y Z,zu prog Y Z 60 1 [(0,.agg (wc (f,a[j].2)))]=some (.own Z 0 1,ql Y Z (some ⟨59,2,true,[wc (f,a[j].2)]⟩),Z+1):=fun Y Z=>by simp[zu,zX,zv]
     simp only[wc]at r s;rcases A with⟨ZY,p⟩|ZY
     all_goals simp[G,I,H,J,o,g,l,n,e,ZY,v,hw,qg,qF,s,r]
     all_goals try simp[p,G,I,H,J,o,g,l,n,e,ZY,v,hw,qg,qF,s,r]
     all_goals refine⟨F,k,rfl,hk,C++[(f,a[j].2)],?_,by rw[y,qY];exact hd,by simp;omega⟩
     all_goals rw[JU,zdi]
     all_goals exact .inr ⟨R+1,by omega,by simp,by simp⟩
    ·rw[zj v,yh]at y;rcases A with⟨ZY,p⟩|ZY
     all_goals simp[G,I,H,J,o,g,l,n,e,ZY,v,hw]
     all_goals try simp[p,G,I,H,J,o,g,l,n,e,ZY,v,hw]
     all_goals exact⟨F,k,rfl,hk,C,q,by rw[y,qY];exact hd,by omega⟩
  ·simp[g1,g5,g6,g8,M,N,Q,x];refine jI (fun st=>st.U 1=.sl 2 (b.map wc)/\st.U 11=.sl 2 (a.map wc)/\st.U 12=int a.length/\st.U 13=int j/\st.U 8=.ref Z 0 0/\st.U 6=int k/\st.Y Z=some ⟨59,2,false,[wc a[j]]⟩/\Z<st.Z/\∃(i:Nat) (f:Int) (C:List Sp),st.U 10=int i/\st.U 9=int f/\k<=i/\i<=b.length/\wD st.Y st.Z 59 2 (st.U 5) (C.map wc)/\(∀m,st.U 5≠.own Z 0 m)/\C++xz f a[j].2 (b.drop i)=d++xz a[j].1 a[j].2 (b.drop k)/\C.length<=d.length+(i-k)/\0<=f/\f<=100000)
    (fun st=>b.length-(k7 (st.U 10)).toNat) ⟨by simp[g1],by simp[M],by simp[N],by simp[Q],by simp[g8],by simp[g6],by simp,by simp,k,a[j].1,d,by simp[g6],by simp,by omega,by omega,by simpa[g5]using Ur,by simp only[zk _ _ _ _ (by decide:(5:Nat)≠10),ne_eq];simp[g5];exact fun m=>A4 hO (zi _) m,rfl,by omega,b2,by omega⟩ ?_
   rintro⟨σ2,Y2,R⟩ ⟨G,g,l,n,H,I,e,T,i,f,C,o,J,hki,Em,q,K,y,hdl',hf0,hf1⟩;simp only at G g l n H I e T o J q K;by_cases z:∃ZY:i<b.length,b[i].1<a[j].2
   ·obtain⟨ZY,p⟩:=z;have W:=qz i;rw[Ym ZY,ze p]at y;have hbi:=hbl' _ (zm ZY);have hbp:=hp0' _ (zm ZY);obtain⟨X,L,D,E⟩:∃X,(if f<b[i].2 then b[i].2 else f)=X/\0<=X/\X<=100000:=⟨_,rfl,by split<;>omega,by split<;>omega⟩;have SR:max f b[i].2=X:=by rw[<-L];split<;>omega
    rw[SR]at y;by_cases B:f<b[i].1
    ·rw[ze B]at y;have r:=q.jb (P:=prog) (t:=60) (c:=wc (f,b[i].1)) LQ LN LO LP rfl (by omega) (by rw[qQ];unfold maxLen;omega) (by rw[qQ];omega);have s:∀Y Z,zu prog Y Z 60 1 [(0,.agg (wc (f,b[i].1)))]=some (.own Z 0 1,ql Y Z (some ⟨59,2,true,[wc (f,b[i].1)]⟩),Z+1):=fun Y Z=>by simp[zu,zX,zv]
     simp only[wc]at r s;simp[G,I,H,J,o,g,l,n,e,ZY,p,B,W,L,qg,qF,s,r];refine⟨⟨?_,by omega,i+1,by simp,by omega,ZY,C++[(f,b[i].1)],?_,by omega,by rw[qY];exact y,by simp;omega,D,E⟩,by omega⟩
     ·rw[zk _ _ _ _ (by omega),yo q _ _ K,zk _ _ _ _ (by omega)];exact e
     ·rw[JU,zdi];exact .inr ⟨R+1,by omega,by simp,by simp⟩
    ·rw[zj B]at y;simp[G,I,H,J,o,g,l,n,e,ZY,p,B,W,L];exact⟨⟨T,i+1,by simp,by omega,ZY,C,q,K,y,by omega,D,E⟩,by omega⟩
   ·have hpe:xz f a[j].2 (b.drop i)=if f<a[j].2 then[(f,a[j].2)]else[]:=by
     by_cases ZY:i<b.length
     ·rw[Ym ZY,zj fun h=>z ⟨ZY,h⟩]
     ·rw[vw (by omega),xz]
    rw[hpe]at y;have A:(∃ZY:i<b.length,¬b[i].1<a[j].2)\/¬i<b.length:=by
     by_cases ZY:i<b.length
     ·exact .inl ⟨ZY,fun h=>z ⟨ZY,h⟩⟩
     ·exact .inr ZY
    by_cases v:f<a[j].2
    ·rw[ze v]at y;have r:=q.jb (P:=prog) (t:=60) (c:=wc (f,a[j].2)) LQ LN LO LP rfl (by omega) (by rw[qQ];unfold maxLen;omega) (by rw[qQ];omega);have s:∀Y Z,zu prog Y Z 60 1 [(0,.agg (wc (f,a[j].2)))]=some (.own Z 0 1,ql Y Z (some ⟨59,2,true,[wc (f,a[j].2)]⟩),Z+1):=fun Y Z=>by simp[zu,zX,zv]
     simp only[wc]at r s;rcases A with⟨ZY,p⟩|ZY
     all_goals simp[G,I,H,J,o,g,l,n,e,ZY,v,hw,qg,qF,s,r]
     all_goals try simp[p,G,I,H,J,o,g,l,n,e,ZY,v,hw,qg,qF,s,r]
     all_goals refine⟨F,k,rfl,hk,C++[(f,a[j].2)],?_,by rw[y,qY];exact hd,by simp;omega⟩
     all_goals rw[JU,zdi]
     all_goals exact .inr ⟨R+1,by omega,by simp,by simp⟩
    ·rw[zj v,yh]at y;rcases A with⟨ZY,p⟩|ZY
     all_goals simp[G,I,H,J,o,g,l,n,e,ZY,v,hw]
     all_goals try simp[p,G,I,H,J,o,g,l,n,e,ZY,v,hw]
     all_goals exact⟨F,k,rfl,hk,C,q,by rw[y,qY];exact hd,by omega⟩
 ·obtain rfl:j=a.length:=by omega
  rw[zp,Qw,yh]at hd;rw[hd]at hO;have:=hO.freeze Z;simp[h1,h11,h12,Pb,f14];exact this
theorem mc:zf prog 14 (zg false [] (MK (fun a b=>.sl 2 ((Qw a b).map wc)) fun a b=>bU a/\bU b)):=
 YF (fn:=f14) y7 (qW func14) false [] _ fun args r h w S vs d=>by obtain⟨⟨a,b⟩,rfl,c,rfl⟩:=qd h;obtain⟨e,f,g⟩:=pD a b c.1 c.2;exact⟨_,e,d,zA (zi 2) (by decide),f,g⟩
end Go.Q
namespace Go.AM
variable{dr:Prop}
end Go.AM
namespace Go.Proofs
open Go.Shelf
end Go.Proofs
namespace Go.Q
theorem VO{α d:Type}{f:α->d}:∀{l:List α} {m:List d},m.Perm (l.map f)->∃l':List α,l'.Perm l/\m=l'.map f:=by
 have e:∀{m n:List d},m.Perm n->∀l:List α,n=l.map f->∃l':List α,l'.Perm l/\m=l'.map f:=by
  intro m n h
  induction h with
  |nil=>intro l c;exact⟨l,.refl _,c⟩
  |cons x _ o=>
   intro l c;cases l with
   |nil=>cases c
   |cons a l=>simp only[z6,zc]at c;obtain⟨l',g,i⟩:=o l c.2;exact⟨a::l',g.cons a,by rw[z6,c.1,i]⟩
  |swap x y r=>
   intro l c
   match l,c with
   |a::b::l,c=>simp only[z6,zc]at c;exact⟨b::a::l,.swap _ _ _,by rw[z6,z6,c.1,c.2.1,c.2.2]⟩
  |trans _ _ j k=>intro l c;obtain⟨p,g,i⟩:=k l c;obtain⟨l2,q,s⟩:=j p i;exact⟨l2,q.trans g,s⟩
 intro l m h;exact e h l rfl
theorem Hf{a b:List Sp}{k:Nat}(c:k<a.length)(d:k<b.length):decide (a.drop k=b.drop k)=(decide (a[k]=b[k])&&decide (a.drop (k+1)=b.drop (k+1))):=by rw[zd c,zd d,<-Bool.decide_and];congr 1;simp only[zc]
theorem binS(x y u v:Int):ZM prog .neq 59 (.agg [int x,int y]) (.agg [int u,int v])=some (qO (!(decide (x=u)&&decide (y=v)))):=by simp only[ZM,fl59,wq,qI,zL,Bool.and_true];rfl
theorem RI{a b:Sp}:decide (a=b)=(decide (a.1=b.1)&&decide (a.2=b.2)):=by simp[Prod.ext_iff]
theorem pE(a b:List Sp)(q:a.length<=zw):zt C0 f141 [.sl 2 (a.map wc),.sl 2 (b.map wc)]=some (qO (decide (a=b))):=by
 unfold zw at q;refine zl rfl ?_;by_cases j:a.length=b.length
 case neg=>
  have f:((a.length:Int) != (b.length:Int))=true:=by simp;omega
  have l:¬a=b:=fun e=>j (by rw[e])
  simp[f,l,f141]
 have f:((a.length:Int) != (b.length:Int))=false:=by simp[j]
 simp[f];refine zP (fun k U Y Z=>U 0=.sl 2 (a.map wc)/\U 1=.sl 2 (b.map wc)/\U 12=int a.length/\U 13=int k/\decide (a=b)=decide (a.drop k=b.drop k)) a.length
  ⟨by simp,by simp,by simp,by simp,by simp⟩ ?_
 rintro k U Y Z s ⟨m,n,g,h,i⟩;by_cases d:k<a.length
 ·have c:k<b.length:=by omega
  have r:=qz k;rw[Hf d c,RI]at i;by_cases o:a[k].1=b[k].1<;>by_cases p:a[k].2=b[k].2<;>simp only[o,p,fl,V5,Bool.and_true,Ej,Bool.and_false,Bool.false_and]at i
  ·simp[m,n,g,h,d,c,o,p,r,binS];exact⟨d,by simpa using i⟩
  all_goals simp[m,n,g,h,d,c,o,p,i,binS,f141]
 ·obtain rfl:k=a.length:=by omega
  rw[zp,j,zp]at i;simp[m,n,g,h,i,f141]
abbrev Rg:=Int×Int×Int
abbrev Q6(r:Rg):zb:=[int r.1,int r.2.1,int r.2.2]
theorem pF{a b:Rg}(h:Q6 a=Q6 b):a=b:=by simp only[zc,zs,O.v.injEq,Value.int.injEq,true_and]at h;exact Prod.ext h.1 (Prod.ext h.2.1 h.2.2)
theorem KR{a b:List Rg}(h:O.sl 3 (a.map Q6)=O.sl 3 (b.map Q6)):a=b:=by injection h with _ h;exact yF (fun _ _=>pF) h
def rgO(a:Int)(r:Rg):Bool:=(r.1 != a)||decide (r.2.1<=r.1)
def Ua(p:Option Int)(r:Rg):Bool:=match p with
 |none=>false
 |some q=>q==r.2.2
def Hg(n:Int):Int->Option Int->List Rg->Int
 |at_,_,[]=>if at_=100000 then 0 else 8
 |at_,p,r::l=>if vG r.2.2 0 (n-1)then(if rgO at_ r then 8 else if(100000:Int)<r.2.1 then 1 else if Ua p r then 7 else Hg n r.2.1 (some r.2.2) l)else 1
theorem Hh{l:List Rg}{k:Nat}(h:k<l.length)(n a:Int)(p:Option Int):Hg n a p (l.drop k)=if vG l[k].2.2 0 (n-1)then(if rgO a l[k]then 8 else if(100000:Int)<l[k].2.1 then 1 else if Ua p l[k]then 7 else Hg n l[k].2.1 (some l[k].2.2) (l.drop (k+1)))else 1:=by rw[zd h,Hg]
def ew(l:List Rg)(k:Nat):Option Int:=if k=0 then none else(l[k-1]?).map (·.2.2)
def yw(l:List Rg)(n:Int):Int:=if l.length=0 then 9 else if(200:Int)<l.length then 2 else Hg n 0 none l
theorem fV:zf prog 140 (zg false [] (F3 vG)):=
 yt (fn:=f140) y7 (qW func140) false [] _ fun args r h=>by obtain⟨a,b,c,rfl,rfl⟩:=cT h;exact⟨by simp[f140],_,zl rfl (by simp[f140,vG]),qa _⟩
noncomputable abbrev Cwf:Ctx:=zG prog [(140,zg false [] (F3 vG))]
theorem XW(l:List Rg)(n:Int)(N:1<=n/\n<=20):zt Cwf f87 [.sl 3 (l.map Q6),int n]=some (int (yw l n)):=by
 refine zl rfl ?_;have g:=wo (n-1);rw[yw];by_cases v:l.length=0
 ·have:l=[]:=qC.1 v;subst this;simp[f87]
 have q:¬l=[]:=fun h=>v (by rw[h];rfl)
 have D:((l.length:Int)==0)=false:=by simpa using q
 by_cases E:(200:Int)<l.length
 ·simp[D,v,q,E,f87]
 simp[D,v,q,E];refine zP (fun k U Y Z=>U 0=.sl 3 (l.map Q6)/\U 1=int n/\U 14=.sl 3 (l.map Q6)/\U 15=int l.length/\U 16=int k/\∃a:Int,U 5=int a/\Hg n 0 none l=Hg n a (ew l k) (l.drop k)) l.length
  ⟨by simp,by simp,by simp,by simp,by simp,0,by simp,by simp[ew]⟩ ?_
 rintro k U Y Z P ⟨i,m,d,e,f,a,o,b⟩;by_cases c:k<l.length
 ·have Q:=qz k;rw[Hh c]at b;cases p:vG l[k].2.2 0 (n-1)
  case false=>rw[p]at b;simp at b;simp[i,m,o,d,e,f,c,g,p,b,f87]
  simp only[p,qI]at b;have r:((l[k].1 != a)||decide (l[k].2.1<=l[k].1))=rgO a l[k]:=rfl;cases z:rgO a l[k]
  case true=>rw[z]at r b;simp only[qI]at b;simp[i,m,o,d,e,f,c,g,p,r,b,f87]
  rw[z]at r;simp only[z,zE,wE]at b;by_cases s:(100000:Int)<l[k].2.1
  ·rw[ze s]at b;simp[i,m,o,d,e,f,c,g,p,r,s,b,f87]
  rw[zj s]at b;have t:ew l (k+1)=some l[k].2.2:=by simp[ew,c]
  by_cases K:k=0
  ·subst K;simp only[ew,qI,Ua,zE,wE]at b;have L:=wo 1;simp[i,m,o,d,e,f,c,g,p,r,s,L];exact⟨c,by rw[b,t];simp⟩
  ·obtain⟨j,rfl⟩:∃j,k=j+1:=⟨k-1,by omega⟩;have A:j<l.length:=by omega
   have F:i6.wrap ((j:Int)+1-1)=(j:Int):=by rw[qE (by omega) (by omega)];omega
   have u:=wo (j:Int);have G:((j:Int)+1).toNat=j+1:=by omega
   have H:0<(j:Int)+1:=by omega
   have I:0<=(j:Int)+1:=by omega
   have J:(j:Int)+1<l.length:=by omega
   have M:=wo ((j:Int)+1+1);have B:ew l (j+1)=some l[j].2.2:=by simp[ew,A]
   have w:(l[j].2.2==l[j+1].2.2)=Ua (some l[j].2.2) l[j+1]:=rfl;rw[B]at b;cases x:Ua (some l[j].2.2) l[j+1]
   ·rw[x]at w;simp only[x,zE,wE]at b;simp[i,m,o,d,e,f,c,A,g,p,r,s,w,F,u,G,H,I,J,M];exact⟨by omega,by rw[b,t]⟩
   ·rw[x]at w;simp only[x,qI]at b;simp[i,m,o,d,e,f,c,A,g,p,r,s,w,F,u,G,H,I,J,b,f87]
 ·obtain rfl:k=l.length:=by omega
  rw[zp,Hg]at b;by_cases y:a=100000
  ·rw[ze y]at b;simp[i,m,o,d,e,f,y,b,f87]
  ·rw[zj y]at b;have C:(a != 100000)=true:=by simpa using y
   simp[i,m,o,d,e,f,C,b,f87]
noncomputable def Ub (out:List Rg->Int->O) (pre:List Rg->Int->Prop):zb->Option O:=zS (α:=List Rg×Int) (fun a=>[.sl 3 (a.1.map Q6),int a.2]) (fun a=>pre a.1 a.2) (fun a=>out a.1 a.2)
theorem ez(out:List Rg->Int->O)(pre:List Rg->Int->Prop)(l:List Rg)(n:Int)(Y:Hp)(Z:Nat)(h:pre l n):zg false [] (Ub out pre) [.sl 3 (l.map Q6),int n] Y Z=some (out l n,Y,Z):=
 Zc (l,n) _ _ rfl (fun a b e=>by obtain⟨c,d⟩:=a;obtain⟨f,g⟩:=b;simp only[zc,zs]at e;rw[KR e.1,zT e.2]) h (.inr rfl)
theorem QN:zf prog 87 (zg false [] (Ub (fun l n=>int (yw l n)) fun _ n=>1<=n/\n<=20)):=
 kL (qc (q:=[140]) mixed ⟨fV,fun _=>zr _ _,trivial⟩:AM.Good Cwf _) func87 false [] fun⟨l,n⟩ a=>⟨zA (zi 2) (by decide),_,XW l n a,qa _⟩
def ig(n:Int):Int->Int->Option Int->List Rg->Prop
 |lo,a,_,[]=>lo=a
 |lo,a,p,r::l=>r.1=lo/\r.1<r.2.1/\r.2.1<=a/\0<=r.2.2/\r.2.2<n/\p≠some r.2.2/\ig n r.2.1 a (some r.2.2) l
theorem ij:∀{n a:Int} {p:Option Int} {l:List Rg},Hg n a p l=0->ig n a 100000 p l
 |_,_,_,[],h=>by
  unfold Hg at h;split at h
  ·assumption
  ·cases h
 |n,a,p,r::l,h=>by
  unfold Hg at h;split at h
  case isFalse=>cases h
  rename_i b;split at h
  case isTrue=>cases h
  rename_i c;split at h
  case isTrue=>cases h
  rename_i e;split at h
  case isTrue=>cases h
  rename_i d;simp only[vG,zx,qG]at b;simp only[rgO,qR,zdg,ne_eq,qG,not_or,Decidable.not_not]at c;refine⟨c.1,by omega,by omega,b.1,by omega,?_,ij h⟩;rintro rfl;exact d (by simp[Ua])
theorem Q7{l:List Rg}{n:Int}(h:yw l n=0):ig n 0 100000 none l/\l.length<=200/\0<l.length:=by
 unfold yw at h;split at h
 ·cases h
 split at h
 ·cases h
 exact⟨ij h,by omega,by omega⟩
structure yq where
 name:List UInt8
 w5:List UInt8
 rest:Int
def yq.V(x:yq):zb:=[str x.name,str x.w5,int x.rest]
theorem bV{a b:yq}(h:a.V=b.V):a=b:=by cases a;cases b;simp only[yq.V,zc,zs]at h;rw[qv h.1,qv h.2.1,zT h.2.2]
structure Z5 where
 name:List UInt8
 w5:List UInt8
 buckets:Int
 zq:List (List UInt8)
def Z5.V(x:Z5):zb:=[str x.name,str x.w5,int x.buckets,.sl 1 (zZ x.zq)]
theorem ML{a b:Z5}(h:a.V=b.V):a=b:=by
 cases a;cases b;simp only[Z5.V,zc,zs]at h;obtain⟨d,e,f,c⟩:=h;injection c with _ c
 rw[qv d,qv e,zT f,jd c]
structure y0 where
 at_:Int
 yk:List Sp
def y0.V(x:y0):zb:=[int x.at_,.sl 2 (x.yk.map wc)]
theorem A5{a b:y0}(h:a.V=b.V):a=b:=by cases a;cases b;simp only[y0.V,zc,zs]at h;rw[zT h.1,xk h.2]
structure Xp where
 name:List UInt8
 yp:List UInt8
 flag:List UInt8
 cond:qT
 w5:List UInt8
 vy:List Rg
 zJ:List y0
def Xp.V(x:Xp):zb:=[str x.name,str x.yp,str x.flag]++x.cond.V++[str x.w5,.sl 3 (x.vy.map Q6),.sl 2 (x.zJ.map y0.V)]
theorem qL(x:Xp):x.V=[str x.name,str x.yp,str x.flag,int x.cond.kind,str x.cond.attr,int x.cond.op,.sl 5 (x.cond.kc.map qp.V),str x.cond.pat,str x.cond.name,.sl 7 (x.cond.args.map qT.V),str x.w5,.sl 3 (x.vy.map Q6),.sl 2 (x.zJ.map y0.V)]:=by unfold Xp.V;rw[wY];rfl
theorem KS{a b:Xp}(h:a.V=b.V):a=b:=by
 have e:a.cond.V=b.cond.V:=by rw[qL,qL]at h;simp only[zc,zs]at h;rw[wY,wY];simp only[zc,zs];exact⟨h.2.2.2.1,h.2.2.2.2.1,h.2.2.2.2.2.1,h.2.2.2.2.2.2.1,h.2.2.2.2.2.2.2.1,h.2.2.2.2.2.2.2.2.1,h.2.2.2.2.2.2.2.2.2.1⟩
 have c:=Jg e;rw[qL,qL]at h;simp only[zc,zs]at h;obtain⟨f,g,i,_,_,_,_,_,_,_,j,k,d⟩:=h;cases a;cases b;simp only at *;injection d with _ d
 rw[qv f,qv g,qv i,c,qv j,KR k,yF (fun _ _=>A5) d]
structure Bk where
 zq:List yq
 holds:List Z5
 qA:List Xp
def Bk.V(b:Bk):zb:=[.sl 3 (b.zq.map yq.V),.sl 4 (b.holds.map Z5.V),.sl 13 (b.qA.map Xp.V)]
theorem XX{a b:Bk}(h:a.V=b.V):a=b:=by
 cases a;cases b;simp only[Bk.V,zc,zs]at h;obtain⟨c,d,e⟩:=h;injection c with _ c
 injection d with _ d;injection e with _ e;rw[yF (fun _ _=>bV) c,yF (fun _ _=>ML) d,yF (fun _ _=>KS) e]
def yV{α:Type}(f:α->Nat)(l:List α):Nat:=(l.map f).sum
theorem jf{α:Type}{f:α->Nat}:∀{l:List α} {x:α},x∈l->f x<=yV f l
 |y::l,x,h=>by
  simp only[yV,z6,Jt];rcases zC.1 h with rfl|h
  ·omega
  ·have:=jf (f:=f) h;simp only[yV]at this;omega
theorem w9{α:Type}{f:α->Nat}(a:∀x,1<=f x):∀l:List α,l.length<=yV f l
 |[]=>by simp
 |y::l=>by have:=w9 a l;have:=a y;simp only[yV,z6,Jt,zU]at *;omega
def yq.cb(x:yq):Nat:=1+x.name.length+x.w5.length
def Z5.cb(x:Z5):Nat:=1+x.name.length+x.w5.length+yV (fun s=>1+s.length) x.zq
def y0.cb(x:y0):Nat:=1+x.yk.length
def Xp.cb(x:Xp):Nat:=x.name.length+x.yp.length+x.flag.length+x.cond.cb+x.w5.length+x.vy.length+yV y0.cb x.zJ
def Bk.cb(b:Bk):Nat:=yV yq.cb b.zq+yV Z5.cb b.holds+yV Xp.cb b.qA
theorem Yn(x:yq):1<=x.cb:=by unfold yq.cb;omega
theorem bW(x:Z5):1<=x.cb:=by unfold Z5.cb;omega
theorem VP(x:y0):1<=x.cb:=by unfold y0.cb;omega
theorem me(x:Xp):1<=x.cb:=by have:=Xx x.cond;unfold Xp.cb;omega
def jx(name a:za):Int:=if qK name=true then(if fC name a=true then 8 else 0)else 5
noncomputable def Dr (f:za->za->O):zb->Option O:=zS (α:=za×za) (fun a=>[str a.1,str a.2]) (fun a=>a.1.length<=zw) (fun a=>f a.1 a.2)
theorem JN(f:za->za->O)(a b:za)(Y:Hp)(Z:Nat)(h:a.length<=zw)(c:(f a b).flat=true):zg false [] (Dr f) [str a,str b] Y Z=some (f a b,Y,Z):=
 Zc (a,b) _ _ rfl s8 h (.inl c)
noncomputable abbrev Cnf:Ctx:=zG prog [(30,zg false [] (FS qK))]
theorem vQ:zf prog 83 (zg false [] (Dr fun a b=>int (jx a b))):=
 kL (zM mixed ⟨jK,trivial⟩:AM.Good Cnf _) func83 false [] fun⟨a,b⟩ d=>by
  have c:(Op.bytesLess a b||a==b)=fC a b:=rfl;refine⟨by simp[f83],_,zl rfl ?_,qa _⟩;simp only at d;cases e:qK a
  ·simp[d,e,jx,f83]
  ·cases f:fC a b
   ·simp[d,e,c,f,jx,f83]
   ·simp[d,e,c,f,jx,f83]
def pG(s:za):Bool:=vG s.length 1 40&&kM s
noncomputable abbrev Csl:Ctx:=zG prog [(25,zg false [] (F3 vG)),(29,zg false [] (FS kM))]
@[simp]theorem za0:jJ Csl 29:=yA (by rfl) (zr _ _)
theorem mf:zf prog 136 (zg false [] (FS pG)):=
 kL (qc (q:=[25,29]) mixed ⟨vK,fun _=>zr _ _,QG,fun _=>zr _ _,trivial⟩:AM.Good Csl _) func136 false [] fun l Y=>⟨by simp[f136],_,zl rfl (by simp[Y,pG,f136]),qa _⟩
def xH(n:Int):Bool:=vG n 0 4000000000
noncomputable abbrev Ctm:Ctx:=zG prog [(25,zg false [] (F3 vG))]
theorem ZW:zf prog 12 (zg false [] (oM xH)):=
 yt (fn:=f12) (zM mixed ⟨vK,trivial⟩:AM.Good Ctm _) (qW func12) false [] _ fun args r h=>by obtain⟨a,rfl,rfl⟩:=bO h;exact⟨by simp[f12],_,zl rfl (by simp[xH,f12]),qa _⟩
noncomputable def Hi:zb->Option O:=zS (α:=yq×za) (fun a=>[.agg a.1.V,str a.2]) (fun _=>True) (fun a=>int (wX a.1.name a.2))
theorem eA(x:yq)(s:za)(Y:Hp)(Z:Nat):zg false [] Hi [.agg x.V,str s] Y Z=some (int (wX x.name s),Y,Z):=
 Zc (x,s) _ _ (by simp[yq.V]) (fun a b e=>by obtain⟨c,d⟩:=a;obtain⟨f,g⟩:=b;simp only[zc,zs,O.agg.injEq]at e;rw[bV e.1,qv e.2]) trivial (.inl rfl)
noncomputable abbrev za1:Ctx:=zG prog [(41,zg false [] (Cy wX))]
theorem um:zf prog 138 (zg false [] Hi):=
 kL (zM mixed ⟨yd,trivial⟩:AM.Good za1 _) func138 false [] fun⟨x,s⟩ _=>⟨by simp[f138],_,zl rfl (by simp[f138,yq.V]),qa _⟩
noncomputable def RJ:zb->Option O:=zS (α:=List yq×za) (fun a=>[.sl 3 (a.1.map yq.V),str a.2,.fn (.func 138) [] []]) (fun a=>a.1.length<=zw) (fun a=>.q8 [int (kD (a.1.map yq.name) a.2).1,qO (kD (a.1.map yq.name) a.2).2])
theorem Dt(l:List yq)(s:za)(Y:Hp)(Z:Nat)(h:l.length<=zw):zg false [] RJ [.sl 3 (l.map yq.V),str s,.fn (.func 138) [] []] Y Z=some (.q8 [int (kD (l.map yq.name) s).1,qO (kD (l.map yq.name) s).2],Y,Z):=
 Zc (l,s) _ _ rfl (fun a b e=>by obtain⟨f,g⟩:=a;obtain⟨i,j⟩:=b;simp only[zc,zs]at e;obtain⟨c,d⟩:=e;injection c with _ c;rw[yF (fun _ _=>bV) c,qv d]) h (.inl rfl)
noncomputable abbrev CbsL:Ctx:=zG prog [(138,zg false [] Hi)]
theorem Hj(l:List yq)(s:za)(w:l.length<=zw):zt CbsL f137 [.sl 3 (l.map yq.V),str s,.fn (.func 138) [] []]=some (.q8 [int (kD (l.map yq.name) s).1,qO (kD (l.map yq.name) s).2]):=by
 refine zl rfl ?_;unfold zw at w;have h:(l.map yq.name).length=l.length:=by simp
 simp;refine jI (fun st=>st.U 0=.sl 3 (l.map yq.V)/\st.U 1=str s/\st.U 2=.fn (.func 138) [] []/\st.U 8=int l.length/\∃lo hi:Nat,lo<=hi/\hi<=l.length/\st.U 9=int lo/\st.U 10=int hi/\jg (kx (l.map yq.name) s) 0 (l.map yq.name).length=jg (kx (l.map yq.name) s) lo hi)
  (fun st=>(k7 (st.U 10)).toNat-(k7 (st.U 9)).toNat) ⟨by simp,by simp,by simp,by simp,0,l.length,by simp,by simp,by simp,by simp,by rw[h]⟩ ?_
 rintro⟨U,Y,Z⟩ ⟨i,j,k,n,lo,hi,y,t,o,d,f⟩;simp only at i j k n o d;by_cases b:lo<hi
 ·have a:=fun x Y Z=>eA x s Y Z
  have v:=wo ((lo:Int)+hi);have z:(lo+hi)/2<l.length:=by omega
  obtain⟨m,A⟩:∃m,m=(lo+hi)/2:=⟨_,rfl⟩;have g:i6.wrap ((IntKind.u64.wrap ((lo:Int)+hi)).fdiv (2 ^ min 1 IntKind.u64.bits))=(m:Int):=by
   have B:IntKind.u64.wrap ((lo:Int)+hi)=(lo:Int)+hi:=by rw[Qp];omega
   have C:(2 ^ min 1 IntKind.u64.bits:Int)=2:=by decide
   rw[B,C,jP _ (by omega),qE (by omega) (by omega)];omega
  have e:m<l.length:=by omega
  have D:=qz m;have u:kx (l.map yq.name) s m=decide (wX l[m].name s<0):=by simp[kx,e]
  rw[vt (lo:=lo) b,<-A,u]at f;have c:=a l[m];simp only[yq.V]at c;by_cases r:wX l[m].name s<0
  ·simp only[r,fl,qI]at f;simp[i,j,k,n,o,d,b,v,g,e,c,r,D,yq.V];exact⟨⟨m+1,hi,by omega,t,by omega,rfl,by rw[h]at f;exact f⟩,by omega⟩
  ·simp only[r,V5,zE,wE]at f;simp[i,j,k,n,o,d,b,v,g,e,c,r,yq.V];exact⟨⟨lo,m,by omega,by omega,rfl,rfl,by rw[h]at f;exact f⟩,by omega⟩
 ·have f:jg (kx (l.map yq.name) s) 0 (l.map yq.name).length=lo:=by rw[f,Zp (lo:=lo) b]
  have a:=fun x Y Z=>eA x s Y Z
  unfold kD;rw[f];by_cases p:lo<l.length
  ·have c:=a l[lo];simp only[yq.V]at c;simp[i,j,k,n,o,d,b,p,c,yq.V,f137,qU]
  ·have q:l[lo]?=none:=qS (by omega);simp[i,j,k,n,o,d,b,p,q,f137,qU]
theorem Du:zf prog 137 (zg false [] RJ):=
 kL (qc (q:=[138]) mixed ⟨um,fun _=>zr _ _,trivial⟩:AM.Good CbsL _) func137 false [] fun⟨l,s⟩ a=>⟨zA (zi 3) (by decide),_,Hj l s a,qa _⟩
noncomputable def Dv:zb->Option O:=zS (α:=List yq×za) (fun a=>[.sl 3 (a.1.map yq.V),str a.2]) (fun a=>a.1.length<=zw) (fun a=>.q8 [int (kD (a.1.map yq.name) a.2).1,qO (kD (a.1.map yq.name) a.2).2])
theorem JO(l:List yq)(s:za)(Y:Hp)(Z:Nat)(h:l.length<=zw):zg false [] Dv [.sl 3 (l.map yq.V),str s] Y Z=some (.q8 [int (kD (l.map yq.name) s).1,qO (kD (l.map yq.name) s).2],Y,Z):=
 Zc (l,s) _ _ rfl (fun a b e=>by obtain⟨f,g⟩:=a;obtain⟨i,j⟩:=b;simp only[zc,zs]at e;obtain⟨c,d⟩:=e;injection c with _ c;rw[yF (fun _ _=>bV) c,qv d]) h (.inl rfl)
noncomputable abbrev CofL:Ctx:=zG prog [(137,zg false [] RJ)]
theorem JP:zf prog 85 (zg false [] Dv):=
 kL (zM mixed ⟨Du,trivial⟩:AM.Good CofL _) func85 false [] fun⟨l,s⟩ a=>by
  have b:=fun Y Z=>Dt l s Y Z a
  exact⟨by simp[f85],_,zl rfl (by simp[b,qU,f85]),qa _⟩
noncomputable def Hk:zb->Option O:=zS (α:=Xp×za) (fun a=>[.agg a.1.V,str a.2]) (fun _=>True) (fun a=>int (wX a.1.name a.2))
theorem eB(x:Xp)(s:za)(Y:Hp)(Z:Nat):zg false [] Hk [.agg x.V,str s] Y Z=some (int (wX x.name s),Y,Z):=
 Zc (x,s) _ _ (by simp[qL]) (fun a b e=>by obtain⟨c,d⟩:=a;obtain⟨f,g⟩:=b;simp only[zc,zs,O.agg.injEq]at e;rw[KS e.1,qv e.2]) trivial (.inl rfl)
noncomputable abbrev za2:Ctx:=zG prog [(41,zg false [] (Cy wX))]
theorem uo:zf prog 44 (zg false [] Hk):=
 kL (zM mixed ⟨yd,trivial⟩:AM.Good za2 _) func44 false [] fun⟨x,s⟩ _=>⟨by simp[f44],_,zl rfl (by simp[f44,qL]),qa _⟩
noncomputable def RL:zb->Option O:=zS (α:=List Xp×za) (fun a=>[.sl 13 (a.1.map Xp.V),str a.2,.fn (.func 44) [] []]) (fun a=>a.1.length<=zw) (fun a=>.q8 [int (kD (a.1.map Xp.name) a.2).1,qO (kD (a.1.map Xp.name) a.2).2])
theorem Dw(l:List Xp)(s:za)(Y:Hp)(Z:Nat)(h:l.length<=zw):zg false [] RL [.sl 13 (l.map Xp.V),str s,.fn (.func 44) [] []] Y Z=some (.q8 [int (kD (l.map Xp.name) s).1,qO (kD (l.map Xp.name) s).2],Y,Z):=
 Zc (l,s) _ _ rfl (fun a b e=>by obtain⟨f,g⟩:=a;obtain⟨i,j⟩:=b;simp only[zc,zs]at e;obtain⟨c,d⟩:=e;injection c with _ c;rw[yF (fun _ _=>KS) c,qv d]) h (.inl rfl)
noncomputable abbrev CbsX:Ctx:=zG prog [(44,zg false [] Hk)]
theorem Hl(l:List Xp)(s:za)(w:l.length<=zw):zt CbsX f43 [.sl 13 (l.map Xp.V),str s,.fn (.func 44) [] []]=some (.q8 [int (kD (l.map Xp.name) s).1,qO (kD (l.map Xp.name) s).2]):=by
 refine zl rfl ?_;unfold zw at w;have h:(l.map Xp.name).length=l.length:=by simp
 simp;refine jI (fun st=>st.U 0=.sl 13 (l.map Xp.V)/\st.U 1=str s/\st.U 2=.fn (.func 44) [] []/\st.U 8=int l.length/\∃lo hi:Nat,lo<=hi/\hi<=l.length/\st.U 9=int lo/\st.U 10=int hi/\jg (kx (l.map Xp.name) s) 0 (l.map Xp.name).length=jg (kx (l.map Xp.name) s) lo hi)
  (fun st=>(k7 (st.U 10)).toNat-(k7 (st.U 9)).toNat) ⟨by simp,by simp,by simp,by simp,0,l.length,by simp,by simp,by simp,by simp,by rw[h]⟩ ?_
 rintro⟨U,Y,Z⟩ ⟨i,j,k,n,lo,hi,y,t,o,d,f⟩;simp only at i j k n o d;by_cases b:lo<hi
 ·have a:=fun x Y Z=>eB x s Y Z
  have v:=wo ((lo:Int)+hi);have z:(lo+hi)/2<l.length:=by omega
  obtain⟨m,A⟩:∃m,m=(lo+hi)/2:=⟨_,rfl⟩;have g:i6.wrap ((IntKind.u64.wrap ((lo:Int)+hi)).fdiv (2 ^ min 1 IntKind.u64.bits))=(m:Int):=by
   have B:IntKind.u64.wrap ((lo:Int)+hi)=(lo:Int)+hi:=by rw[Qp];omega
   have C:(2 ^ min 1 IntKind.u64.bits:Int)=2:=by decide
   rw[B,C,jP _ (by omega),qE (by omega) (by omega)];omega
  have e:m<l.length:=by omega
  have D:=qz m;have u:kx (l.map Xp.name) s m=decide (wX l[m].name s<0):=by simp[kx,e]
  rw[vt (lo:=lo) b,<-A,u]at f;have c:=a l[m];simp only[qL]at c;by_cases r:wX l[m].name s<0
  ·simp only[r,fl,qI]at f;simp[i,j,k,n,o,d,b,v,g,e,c,r,D,qL];exact⟨⟨m+1,hi,by omega,t,by omega,rfl,by rw[h]at f;exact f⟩,by omega⟩
  ·simp only[r,V5,zE,wE]at f;simp[i,j,k,n,o,d,b,v,g,e,c,r,qL];exact⟨⟨lo,m,by omega,by omega,rfl,rfl,by rw[h]at f;exact f⟩,by omega⟩
 ·have f:jg (kx (l.map Xp.name) s) 0 (l.map Xp.name).length=lo:=by rw[f,Zp (lo:=lo) b]
  have a:=fun x Y Z=>eB x s Y Z
  unfold kD;rw[f];by_cases p:lo<l.length
  ·have c:=a l[lo];simp only[qL]at c;simp[i,j,k,n,o,d,b,p,c,qL,f43,qU]
  ·have q:l[lo]?=none:=qS (by omega);simp[i,j,k,n,o,d,b,p,q,f43,qU]
theorem Dx:zf prog 43 (zg false [] RL):=
 kL (qc (q:=[44]) mixed ⟨uo,fun _=>zr _ _,trivial⟩:AM.Good CbsX _) func43 false [] fun⟨l,s⟩ a=>⟨zA (zi 3) (by decide),_,Hl l s a,qa _⟩
noncomputable def RM:zb->Option O:=zS (α:=List Xp×za) (fun a=>[.sl 13 (a.1.map Xp.V),str a.2]) (fun a=>a.1.length<=zw) (fun a=>.q8 [int (kD (a.1.map Xp.name) a.2).1,qO (kD (a.1.map Xp.name) a.2).2])
theorem Dy(l:List Xp)(s:za)(Y:Hp)(Z:Nat)(h:l.length<=zw):zg false [] RM [.sl 13 (l.map Xp.V),str s] Y Z=some (.q8 [int (kD (l.map Xp.name) s).1,qO (kD (l.map Xp.name) s).2],Y,Z):=
 Zc (l,s) _ _ rfl (fun a b e=>by obtain⟨f,g⟩:=a;obtain⟨i,j⟩:=b;simp only[zc,zs]at e;obtain⟨c,d⟩:=e;injection c with _ c;rw[yF (fun _ _=>KS) c,qv d]) h (.inl rfl)
noncomputable abbrev CofX:Ctx:=zG prog [(43,zg false [] RL)]
theorem Dz:zf prog 24 (zg false [] RM):=
 kL (zM mixed ⟨Dx,trivial⟩:AM.Good CofX _) func24 false [] fun⟨l,s⟩ a=>by
  have b:=fun Y Z=>Dw l s Y Z a
  exact⟨by simp[f24],_,zl rfl (by simp[b,qU,f24]),qa _⟩
def eC(p:Option Int)(x:Int):Bool:=match p with
 |none=>false
 |some q=>decide (x<=q)
def uq:Option Int->List Sp->List y0->Int
 |_,_,[]=>0
 |p,b,x::l=>if xH x.at_=true then(if eC p x.at_=true then 8 else if y9 x.yk=0 then(if x.yk=b then 7 else uq (some x.at_) x.yk l)else y9 x.yk)else 1
def yI(l:List y0):Int:=if(50:Int)<l.length then 2 else uq none [] l
def aF(l:List y0)(k:Nat):Option Int:=if k=0 then none else(l[k-1]?).map (·.at_)
theorem fW:zf prog 141 (zg false [2,2] (MK (fun a b=>qO (decide (a=b))) fun a _=>a.length<=zw)):=
 kL y7 func141 false [2,2] fun⟨a,b⟩ c=>⟨zA (zi 2) (by decide),_,pE a b c,qa _⟩
theorem Hm(a b:List Sp)(v:O)(Y:Hp)(Z:Nat)(h:a.length<=zw)(c:v=.sl 2 (b.map wc)\/(v=.nil/\b=[])):zg false [2,2] (MK (fun a b=>qO (decide (a=b))) fun a _=>a.length<=zw) [.sl 2 (a.map wc),v] Y Z=some (qO (decide (a=b)),Y,Z):=by
 have hs:MK (fun a b=>qO (decide (a=b))) (fun a _=>a.length<=zw) [.sl 2 (a.map wc),.sl 2 (b.map wc)]=some (qO (decide (a=b))):=
  qx (V:=fun a:List Sp×List Sp=>[O.sl 2 (a.1.map wc),.sl 2 (a.2.map wc)]) (a:=(a,b)) (fun a b e=>by obtain⟨d,f⟩:=a;obtain⟨g,i⟩:=b;simp only[zc,zs]at e;rw[xk e.1,xk e.2]) h
 rcases c with rfl|⟨rfl,rfl⟩
 ·exact wR rfl hs (.inl rfl)
 ·exact wR rfl hs (.inl rfl)
noncomputable abbrev Cph:Ctx:=zG prog [(12,zg false [] (oM xH)),(21,zg false [] (FP (fun l=>int (y9 l)) fun _=>True)),(141,zg false [2,2] (MK (fun a b=>qO (decide (a=b))) fun a _=>a.length<=zw))]
theorem RN:Gd Cph:=zM mixed ⟨ZW,WA,fW,trivial⟩
noncomputable def FPh (out:List y0->O):zb->Option O:=zS (α:=List y0) (fun l=>[.sl 2 (l.map y0.V)]) (fun l=>yV y0.cb l<=zw) out
theorem pH{a b:List y0}(h:O.sl 2 (a.map y0.V)=O.sl 2 (b.map y0.V)):a=b:=by injection h with _ h;exact yF (fun _ _=>A5) h
theorem pI(out:List y0->O)(l:List y0)(Y:Hp)(Z:Nat)(h:yV y0.cb l<=zw):zg false [] (FPh out) [.sl 2 (l.map y0.V)] Y Z=some (out l,Y,Z):=
 Zc l _ _ rfl (fun a b e=>by simp only[zc,zs]at e;exact pH e) h (.inr rfl)
theorem pJ(l:List y0)(h:yV y0.cb l<=zw):zt Cph f88 [.sl 2 (l.map y0.V)]=some (int (yI l)):=by
 have F:=w9 VP l;unfold zw at h;refine zl rfl ?_;by_cases q:(50:Int)<l.length
 ·have E:yI l=2:=by unfold yI;rw[ze q]
  simp[q,E,f88]
 have E:yI l=uq none [] l:=by unfold yI;rw[zj q]
 rw[E];simp[q];refine zP (fun k U Y Z=>U 0=.sl 2 (l.map y0.V)/\U 10=.sl 2 (l.map y0.V)/\U 11=int l.length/\U 12=int k/\∃b,(U 3=.sl 2 (b.map wc)\/(U 3=.nil/\b=[]))/\uq none [] l=uq (aF l k) b (l.drop k)) l.length
  ⟨by simp,by simp,by simp,by simp,[],.inr ⟨by simp,rfl⟩,by simp[aF]⟩ ?_
 rintro k U Y Z N ⟨r,d,e,g,b,G,a⟩;by_cases c:k<l.length
 ·have H:=jf (f:=y0.cb) (zm c);obtain⟨x,n⟩:=kC (l[k]);have w:aF l (k+1)=some x.at_:=by simp[aF,c,n]
  rw[n]at H;have I:x.cb=1+x.yk.length:=rfl;rw[zd c,n]at a;simp only[uq]at a;have J:∀h:k<(l.map y0.V).length,(l.map y0.V)[k]=x.V:=fun h=>by simp[n]
  have m:=fun Y Z=>l9 (fun l=>int (y9 l)) (fun _=>True) x.yk Y Z trivial
  have i:=fun Y Z=>Hm x.yk b (U 3) Y Z (by unfold zw;omega) G
  have K:=qz k;cases p:xH x.at_
  case false=>rw[p,zj (by simp)]at a;simp[r,d,e,g,c,n,y0.V,p,a,f88]
  rw[p,ze rfl]at a;have step:∀(Y:Hp) (Z:Nat) (o:eC (aF l k) x.at_=false),uq none [] l=if y9 x.yk=0 then(if x.yk=b then 7 else uq (some x.at_) x.yk (l.drop (k+1)))else y9 x.yk:=fun _ _ o=>by rw[o,zj (by simp)]at a;exact a
  by_cases L:k=0
  ·subst L;have a:=step Y Z rfl;by_cases hs:y9 x.yk=0
   case neg=>rw[zj hs]at a;have u:=xE hs;simp[r,d,e,g,c,n,y0.V,p,m,u,a,f88]
   rw[ze hs]at a;by_cases s:x.yk=b
   ·rw[ze s]at a;rw[Zv s]at i;simp[r,d,e,g,c,n,y0.V,p,m,hs,i,a,f88]
   ·rw[zj s]at a;rw[Qo s]at i;simp[r,d,e,g,c,n,y0.V,p,m,hs,i,K];exact⟨by omega,x.yk,rfl,by rw[a,show aF l 1=some x.at_ from w];simp⟩
  ·obtain⟨j,rfl⟩:∃j,k=j+1:=⟨k-1,by omega⟩;have y:j<l.length:=by omega
   have z:i6.wrap ((j:Int)+1-1)=(j:Int):=by rw[qE (by omega) (by omega)];omega
   have t:=wo (j:Int);have M:=wo ((j:Int)+1+1);have A:((j:Int)+1).toNat=j+1:=by omega
   have B:0<(j:Int)+1:=by omega
   have C:0<=(j:Int)+1:=by omega
   have D:(j:Int)+1<l.length:=by omega
   have o:eC (aF l (j+1)) x.at_=decide (x.at_<=l[j].at_):=by simp[aF,y,eC]
   by_cases v:x.at_<=l[j].at_
   ·rw[o,ze (by simpa using v)]at a;simp[r,d,e,g,c,y,n,y0.V,p,z,t,A,B,C,D,v,a,f88]
   have a:=step Y Z (by rw[o];simpa using v);by_cases hs:y9 x.yk=0
   case neg=>rw[zj hs]at a;have u:=xE hs;simp[r,d,e,g,c,y,n,y0.V,p,z,t,A,B,C,D,v,m,u,a,f88]
   rw[ze hs]at a;by_cases s:x.yk=b
   ·rw[ze s]at a;rw[Zv s]at i;simp[r,d,e,g,c,y,n,y0.V,p,z,t,A,B,C,D,v,m,hs,i,a,f88]
   ·rw[zj s]at a;rw[Qo s]at i;simp[r,d,e,g,c,y,n,y0.V,p,z,t,M,A,B,C,D,v,m,hs,i];exact⟨by omega,x.yk,rfl,by rw[a,w]⟩
 ·obtain rfl:k=l.length:=by omega
  rw[zp]at a;simp only[uq]at a;simp[r,d,e,g,a,f88]
theorem VQ:zf prog 88 (zg false [] (FPh fun l=>int (yI l))):=
 kL RN func88 false [] fun l a=>⟨by simp[f88],_,pJ l a,qa _⟩
def KT(l:List y0)(i:Nat):Int:=match l[i+1]? with
 |some p=>p.at_
 |none=>1125899906842624
noncomputable def RO (f:List y0->Nat->O):zb->Option O:=zS (α:=List y0×Nat) (fun a=>[.sl 2 (a.1.map y0.V),int a.2]) (fun a=>a.1.length<=zw/\a.2<=zw) (fun a=>f a.1 a.2)
theorem ik(f:List y0->Nat->O)(l:List y0)(i:Nat)(Y:Hp)(Z:Nat)(h:l.length<=zw/\i<=zw):zg false [] (RO f) [.sl 2 (l.map y0.V),int i] Y Z=some (f l i,Y,Z):=
 Zc (l,i) _ _ rfl (fun a b e=>by obtain⟨g,c⟩:=a;obtain⟨j,d⟩:=b;simp only[zc,zs]at e;have:=zT e.2;rw[pH e.1,show c=d by omega]) h (.inr rfl)
theorem DA:zf prog 143 (zg false [] (RO fun l i=>int (KT l i))):=
 kL y7 func143 false [] fun⟨l,i⟩ ⟨d,e⟩=>by
  unfold zw at d e;simp only at d e;refine⟨by simp[f143],_,zl rfl ?_,qa _⟩;have f:=qz i;by_cases b:i+1<l.length
  ·have a:(i:Int)+1<l.length:=by omega
   have g:((i:Int)+1).toNat=i+1:=by omega
   have h:0<=(i:Int)+1:=by omega
   simp[f,b,a,g,h,KT,y0.V,f143]
  ·have a:¬(i:Int)+1<l.length:=by omega
   have c:l[i+1]?=none:=qS (by omega);simp[f,a,KT,c,f143]
def kN:List Sp->List Sp->Bool
 |a::l,b::m=>if a.2<=b.1 then kN l (b::m)else if b.2<=a.1 then kN (a::l) m else true
 |_,_=>false
termination_by a b=>a.length+b.length
theorem ur{a b:List Sp}{i k:Nat}(c:i<a.length)(d:k<b.length):kN (a.drop i) (b.drop k)=if a[i].2<=b[k].1 then kN (a.drop (i+1)) (b.drop k)else if b[k].2<=a[i].1 then kN (a.drop i) (b.drop (k+1))else true:=by rw[zd c,zd d,kN]
theorem pK(b:List Sp):kN [] b=false:=by unfold kN;rfl
theorem pL(a:List Sp):kN a []=false:=by cases a<;>(unfold kN;rfl)
theorem uu(a b:List Sp)(n:a.length<=zw)(o:b.length<=zw):zt C0 f144 [.sl 2 (a.map wc),.sl 2 (b.map wc)]=some (qO (kN a b)):=by
 unfold zw at n o;refine zl rfl ?_;simp;refine jI (fun st=>st.U 0=.sl 2 (a.map wc)/\st.U 1=.sl 2 (b.map wc)/\∃i k:Nat,st.U 5=int i/\st.U 6=int k/\i<=a.length/\k<=b.length/\kN a b=kN (a.drop i) (b.drop k))
  (fun st=>a.length+b.length-(k7 (st.U 5)).toNat-(k7 (st.U 6)).toNat) ⟨by simp,by simp,0,0,by simp,by simp,by simp,by simp,by simp⟩ ?_
 rintro⟨U,Y,Z⟩ ⟨f,g,i,k,h,j,p,q,c⟩;simp only at f g h j;by_cases d:i<a.length
 ·by_cases e:k<b.length
  ·rw[ur d e]at c;have r:=qz i;have s:=qz k;by_cases l:a[i].2<=b[k].1
   ·rw[ze l]at c;simp[f,g,h,j,d,e,l,r];exact⟨⟨i+1,by omega,k,rfl,by omega,q,c⟩,by omega⟩
   ·rw[zj l]at c;by_cases m:b[k].2<=a[i].1
    ·rw[ze m]at c;simp[f,g,h,j,d,e,l,m,s];exact⟨⟨i,rfl,k+1,by omega,p,by omega,c⟩,by omega⟩
    ·rw[zj m]at c;simp[f,g,h,j,d,e,l,m,c,f144]
  ·obtain rfl:k=b.length:=by omega
   rw[zp,pL]at c;simp[f,g,h,j,d,c,f144]
 ·obtain rfl:i=a.length:=by omega
  rw[zp,pK]at c;simp[f,g,h,j,c,f144]
theorem pM:zf prog 144 (zg false [] (MK (fun a b=>qO (kN a b)) fun a b=>a.length<=zw/\b.length<=zw)):=
 kL y7 func144 false [] fun⟨a,b⟩ c=>⟨by simp[f144],_,uu a b c.1 c.2,qa _⟩
def Hn(a b:List y0)(i k:Nat)(p q:y0)(c:Int):Bool:=(decide (p.at_<=q.at_)&&decide (q.at_<KT a i+c))||(decide (q.at_<=p.at_)&&decide (p.at_<KT b k+c))
def MM(a b:List y0)(i k:Nat)(p q:y0)(c:Int):Bool:=Hn a b i k p q c&&kN p.yk q.yk
def Jn(a b:List y0)(i:Nat)(p:y0)(c:Int):Nat->List y0->Bool
 |_,[]=>false
 |k,q::l=>MM a b i k p q c||Jn a b i p c (k+1) l
def Yo(a b:List y0)(c:Int):Nat->List y0->Bool
 |_,[]=>false
 |i,p::l=>Jn a b i p c 0 b||Yo a b c (i+1) l
def Jo(a b:Xp)(c:Int):Bool:=Yo a.zJ b.zJ c 0 a.zJ
def bX(l:List y0):Prop:=∀p∈l,0<=p.at_/\p.at_<=4000000000
theorem il{l:List y0}(h:bX l)(i:Nat):0<=KT l i/\KT l i<=1125899906842624:=by
 unfold KT;split
 ·rename_i p Y;have:=h p (zD Y);omega
 ·omega
def Xp.Ep(x:Xp):Prop:=bX x.zJ/\x.cb<=zw
noncomputable def uv:zb->Option O:=zS (α:=Xp×Xp×Int) (fun a=>[.agg a.1.V,.agg a.2.1.V,int a.2.2]) (fun a=>a.1.Ep/\a.2.1.Ep/\0<=a.2.2/\a.2.2<=100000000) (fun a=>qO (Jo a.1 a.2.1 a.2.2))
theorem im(Y:Hp)(x:Xp):qe Y (.agg x.V)=some (.agg x.V,Y):=by rw[qL];simp
theorem Ho(x:Xp):O.noOwn (.agg x.V)=true:=by rw[qL];simp
theorem pN(a b:Xp)(c:Int)(Y:Hp)(Z:Nat)(h:a.Ep/\b.Ep/\0<=c/\c<=100000000):zg false [] uv [.agg a.V,.agg b.V,int c] Y Z=some (qO (Jo a b c),Y,Z):=
 Zc (a,b,c) _ _ (by simp only[zy,im];rfl) (fun x y e=>by obtain⟨d,f,g⟩:=x;obtain⟨i,j,k⟩:=y;simp only[zc,zs,O.agg.injEq]at e;rw[KS e.1,KS e.2.1,zT e.2.2]) h (.inl rfl)
noncomputable abbrev MN:Ctx:=zG prog [(143,zg false [] (RO fun l i=>int (KT l i))),(144,zg false [] (MK (fun a b=>qO (kN a b)) fun a b=>a.length<=zw/\b.length<=zw))]
theorem MO:AM.Good MN (fun g=>[143,144].contains g):=qc mixed ⟨DA,fun _=>zr _ _,pM,fun _=>zr _ _,trivial⟩
@[simp]theorem Uc:jJ MN 143:=yA (by rfl) (zr _ _)
@[simp]theorem Ud:jJ MN 144:=yA (by rfl) (zr _ _)
theorem pO{a b:List y0}{c:Int}{i:Nat}{l:List y0}(h:i<l.length):Yo a b c i (l.drop i)=(Jn a b i l[i] c 0 b||Yo a b c (i+1) (l.drop (i+1))):=by rw[zd h,Yo]
theorem pP{a b:List y0}{c:Int}{i k:Nat}{p:y0}{l:List y0}(h:k<l.length):Jn a b i p c k (l.drop k)=(MM a b i k p l[k] c||Jn a b i p c (k+1) (l.drop (k+1))):=by rw[zd h,Jn]
theorem uw(a b:Xp)(rest:Int)(ha:a.Ep)(hb:b.Ep)(hr:0<=rest/\rest<=100000000):zt MN f91 [.agg a.V,.agg b.V,int rest]=some (qO (Jo a b rest)):=by
 obtain⟨A,I⟩:=ha;obtain⟨B,J⟩:=hb;have hla:=w9 VP a.zJ;have hlb:=w9 VP b.zJ;have xca:a.cb=a.name.length+a.yp.length+a.flag.length+a.cond.cb+a.w5.length+a.vy.length+yV y0.cb a.zJ:=rfl;have xcb:b.cb=b.name.length+b.yp.length+b.flag.length+b.cond.cb+b.w5.length+b.vy.length+yV y0.cb b.zJ:=rfl;unfold zw at I J;refine zl rfl ?_;simp[qL];have C:Jo a b rest=Yo a.zJ b.zJ rest 0 a.zJ:=rfl;refine zP (fun i U Y Z=>U 2=int rest/\U 3=.ref 0 0 0/\U 4=.ref 1 0 0/\U 13=.sl 2 (a.zJ.map y0.V)/\U 14=int a.zJ.length/\U 15=int i/\2<=Z/\Y 0=some ⟨70,13,false,[a.V]⟩/\Y 1=some ⟨70,13,false,[b.V]⟩/\Jo a b rest=Yo a.zJ b.zJ rest i (a.zJ.drop i)) a.zJ.length
  ⟨by simp,by simp,by simp,by simp,by simp,by simp,by simp,by simp[qL],by simp[qL],by rw[C];simp⟩ ?_
 rintro i U Y Z hi ⟨r,s,t,c,d,e,K,u,v,h⟩;by_cases n:i<a.zJ.length
 ·obtain⟨p,o⟩:=kC (a.zJ[i]);have hpm:=A p (by rw[<-o];exact zm n);have hsp:=jf (f:=y0.cb) (show p∈a.zJ by rw[<-o];exact zm n);have hpc:p.cb=1+p.yk.length:=rfl;rw[pO n,o]at h;have L:=qz i;have D:¬0=Z:=by omega
  have n1:¬1=Z:=by omega
  simp[r,s,t,c,d,e,n,o,y0.V,u,v,D,n1,qL];obtain⟨P,R⟩:=kC Z;rw[R];have hea:=il A i;refine zP (fun k U Y Z=>U 2=int rest/\U 3=.ref 0 0 0/\U 4=.ref 1 0 0/\U 13=.sl 2 (a.zJ.map y0.V)/\U 14=int a.zJ.length/\U 15=int i/\U 7=int i/\U 8=.ref P 0 0/\U 21=.sl 2 (b.zJ.map y0.V)/\U 22=int b.zJ.length/\U 23=int k/\2<=P/\P<Z /\
    Y 0=some ⟨70,13,false,[a.V]⟩/\Y 1=some ⟨70,13,false,[b.V]⟩/\Y P=some ⟨73,2,false,[p.V]⟩/\Jo a b rest=(Jn a.zJ b.zJ i p rest k (b.zJ.drop k)||Yo a.zJ b.zJ rest (i+1) (a.zJ.drop (i+1)))) b.zJ.length
   ⟨by simp[r],by simp[s],by simp[t],by simp[c],by simp[d],by simp[e],by simp,by simp,by simp,by simp,by simp,by omega,(by show P<P+1;omega),by simp[u,show¬0=P by omega],by simp[v,show¬1=P by omega],by simp[y0.V],by simpa using h⟩ ?_
  clear r s t c d e K u v D n1 R hi U Y Z;rintro k U Y Z hk ⟨r,s,t,c,d,e,S,T,x,y,z,M,Uq,u,v,N,h⟩;by_cases g:k<b.zJ.length
  ·obtain⟨q,j⟩:=kC (b.zJ[k]);have hqm:=B q (by rw[<-j];exact zm g);have hsq:=jf (f:=y0.cb) (show q∈b.zJ by rw[<-j];exact zm g);have hqc:q.cb=1+q.yk.length:=rfl;rw[pP g,j]at h;have Q:=qz k;have heb:=il B k;have W:=wo (KT a.zJ i+rest);have X:=wo (KT b.zJ k+rest);have E:=fun Y Z=>ik (fun l i=>int (KT l i)) a.zJ i Y Z ⟨by unfold zw;omega,by unfold zw;omega⟩
   have F:=fun Y Z=>ik (fun l i=>int (KT l i)) b.zJ k Y Z ⟨by unfold zw;omega,by unfold zw;omega⟩
   have G:=fun Y Z=>pC (fun a b=>qO (kN a b)) (fun a b=>a.length<=zw/\b.length<=zw) p.yk q.yk Y Z ⟨by unfold zw;omega,by unfold zw;omega⟩
   have D:¬0=Z:=by omega
   have n1:¬1=Z:=by omega
   have nP:¬P=Z:=by omega
   have m:((decide (p.at_<=q.at_)&&decide (q.at_<KT a.zJ i+rest))||(decide (q.at_<=p.at_)&&decide (p.at_<KT b.zJ k+rest)))=Hn a.zJ b.zJ i k p q rest:=rfl;have w:(Hn a.zJ b.zJ i k p q rest&&kN p.yk q.yk)=MM a.zJ b.zJ i k p q rest:=rfl;rw[y0.V]at N;rw[qL]at u v;cases H:MM a.zJ b.zJ i k p q rest
   ·rw[H]at h;simp[r,s,t,S,T,c,d,e,x,y,z,g,j,y0.V,u,v,N,D,n1,nP,E,F,G,W,X,m,w,H,Q];exact⟨by omega,M,by omega,(qL a).symm,(qL b).symm,by rw[h];rfl⟩
   ·rw[H]at h;simp[r,s,t,S,T,c,d,e,x,y,z,g,j,y0.V,u,v,N,D,n1,nP,E,F,G,W,X,m,w,H,h,f91]
  ·obtain rfl:k=b.zJ.length:=by omega
   rw[zp]at h;simp only[Jn,Bool.false_or]at h;simp[r,s,t,c,d,e,x,y,z,L];exact⟨by omega,by omega,by rw[<-qL];exact u,by rw[<-qL];exact v,h⟩
 ·obtain rfl:i=a.zJ.length:=by omega
  rw[zp]at h;simp only[Yo]at h;simp[r,s,t,c,d,e,h,f91]
theorem pQ:zf prog 91 (zg false [] uv):=
 kL MO func91 false [] fun⟨a,b,c⟩ ⟨d,e,f⟩=>⟨by simp[f91],_,uw a b c d e f,qa _⟩
end Go.Q
namespace Go.AM
section
variable(C:Ctx)(ρ:Operand->Option O)(Y:Hp)(Z:Nat)
@[simp]theorem Ue(t:TypeId)(x i:Operand)(a:Bool):zF C ρ Y Z (.lookup t x i a)=(do let p <-ρ x;let q <-ρ i;let r <-jA C.P Y t p q a;some (r,Y,Z)):=by simp only[zF];cases ρ x<;>cases ρ i<;>(try rfl);simp;cases jA C.P Y t _ _ a<;>rfl
@[simp]theorem MP(t:TypeId)(m k x:Operand):zF C ρ Y Z (.mapUpdate t m k x)=(do let p <-ρ m;let q <-ρ k;let y <-ρ x;let h <-kd C.P Y t p q y;some (.q8 [],h,Z)):=by simp only[zF];cases ρ m<;>cases ρ k<;>cases ρ x<;>(try rfl);simp;cases kd C.P Y t _ _ _<;>rfl
@[simp]theorem RQ(t:TypeId):zF C ρ Y Z (.makeMap t none)=(do let _ <-Wd C.P t;some (.mp Z,ql Y Z (some ⟨t,0,false,[]⟩),Z+1)):=by simp only[zF];cases Wd C.P t<;>rfl
end
end Go.AM
namespace Go.Q
@[simp]theorem za3(U:Nat->O):AM.get U (.const (.pointer none))=some (.v (.pointer none)):=rfl
def bt(l:List za):List zb:=l.map fun s=>[str s,qO true]
def jE(l:List za):jV:=⟨110,0,false,bt l⟩
theorem XY(s:za):∀(l:List za) (i:Nat),(s ∉ l->jt (.string ⟨s.toArray⟩) (bt l) i=some none)/\(s∈l->∃j,jt (.string ⟨s.toArray⟩) (bt l) i=some (some (j,qO true)))
 |[],i=>⟨fun _=>rfl,fun h=>by simp at h⟩
 |x::l,i=>by
  obtain⟨c,d⟩:=XY s l (i+1);by_cases a:s=x
  ·refine⟨fun h=>absurd (by simp[a]) h,fun _=>⟨i,?_⟩⟩;subst a;simp[bt,jt,jz]
  ·have f:jz (.string ⟨s.toArray⟩) (.string ⟨x.toArray⟩)=some false:=by simp only[jz];congr 1;rw[yC];intro e;exact a (by simpa[Z4]using e)
   have b:jt (.string ⟨s.toArray⟩) (bt (x::l)) i=jt (.string ⟨s.toArray⟩) (bt l) (i+1):=by simp only[bt,z6,jt,f]
   refine⟨fun h=>by rw[b];exact c fun g=>h (WH _ g),fun h=>?_⟩;rcases zC.1 h with h|h
   ·exact absurd h a
   ·rw[b];exact d h
@[simp]theorem Uf:Wd prog 110=some (none,4):=by kernel_rfl
@[simp]theorem RR:YP prog 4=some (qO false):=by kernel_rfl
theorem eD{Y:Hp}{id:Nat}{l:List za}(s:za)(h:Y id=some (jE l)):jA prog Y 110 (.mp id) (str s) false=some (qO (decide (s∈l))):=by
 obtain⟨b,c⟩:=XY s l 0;by_cases a:s∈l
 ·obtain⟨j,d⟩:=c a;simp[jA,J3,h,jE,xG,d,a]
 ·simp[jA,J3,h,jE,xG,b a,a]
theorem A6{Y:Hp}{id:Nat}{l:List za}(s:za)(h:Y id=some (jE l))(hs:s ∉ l):kd prog Y 110 (.mp id) (str s) (qO true)=some (ql Y id (some (jE (l++[s])))):=by obtain⟨a,b⟩:=XY s l 0;simp[kd,h,jE,xG,a hs];simp[bt]
def xa(b:Bk)(m g:Nat)(a:Bool):jV:=⟨116,6,false,[b.V++[.mp m,.mp g,qO a]]⟩
theorem jn(b:Bk)(m g:Nat)(a:Bool):xa b m g a=⟨116,6,false,[[.sl 3 (b.zq.map yq.V),.sl 4 (b.holds.map Z5.V),.sl 13 (b.qA.map Xp.V),.mp m,.mp g,qO a]]⟩:=rfl
def vA(l:List za)(s:za):Int:=if pG s=true then(if s∈l then 7 else 0)else 3
def j9(l:List za)(s:za):List za:=if vA l s=0 then l++[s]else l
noncomputable abbrev ux:Ctx:=zG prog [(136,zg false [] (FS pG))]
theorem MQ:Gd ux:=zM mixed ⟨mf,trivial⟩
theorem Yp:zf prog 84 (qq ux f84):=w8 MQ func84
theorem VR(b:Bk)(l:List za)(s:za)(hs:s.length<=zw)(i:Bool)(Y:Hp)(Z id m g:Nat)(j:Y id=some (xa b m g i))(f:Y m=some (jE l)) :
  qq ux f84 [.ref id 0 0,str s] Y Z=some (int (vA l s),ql Y m (some (jE (j9 l s))),Z):=by
 unfold qq;rw[ze (by simp[f84])];refine wx rfl ?_;rw[jn]at j;have h:=eD s f;cases c:pG s
 ·have a:vA l s=3:=by simp[vA,c]
  have d:ql Y m (some (jE (j9 l s)))=Y:=Fj _ _ _ (by rw[j9,a];exact f);simp[hs,c,a,d,f84]
 ·by_cases e:s∈l
  ·have a:vA l s=7:=by simp[vA,c,e]
   have d:ql Y m (some (jE (j9 l s)))=Y:=Fj _ _ _ (by rw[j9,a];exact f);rw[Zv e]at h;simp[hs,c,a,d,j,h,f84]
  ·have a:vA l s=0:=by simp[vA,c,e]
   have d:j9 l s=l++[s]:=by rw[j9,a];rfl
   have Y:=A6 s f e;rw[Qo e]at h;simp[hs,c,a,d,j,h,Y,f84]
def jD(r:O)(l:List za)(m:Nat)(Y:Hp)(Z:Nat)(x:O)(a:Hp)(Z':Nat):Prop:=x=r/\Z<=Z'/\a m=some (jE l)/\∀j,j<Z->j≠m->a j=Y j
def ye:za->List za->List yq->Int×List za
 |_,l,[]=>(0,l)
 |before,l,x::xs=>if jx x.name before=0 then(if vA l x.w5=0 then(if vG x.rest 0 100000000=true then ye x.name (j9 l x.w5) xs else(1,j9 l x.w5))else(vA l x.w5,j9 l x.w5))else(jx x.name before,l)
noncomputable abbrev Hq:Ctx:=zG prog [(83,zg false [] (Dr fun a b=>int (jx a b))),(84,qq ux f84),(25,zg false [] (F3 vG))]
theorem MR:Gd Hq:=zM mixed ⟨vQ,Yp,vK,trivial⟩
theorem VS:zf prog 48 (qq Hq f48):=w8 MR func48
theorem eE(b:Bk)(l:List za)(S:b.cb<=zw)(t:Bool)(y:Hp)(Z0 id m g:Nat)(hid:id<Z0)(T:m<Z0)(E:id≠m)(z:y id=some (xa b m g t))(F:y m=some (jE l)) :
  ∃x N Z',qq Hq f48 [.ref id 0 0] y Z0=some (x,N,Z')/\jD (int (ye [] l b.zq).1) (ye [] l b.zq).2 m y Z0 x N Z':=by
 unfold qq;rw[ze (by simp[f48])];refine zY rfl ?_;have P:=w9 Yn b.zq;have W:b.cb=yV yq.cb b.zq+yV Z5.cb b.holds+yV Xp.cb b.qA:=rfl;unfold zw at S;have Q:=z;rw[jn]at Q;simp[Q];refine zP (fun k U Y Z=>U 0=.ref id 0 0/\U 12=.sl 3 (b.zq.map yq.V)/\U 13=int b.zq.length/\U 14=int k/\Z0<=Z/\(∀j,j<Z0->j≠m->Y j=y j)/\∃(c:za) (l':List za),U 3=str c/\Y m=some (jE l')/\ye [] l b.zq=ye c l' (b.zq.drop k)) b.zq.length
  ⟨by simp,by simp,by simp,by simp,zi _,fun _ _ _=>rfl,[],l,by simp,F,by simp⟩ ?_
 rintro k U Y Z hk ⟨A,n,o,p,G,h,c,l',C,H,e⟩;by_cases i:k<b.zq.length
 ·obtain⟨x,v⟩:=kC (b.zq[k]);have I:=jf (f:=yq.cb) (zm i);rw[v]at I;have X:x.cb=1+x.name.length+x.w5.length:=rfl;rw[zd i,v]at e;simp only[ye]at e;have hw:=qz k;have q:=fun Y Z=>JN (fun a b=>int (jx a b)) x.name c Y Z (by unfold zw;omega) (by simp)
  have R:¬m=Z:=by omega
  have ni:¬id=Z:=by omega
  have J:ql Y Z (some ⟨101,3,false,[x.V]⟩) id=some (xa b m g t):=by rw[zk _ _ _ _ ni,h id hid E];exact z
  have K:ql Y Z (some ⟨101,3,false,[x.V]⟩) m=some (jE l'):=by rw[zk _ _ _ _ R];exact H
  have r:=VR b l' x.w5 (by unfold zw;omega) t _ (Z+1) id m g J K;simp only[yq.V]at r;have s:¬Z=m:=by omega
  by_cases w:jx x.name c=0
  case neg=>rw[zj w]at e;have L:=xE w;simp[A,C,n,o,p,i,v,yq.V,q,L,f48,jD,e];exact⟨by omega,by rw[zk _ _ _ _ R];exact H,fun j u d=>by rw[zk _ _ _ _ (by omega)];exact h j u d⟩
  rw[ze w]at e;by_cases B:vA l' x.w5=0
  case neg=>rw[zj B]at e;have M:=xE B;simp[A,C,n,o,p,i,v,yq.V,q,w,r,M,f48,jD,e];exact⟨by omega,fun j u d=>by rw[zk _ _ _ _ d,zk _ _ _ _ (by omega)];exact h j u d⟩
  rw[ze B]at e;cases D:vG x.rest 0 100000000
  ·rw[D,zj (by simp)]at e;simp[A,C,n,o,p,i,v,yq.V,q,w,r,B,D,s,f48,jD,e];exact⟨by omega,fun j u d=>by rw[zk _ _ _ _ d,zk _ _ _ _ (by omega)];exact h j u d⟩
  ·rw[D,ze rfl]at e;simp[A,C,n,o,p,i,v,yq.V,q,w,r,B,D,s,hw];exact⟨by omega,by omega,fun j u d=>by rw[zk _ _ _ _ d,zk _ _ _ _ (by omega)];exact h j u d,j9 l' x.w5,rfl,e⟩
 ·obtain rfl:k=b.zq.length:=by omega
  rw[zp]at e;simp only[ye]at e;simp[A,n,o,p,f48,jD,e];exact⟨G,H,h⟩
end Go.Q
