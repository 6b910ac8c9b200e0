/- Lemmas. -/
import Derived.Test.YtcebnehlnlcckaaGreatDoorG9
set_option maxRecDepth 100000
set_option maxHeartbeats 4000000
open Go Proofs Proofs.YtcebnehlnlcckaaGreatDoor Proofs.Tryz RowKit AM SpanLaw Q Zz
namespace Go.Q
def ym(n:za):List qA->Option qA
 |[]=>none
 |s::l=>if s.name=n then some s else ym n l
theorem dY:∀{L:List qA} {s:za},(∃y∈L,y.name=s)->∃j:Nat,∃h:j<L.length,ym s L=some L[j]/\L[j].name=s
 |[],s,h=>by obtain⟨y,hy,_⟩:=h;cases hy
 |x::L,s,h=>by
  by_cases a:x.name=s
  ·exact⟨0,by simp,by simp[ym,a],a⟩
  ·obtain⟨y,hy,e⟩:=h;rcases zv.1 hy with rfl|hy
   ·exact absurd e a
   ·obtain⟨j,b,c,d⟩:=dY ⟨y,hy,e⟩;exact⟨j+1,by simpa using b,by simp[ym,a,c],by simpa using d⟩
theorem VI:∀{L:List qA} {s:za},(∀y∈L,y.name≠s)->ym s L=none
 |[],s,_=>rfl
 |x::L,s,h=>by have a:=h x (by simp);simp only[ym,zd a];exact VI fun y b=>h y (by simp[b])
theorem cx{L:List qA}(h:XE (L.map qA.name))(s:za):(j7 L s=true/\∃a:Y8 L s<L.length,ym s L=some L[Y8 L s]/\L[Y8 L s].name=s)\/(j7 L s=false/\ym s L=none):=by
 by_cases b:∃y∈L,y.name=s
 ·obtain⟨j,a,f,d⟩:=dY b;have:=lQ h (j:=j) (s:=s) (by simp[a,d]);unfold j7 Y8;rw[this];exact .inl ⟨rfl,a,f,d⟩
 ·refine .inr ⟨?_,VI fun y g e=>b ⟨y,g,e⟩⟩;unfold j7;cases i:(Qp (L.map qA.name) s).2 with
  |false=>rfl
  |true=>
   have:=ss i;rw[qo]at this;cases c:L[(Qp (L.map qA.name) s).1]? with
   |none=>rw[c]at this;cases this
   |some y=>rw[c]at this;simp only[zy,zW]at this;exact absurd ⟨y,zL c,this⟩ b
def vy(l:List qA)(n:za):List za:=match ym n l with
 |some s=>s.cond.names
 |none=>[]
theorem NI{l:List qA}(d:XE (l.map qA.name)){n m:za}(h:m∈vy l n):j7 l n=true/\Y8 l m∈yT l (Y8 l n)/\∃s∈l,m∈s.cond.names:=by
 unfold vy at h;rcases cx d n with⟨b,c,a,e⟩|⟨b,a⟩
 ·rw[a]at h;simp only at h;refine⟨b,?_,_,zj c,h⟩;unfold yT;rw[zl c];exact List.mem_map_of_mem h
 ·rw[a]at h;cases h
theorem H8{l:List qA}(h:XE (l.map qA.name))(v:∀s∈l,∀n∈s.cond.names,j7 l n=true):(∃s∈l,Yu (vy l) s.cond.names s.name)↔∃i:Nat,Wr (fun a b=>b∈yT l a) i i:=by
 constructor
 ·rintro⟨s,hs,x⟩;obtain⟨i,hi⟩:=mJ hs;have d:∀n,Yu (vy l) s.cond.names n->Wr (fun a b=>b∈yT l a) i (Y8 l n):=by
   intro n k
   induction k with
   |here o=>exact .one (by unfold yT;rw[hi];exact List.mem_map_of_mem o)
   |there _ p q=>exact .tail q (NI h p).2.1
  have:=d _ x;rw[(zaM h hi).1]at this;exact⟨i,this⟩
 ·rintro⟨i,hi⟩;obtain⟨b,p,_⟩:=hi.head;have f:i<l.length:=by
   refine Nat.lt_of_not_le fun r=>?_
   rw[oY r]at p;cases p
  have d:∀j,Wr (fun a b=>b∈yT l a) i j->∃n,Yu (vy l) l[i].cond.names n/\Y8 l n=j/\j7 l n=true:=by
   intro j g
   induction g with
   |one e=>unfold yT at e;rw[zl f]at e;obtain⟨n,k,rfl⟩:=qw.1 e;exact⟨n,.here k,rfl,v _ (zj f) n k⟩
   |tail _ e q=>
    obtain⟨n,t,rfl,u⟩:=q;rcases cx h n with⟨_,g,c,w⟩|⟨c,_⟩
    ·unfold yT at e;rw[zl g]at e;obtain⟨m,o,rfl⟩:=qw.1 e;exact⟨m,.there t (by unfold vy;rw[c];exact o),rfl,v _ (zj g) m o⟩
    ·rw[u]at c;cases c
  obtain⟨n,t,y,u⟩:=d i hi;rcases cx h n with⟨_,g,c,w⟩|⟨c,_⟩
  ·refine⟨l[i],zj f,?_⟩;have:l[i].name=n:=by rw[<-w];congr 1;simp only[y]
   rw[this];exact t
  ·rw[u]at c;cases c
noncomputable abbrev Crck:Ctx:=zR prog [(85,zg false [] (FS kd))]
theorem gj(l:List za)(h:Yr l<=zw):zo Crck f78 [.sl 1 (zx l)]=some (int (xa l)):=by
 have D:=Q1 l;have z:=fun s (hs:s∈l)=>Kp hs
 unfold zw at h;refine zm rfl ?_;unfold xa;by_cases o:(1000:Int)<l.length
 ·rw[ze o];simp[o,f78]
 rw[zd o];simp[o];refine zF (fun k U Y Z=>U 0=.sl 1 (zx l)/\U 8=.sl 1 (zx l)/\U 9=int l.length/\U 10=int k/\JF none l=JF (vx l k) (l.drop k)) l.length
  ⟨by simp,by simp,by simp,by simp,by simp[vx]⟩ ?_
 rintro k U Y Z E ⟨f,g,i,c,a⟩;by_cases b:k<l.length
 ·have F:=ql k;obtain⟨s,hs⟩:=yx (l[k]);have d:s.length<=zw:=by have:=z s (by rw[<-hs];exact zj b);unfold zw;omega
  rw[lR b,hs]at a;have m:vx l (k+1)=some s:=by simp[vx,b,hs]
  cases e:kd s
  ·rw[e,zd (by simp)]at a;simp[f,g,i,c,b,hs,d,e,a,f78]
  rw[e,ze rfl]at a;by_cases A:k=0
  ·subst A;have B:=wu 1;simp only[vx,js,qB,zq,qn]at a;simp[f,g,i,c,b,hs,d,e,B];exact⟨by omega,by rw[a,m];simp⟩
  ·obtain⟨j,rfl⟩:∃j,k=j+1:=⟨k-1,by omega⟩;have q:j<l.length:=by omega
   have t:IntKind.i64.wrap ((j:Int)+1-1)=(j:Int):=by rw[wR (by omega) (by omega)];omega
   have n:=wu (j:Int);have u:((j:Int)+1).toNat=j+1:=by omega
   have v:0<(j:Int)+1:=by omega
   have w:0<=(j:Int)+1:=by omega
   have x:(j:Int)+1<l.length:=by omega
   have C:=wu ((j:Int)+1+1);have y:(Op.bytesLess s l[j]||s==l[j])=Vs s l[j]:=rfl;have r:vx l (j+1)=some l[j]:=by simp[vx,q]
   simp only[r,js]at a;cases p:Vs s l[j]
   ·rw[p,zd (by simp)]at a;simp[f,g,i,c,b,q,hs,d,e,t,n,u,v,w,x,y,p,C];exact⟨by omega,by rw[a,m]⟩
   ·rw[p,ze rfl]at a;simp[f,g,i,c,b,q,hs,d,e,t,n,u,v,w,x,y,p,a,f78]
 ·obtain rfl:k=l.length:=by omega
  rw[zn]at a;have a:JF none l=0:=by rw[a];rfl
  simp[f,g,i,c,a,f78]
theorem dZ:zf prog 78 (zg false [] (PF (fun l=>int (xa l)) fun l=>Yr l<=zw)):=
 vX (zS mixed ⟨bD,trivial⟩:AM.Good Crck _) func78 false [] fun l a=>⟨zG (zk 1) (by decide),_,gj l a,qc _⟩
def mO:qA:=⟨[],[],[],.mk 0 [] 0 [] [] [] []⟩
def Bc(r:Option qA):qA:=r.getD mO
def YN(r:Option qA):O:=.wP [.agg (Bc r).V,wo r.isSome]
noncomputable def H9 (out:List qA->za->O) (b:List qA->za->Prop):zb->Option O:=qf (α:=List qA×za) (fun a=>[.sl 10 (a.1.map qA.V),str a.2]) (fun a=>b a.1 a.2) (fun a=>out a.1 a.2)
theorem ea(out:List qA->za->O)(c:List qA->za->Prop)(l:List qA)(s:za)(Y:Hp)(Z:Nat)(h:c l s):zg false [] (H9 out c) [.sl 10 (l.map qA.V),str s] Y Z=some (out l s,Y,Z):=
 XX (l,s) _ _ (by simp) (fun a b e=>by obtain⟨g,i⟩:=a;obtain⟨j,k⟩:=b;simp only[zh,zA]at e;obtain⟨d,f⟩:=e;rw[vO d,wb f]) h (.inr rfl)
theorem Be{l:List qA}{k:Nat}(h:k<l.length)(s:za):ym s (l.drop k)=if l[k].name=s then some l[k]else ym s (l.drop (k+1)):=by rw[zc h,ym]
theorem NJ:qX (.agg [str [],.nil,.nil,int 0,str [],int 0,.nil,str [],str [],.nil]) (.agg mO.V):=by rw[w8];exact ka.agg (.cons (.refl _) (.cons (.ah (.inl ⟨rfl,rfl⟩)) (.cons (.ah (.inl ⟨rfl,rfl⟩)) (.cons (.refl _) (.cons (.refl _) (.cons (.refl _) (.cons (.ah (.inl ⟨rfl,rfl⟩)) (.cons (.refl _) (.cons (.refl _) (.cons (.ah (.inl ⟨rfl,rfl⟩)) .nil))))))))))
theorem gk(l:List qA)(s:za)(h:l.length<=zw):∃o,zo C0 f81 [.sl 10 (l.map qA.V),str s]=some o/\qX o (YN (ym s l)):=by
 unfold zw at h;refine WO rfl ?_;simp;refine zF (fun k U Y Z=>U 1=str s/\U 4=.ref 0 0 0/\U 8=.sl 10 (l.map qA.V)/\U 9=int l.length/\U 10=int k/\1<=Z/\Y 0=some ⟨72,10,false,[[str [],.nil,.nil,int 0,str [],int 0,.nil,str [],str [],.nil]]⟩/\ym s l=ym s (l.drop k)) l.length
  ⟨by simp,by simp,by simp,by simp,by simp,by simp,by simp[qb,qE],by simp⟩ ?_
 rintro k U Y Z r ⟨f,g,i,j,a,p,m,b⟩;have n1:¬0=Z:=by omega
 have c:¬Z=0:=by omega
 by_cases e:k<l.length
 ·have q:=ql k;rw[Be e]at b;by_cases d:l[k].name=s
  ·rw[ze d]at b;have n:(l[k].name==s)=true:=by simpa using d
   rw[b];simp[f,g,i,j,a,e,n,n1,c,m,f81];exact⟨YN (some l[k]),by simp[YN,Bc,w8],.refl _⟩
  ·rw[zd d]at b;have n:=jD d;simp[f,g,i,j,a,e,n,n1,c,q]
   and_intros<;>first|omega|exact b|simp[n1,c,m]
 ·obtain rfl:k=l.length:=by omega
  rw[zn]at b;rw[b];simp[f,g,i,j,a,ym,m,qb,qE,f81];refine⟨.wP [.agg [str [],.nil,.nil,int 0,str [],int 0,.nil,str [],str [],.nil],wo false],by simp,?_⟩;exact ka.wP (.cons NJ (.cons (.refl _) .nil))
theorem QM:zf prog 81 (zg false [] (H9 (fun l s=>YN (ym s l)) fun l _=>l.length<=zw)):=
 Qu (fn:=f81) (qq (q:=[]) mixed trivial:AM.Good C0 _) (qN func81) false [] _ fun args r h w S vs a=>by obtain⟨⟨l,s⟩,rfl,b,rfl⟩:=zN h;obtain⟨c,d,e⟩:=gk l s b;exact⟨_,c,a,zG (zk 2) (by decide),d,e⟩
theorem sD:∀a b:za,rX a b=yJ a b
 |[],[]=>by simp[rX,yJ,Lib.compareBytes,Op.bytesLess]
 |[],_::_=>by simp[rX,yJ,Lib.compareBytes,Op.bytesLess]
 |_::_,[]=>by simp[rX,yJ,Lib.compareBytes,Op.bytesLess]
 |a::x,b::y=>by
  have d:=sD x y;unfold rX yJ at d⊢;rcases sr a b with h|rfl|h
  ·simp[Lib.compareBytes,Op.bytesLess,h]
  ·simpa[Lib.compareBytes,Op.bytesLess,aI]using d
  ·have c:¬a=b:=fun e=>aI b (e ▸ h)
   simp[Lib.compareBytes,Op.bytesLess,h,lP h,c]
theorem Xn{a b:Int}(h:wD a b=0):a=b:=by
 unfold wD at h;split at h
 ·cases h
 ·split at h
  ·cases h
  ·omega
theorem l5{α:Type}(c:α->α->Int){a b:List α}{m:Nat}(f:m<=a.length)(g:m<=b.length)(h:m=a.length\/m=b.length):yv c (a.drop m) (b.drop m)=wD a.length b.length:=by
 unfold wD;by_cases e:m<a.length
 ·have d:m=b.length:=by omega
  rw[zc e,wF (l:=b) (by omega),zd (by omega),ze (by omega)];rfl
 ·rw[wF (l:=a) (by omega)];by_cases d:m<b.length
  ·rw[zc d,ze (by omega)];rfl
  ·rw[wF (l:=b) (by omega),zd (by omega),zd (by omega)];rfl
theorem sE(a b:Nat):∃m:Nat,(if b<a then(b:Int)else a)=m/\m<=a/\m<=b/\(m=a\/m=b):=by
 by_cases h:b<a
 ·exact⟨b,by rw[ze h],by omega,zk _,.inr rfl⟩
 ·exact⟨a,by rw[zd h],zk _,by omega,.inl rfl⟩
theorem ec(f g:za×qu):kR f g=if yJ f.1 g.1=0 then wz f.2 g.2 else yJ f.1 g.1:=by
 unfold kR;simp only[K0];split
 ·split
  ·rename_i h;rw[h]
  ·rfl
 ·rfl
noncomputable abbrev Crcm (n:Nat):Ctx:=zR prog [(84,zg false [] (Lp n)),(108,zg false [] (PD wD)),(122,zg false [] (Hq rX))]
theorem nv(n:Nat)(a b:qu)(h:a.vb<=zw/\a.vb<=n+1/\b.vb<=zw):zo (Crcm n) f84 [.agg a.V,.agg b.V]=some (int (wz a b)):=by
 obtain⟨M,p,o⟩:=h;have X:=Ya a;have vb:=Ya b;have la:=ja a.items;have lb:=ja b.items;have fa:=vr a.fields;have fb:=vr b.fields;unfold zw at M o;refine zm rfl ?_;have c:=Xf a b;by_cases A:a.kind=b.kind
 case neg=>
  rw[zd A]at c;have F:(wD a.kind b.kind != 0)=true:=by rw[bne_iff_ne];exact fun e=>A (Xn e)
  simp[F,c,f84]
 rw[ze A]at c;by_cases G:a.kind=1
 ·rw[ze (.inl G)]at c;have q:b.kind=1:=by omega
  simp[G,q,c,f84]
 by_cases H:a.kind=2
 ·rw[ze (.inr H)]at c;have q:b.kind=2:=by omega
  simp[H,q,c,f84]
 rw[zd (by omega)]at c;by_cases C:a.kind=3
 ·rw[ze C]at c;have q:b.kind=3:=by omega
  have hs:=sD a.s b.s;simp[C,q,c,hs,f84]
 rw[zd C]at c;by_cases D:a.kind=4
 ·rw[ze D]at c;have q:b.kind=4:=by omega
  obtain⟨m,I,v,w,x⟩:=sE a.items.length b.items.length;rw[c];simp[D,q,I];refine zF (fun k U Y Z=>U 2=.ref 0 0 0/\U 3=.ref 1 0 0/\U 43=int m/\U 44=int k/\Y 0=some ⟨100,5,false,[a.V]⟩/\Y 1=some ⟨100,5,false,[b.V]⟩/\yv wz a.items b.items=yv wz (a.items.drop k) (b.items.drop k)) m
   ⟨by simp,by simp,by simp,by simp,by simp,by simp,by simp⟩ ?_
  rintro k U Y Z A ⟨p,o,i,j,t,u,d⟩;by_cases l:k<m
  ·have f:k<a.items.length:=by omega
   have g:k<b.items.length:=by omega
   have N:=ko (zj f);have P:=ko (zj g);have B:=fun Y Z=>Wd n a.items[k] b.items[k] Y Z ⟨by unfold zw;omega,by omega,by unfold zw;omega⟩
   have J:=ql k;rw[zc f,zc g]at d;simp only[yv]at d;by_cases r:wz a.items[k] b.items[k]=0
   ·rw[ze r]at d;simp[p,o,i,j,t,u,l,f,g,B,r,J];exact⟨l,d⟩
   ·rw[zd r]at d;have y:=xN r;simp[p,o,i,j,t,u,l,f,g,B,y,d,f84]
  ·obtain rfl:k=m:=by omega
   rw[l5 wz v w x]at d;simp[p,o,i,j,t,u,d,f84]
 rw[zd D]at c;by_cases E:a.kind=5
 ·rw[ze E]at c;have q:b.kind=5:=by omega
  obtain⟨m,I,v,w,x⟩:=sE a.fields.length b.fields.length;rw[c];simp[E,q,I];refine zF (fun k U Y Z=>U 2=.ref 0 0 0/\U 3=.ref 1 0 0/\U 77=int m/\U 78=int k/\Y 0=some ⟨100,5,false,[a.V]⟩/\Y 1=some ⟨100,5,false,[b.V]⟩/\yv kR a.fields b.fields=yv kR (a.fields.drop k) (b.fields.drop k)) m
   ⟨by simp,by simp,by simp,by simp,by simp,by simp,by simp⟩ ?_
  rintro k U Y Z A ⟨p,o,i,j,t,u,d⟩;by_cases l:k<m
  ·have f:k<a.fields.length:=by omega
   have g:k<b.fields.length:=by omega
   have N:=Z4 (zj f);have P:=Z4 (zj g);have B:=fun Y Z=>Wd n a.fields[k].2 b.fields[k].2 Y Z ⟨by unfold zw;omega,by omega,by unfold zw;omega⟩
   have hs:=sD a.fields[k].1 b.fields[k].1;have J:=ql k;rw[zc f,zc g]at d;simp only[yv]at d;rw[ec]at d;by_cases z:yJ a.fields[k].1 b.fields[k].1=0
   ·rw[ze z]at d;by_cases r:wz a.fields[k].2 b.fields[k].2=0
    ·rw[ze r]at d;simp[p,o,i,j,t,u,l,f,g,B,hs,z,r,J];exact⟨l,d⟩
    ·rw[zd r]at d;have y:=xN r;simp[p,o,i,j,t,u,l,f,g,B,hs,z,y,d,f84]
   ·rw[zd z,zd z]at d;have K:=jD z;have L:=xN z;simp[p,o,i,j,t,u,l,f,g,B,hs,K,L,d,f84]
  ·obtain rfl:k=m:=by omega
   rw[l5 kR v w x]at d;simp[p,o,i,j,t,u,d,f84]
 rw[zd E]at c;have Q:=jD G;have R:=jD H;have S:=jD C;have T:=jD D;have W:=jD E;have F:wD a.kind b.kind=0:=by rw[A];simp
 simp[F,Q,R,S,T,W,c,f84]
theorem VJ:∀n,zf prog 84 (zg false [] (Lp n)):=by
 intro n
 induction n with
 |zero=>
  exact Js ⟨_,func84,by kernel_rfl,by kernel_rfl⟩ fun args r h=>by obtain⟨a,b,_,f,_⟩:=gF h;have:=Vq a;omega
 |succ n c=>
  have d:Gd (Crcm n):=zS mixed ⟨c,QG,lx,trivial⟩;exact yt (fn:=f84) d (qN func84) false [] _ fun args r h=>by obtain⟨a,b,rfl,e,rfl⟩:=gF h;exact⟨zG (zk 2) (by decide),_,nv n a b e,qc _⟩
def Yk(s:Int×Bool):Bool:=s.2||decide (200<s.1)
def pd(s r:Int×Bool):Int×Bool:=if Yk s then s else(s.1+r.1,s.2||r.2)
mutual
def qW.rp:qW->Int->Int×Bool
 | .mk _ _ _ _ _ _ xs,l=>tX xs l (1,decide (20<l))
def tX:List qW->Int->Int×Bool->Int×Bool
 |[],_,s=>s
 |c::cs,l,s=>tX cs l (pd s (c.rp (l+1)))
end
theorem NK(c:qW)(l:Int):c.rp l=tX c.args l (1,decide (20<l)):=by cases c;rfl
theorem cy{l:Int}{s:Int×Bool}(h:Yk s=true):∀xs:List qW,tX xs l s=s
 |[]=>rfl
 |c::cs=>by have:pd s (c.rp (l+1))=s:=ze h;simp only[tX];rw[this];exact cy h cs
theorem NL{xs:List qW}{l:Int}{s:Int×Bool}{k:Nat}(h:k<xs.length):tX (xs.drop k) l s=tX (xs.drop (k+1)) l (pd s (xs[k].rp (l+1))):=by rw[zc h,tX]
structure RPC (xs:List qW) (l:Int) (s r:Int×Bool):Prop where
 lo:s.1<=r.1
 hi:r.1<=s.1+yy xs
 deep:r.2=true->s.2=true\/20<l+(yL xs:Int)
 all:Yk r=false->r.1=s.1+yy xs/\(xs≠[]->l+(yL xs:Int)<=20)
theorem Bf(c:qW):∀l,0<=(c.rp l).1/\(c.rp l).1<=c.parts/\((c.rp l).2=true->20<l+(c.levels:Int)-1)/\(Yk (c.rp l)=false->(c.rp l).1=c.parts/\l+(c.levels:Int)-1<=20):=by
 induction c using qW.ind with
 |h k a o v p n ys C=>
  intro l;have m:∀(xs:List qW) (s:Int×Bool),0<=s.1->(∀x∈xs,x∈ys)->RPC xs l s (tX xs l s):=by
   intro xs
   induction xs with
   |nil=>intro s _ _;exact⟨by simp[tX],by simp[tX,yy],fun h=>.inl (by simpa[tX]using h),fun _=>⟨by simp[tX,yy],fun h=>absurd rfl h⟩⟩
   |cons x xs q=>
    intro s I B;by_cases g:Yk s=true
    ·rw[cy g];exact⟨by omega,by omega,fun h=>.inl h,fun h=>by rw[g]at h;cases h⟩
    ·have e:tX (x::xs) l s=tX xs l (s.1+(x.rp (l+1)).1,s.2||(x.rp (l+1)).2):=by simp only[tX,pd,g];rfl
     rw[e];obtain⟨J,K,D,E⟩:=C x (B x (by simp)) (l+1);have i:=q (s.1+(x.rp (l+1)).1,s.2||(x.rp (l+1)).2) (by simp only;omega) (fun y F=>B y (by simp[F]));have b:yy (x::xs)=x.parts+yy xs:=by simp[yy]
     have d:yL (x::xs)=max x.levels (yL xs):=by simp[yL]
     have r:=i.lo;have t:=i.hi;simp only at r t;refine⟨by omega,by rw[b];omega,fun h=>?_,fun h=>?_⟩
     ·rw[d];rcases i.deep h with h|h
      ·simp only[qS]at h;rcases h with h|h
       ·exact .inl h
       ·right;have:=D h;omega
      ·right;omega
     ·obtain⟨u,w⟩:=i.all h;have z:Yk (x.rp (l+1))=false:=by
       simp only[Yk,wA,yM]at h g⊢;refine⟨?_,by omega⟩;cases hd:(x.rp (l+1)).2 with
       |false=>rfl
       |true=>
        exfalso;have A:Yk (s.1+(x.rp (l+1)).1,s.2||(x.rp (l+1)).2)=true:=by simp[Yk,hd]
        rw[cy A]at h;simp[hd]at h
      obtain⟨L,M⟩:=E z;simp only at u;refine⟨by rw[b];omega,fun _=>?_⟩;rw[d];by_cases f:xs=[]
      ·subst f;simp only[yL];omega
      ·have:=w f;omega
  have j:=m ys (1,decide (20<l)) (by simp) fun x z=>z
  rw[NK,WY,ar];simp only[qW.args];have G:=j.lo;have H:=j.hi;simp only at G H;refine⟨by omega,by omega,fun h=>?_,fun h=>?_⟩
  ·rcases j.deep h with h|h
   ·simp at h;omega
   ·omega
  ·obtain⟨u,w⟩:=j.all h;simp only at u;refine⟨by omega,?_⟩;by_cases f:ys=[]
   ·rw[f]at h⊢;simp[tX,Yk]at h;simp only[yL];omega
   ·have:=w f;omega
theorem Ia(c:qW):Yk (c.rp 1)=(decide ((200:Int)<c.parts)||decide ((20:Int)<c.levels)):=by
 obtain⟨e,f,b,d⟩:=Bf c 1;rw[qx];constructor
 ·intro h;simp only[Yk,qS,qz]at h⊢;rcases h with h|h
  ·right;have:=b h;omega
  ·left;omega
 ·intro h;refine ZS fun a=>?_
  have a:Yk (c.rp 1)=false:=by simpa using a
  obtain⟨g,i⟩:=d a;simp only[Yk,wA,yM]at a;simp only[qS,qz]at h;omega
theorem pg(a b:Int):wD a b<0↔0<wD b a:=by
 unfold wD;by_cases c:a<b
 ·rw[ze c,zd (by omega),ze c];omega
 ·by_cases d:b<a
  ·rw[zd c,ze d,ze d];omega
  ·rw[zd c,zd d,zd d,zd c]
theorem ed(a b:za):yJ a b<0↔0<yJ b a:=by
 have d:=Ko a b;have f:=Ko b a;have i:=xz a b;have g:=xz b a;constructor
 ·intro h;have j:=d.1 h;have n:¬yJ b a<0:=fun c=>by have:=xV j (f.1 c);rw[JE]at this;cases this
  have o:¬yJ b a=0:=fun e=>by have:=g.1 e;have:=i.2 this.symm;omega
  omega
 ·intro h;refine ZS fun c=>?_
  have k:¬a=b:=fun e=>by have:=g.2 e.symm;omega
  have l:Vs a b=false:=by
   unfold Vs;rw[wA];refine⟨?_,by simpa using k⟩;cases m:Op.bytesLess a b with
   |false=>rfl
   |true=>exact absurd (d.2 m) c
  have:=f.2 (vM l);omega
theorem ee{α:Type}{c:α->α->Int}:∀{a b:List α},(∀x∈a,∀y∈b,c x y<0↔0<c y x)->(∀x∈a,∀y∈b,c x y=0↔c y x=0)->(yv c a b<0↔0<yv c b a)/\(yv c a b=0↔yv c b a=0)
 |[],[],_,_=>by simp[yv]
 |[],_::_,_,_=>by simp[yv]
 |_::_,[],_,_=>by simp[yv]
 |x::a,y::b,h,i=>by
  have j:=ee (a:=a) (b:=b) (fun u d v f=>h u (by simp[d]) v (by simp[f])) (fun u d v f=>i u (by simp[d]) v (by simp[f]));have k:=h x (by simp) y (by simp);have g:=i x (by simp) y (by simp);simp only[yv];by_cases e:c x y=0
  ·rw[ze e,ze (g.1 e)];exact j
  ·rw[zd e,zd fun l=>e (g.2 l)];exact⟨k,g⟩
theorem ef{α:Type}{c:α->α->Int}{x y:α}(a:c x y<0↔0<c y x)(b:c y x<0↔0<c x y):c x y=0↔c y x=0:=by omega
theorem fu:∀(n:Nat) (a b:qu),a.vb+b.vb<=n->(wz a b<0↔0<wz b a)
 | 0,a,b,h=>by have:=Vq a;omega
 |n+1,a,b,h=>by
  have i:=fu n;have q:=Ya a;have r:=Ya b;rw[Xf a b,Xf b a];by_cases g:a.kind=b.kind
  case neg=>rw[zd g,zd fun e=>g e.symm];exact pg _ _
  rw[ze g,ze g.symm,<-g];split
  ·exact pg _ _
  split
  ·exact ed _ _
  split
  ·have f:∀x∈a.items,∀y∈b.items,(wz x y<0↔0<wz y x)/\(wz y x<0↔0<wz x y):=fun x c y d=>by have:=ko c;have:=ko d;exact⟨i x y (by omega),i y x (by omega)⟩
   exact(ee (fun x c y d=>(f x c y d).1) fun x c y d=>ef (f x c y d).1 (f x c y d).2).1
  split
  ·have f:∀x∈a.fields,∀y∈b.fields,(kR x y<0↔0<kR y x)/\(kR y x<0↔0<kR x y):=fun x c y d=>by
    have:=Z4 c;have:=Z4 d;have m:=i x.2 y.2 (by omega);have o:=i y.2 x.2 (by omega);have j:=ed x.1 y.1;have k:=ed y.1 x.1;have l:=ef j k;rw[ec,ec];by_cases e:yJ x.1 y.1=0
    ·rw[ze e,ze (l.1 e)];exact⟨m,o⟩
    ·rw[zd e,zd fun p=>e (l.2 p)];exact⟨j,k⟩
   exact(ee (fun x c y d=>(f x c y d).1) fun x c y d=>ef (f x c y d).1 (f x c y d).2).1
  ·simp
theorem Bg(a b:qu):wz b a<=0↔0<=wz a b:=by have:=fu _ a b (zk _);omega
def l6(c:qW):Bool:=!((!(c.kind==4)&&(!c.attr.isEmpty||c.op != 0))||(c.kind != 5&&!c.name.isEmpty))&&!((!((c.kind==4)&&YI c.op)&&decide (0<c.kP.length))||(!((c.kind==4)&&WC c.op)&&!c.pat.isEmpty)) &&
 (if c.kind=3 then(c.args.length:Int)==1 else if c.kind=4\/c.kind=5 then((c.args.length:Int)==0&&(!vf c.op||(c.kP.length:Int)==1))else true)
theorem Ib(c:qW)(h:jE c.kind 1 5=true):l6 c=!Zo c:=by
 have j:c.kind=1\/c.kind=2\/c.kind=3\/c.kind=4\/c.kind=5:=by simp[jE]at h;omega
 have s:(decide (0<c.args.length))=!((c.args.length:Int)==0):=by
  cases c.args with
  |nil=>rfl
  |cons x l=>simp;omega
 have b:((c.kP.length:Int) != 1)=!((c.kP.length:Int)==1):=rfl;have d:((c.args.length:Int) != 1)=!((c.args.length:Int)==1):=rfl;have f:(c.op != 0)=!(c.op==0):=rfl;have t:c.op=0->vf c.op=false:=fun e=>by rw[e];rfl
 unfold l6 Zo w1F w2F w3F w4F w5F w6F w7F;rw[s,b,d,f];generalize c.attr.isEmpty=m;generalize c.name.isEmpty=n;generalize decide (0<c.kP.length)=o;generalize c.pat.isEmpty=p;generalize YI c.op=q;generalize WC c.op=r;generalize ((c.kP.length:Int)==1)=u;generalize ((c.args.length:Int)==0)=a;generalize ((c.args.length:Int)==1)=v;by_cases g:c.op=0
 ·rw[t g,g];rcases j with k|k|k|k|k<;>rw[k]<;>cases m<;>cases n<;>cases o<;>cases p<;>cases a<;>simp[jE]<;>cases q<;>cases r<;>rfl
 ·have i:=jD g;rw[i];generalize vf c.op=w;rcases j with k|k|k|k|k<;>rw[k]<;>cases m<;>cases n<;>cases o<;>cases p<;>cases a<;>simp[jE]<;>cases q<;>cases r<;>cases w<;>cases u<;>rfl
def Ic(n:Int):Bool:=decide (48<=n)&&decide (n<=57)
theorem NM(c:UInt8):Ic c.toNat=Kd c:=by rw[qx];simp[Ic,Kd,pr];omega
theorem VK:zf prog 256 (zg false [] (PC Ic)):=
 yt (fn:=f256) jS (qN func256) false [] _ fun args r h=>by obtain⟨a,rfl,rfl⟩:=rC h;exact⟨by simp[f256],_,zm rfl (by simp[f256,Ic]),qc _⟩
noncomputable abbrev Crd:Ctx:=zR prog [(256,zg false [] (PC Ic))]
theorem zaS:AM.Good Crd (fun g=>[256].contains g):=qq mixed ⟨VK,fun _=>zu _ _,trivial⟩
theorem gl(l:za)(h:l.length<=zw):zo Crd f287 [str l]=some (wo (xE l)):=by
 refine zm rfl ?_;unfold zw at h;simp;refine zF (fun k U Y Z=>U 0=str l/\U 5=int l.length/\U 6=int k/\kZ l=kZ (l.drop k)) l.length ⟨by simp,by simp,by simp,by simp⟩ ?_;rintro k U Y Z j ⟨e,f,g,b⟩;by_cases a:k<l.length
 ·have i:=ql k;rw[dy a]at b;have c:=NM l[k];cases d:Kd l[k]
  ·have b:kZ l=false:=by rw[b,d];rfl
   rw[d]at c;simp[e,f,g,a,b,c,xE,f287]
  ·rw[d]at c;simp[e,f,g,a,c,i];exact⟨a,by rw[b,d];rfl⟩
 ·obtain rfl:k=l.length:=by omega
  have b:kZ l=true:=by rw[b,zn];rfl
  simp[e,f,g,b,xE,f287]
theorem ei:zf prog 287 (zg false [] (FS xE)):=
 vX zaS func287 false [] fun l Y=>⟨by simp[f287],_,gl l Y,qc _⟩
def YO(l:za):Bool:=l.isEmpty||(l.headD 0==48&&!(l==[48]))
theorem Ie(l:za):(!YO l&&kZ l)=yu l:=by
 cases l with
 |nil=>rfl
 |cons c l=>
  cases l with
  |nil=>
   by_cases h:c=48
   ·subst h;rfl
   ·simp[YO,yu,h]
  |cons d l=>simp[YO,yu]
theorem sF(l:za)(t:l.length<=zw):zo C0 f255 [str l]=some (wo (yu l)):=by
 refine zm rfl ?_;unfold zw at t;rw[<-Ie];cases j:YO l
 case true=>
  cases l with
  |nil=>simp[YO,f255]
  |cons c l=>
   simp only[YO,List.isEmpty_cons,List.headD_cons,km,zC,jq,vk,jk]at j;obtain⟨rfl,j⟩:=j;have o:l.isEmpty=false:=by cases l with
    |nil=>exact absurd rfl j
    |cons d l=>rfl
   simp[o,f255]
 case false=>
  have a:l≠[]:=fun e=>by subst e;simp[YO]at j
  have u:0<l.length:=jl.2 a;have m:=jD a;have s:((l[0].toNat:Int)==48&&!(l==[48]))=false:=by
   cases l with
   |nil=>exact absurd rfl a
   |cons c l=>
    have v:((c.toNat:Int)==48)=(c==48):=by rw[qx];simp[<-Yq];omega
    simp only[cZ,v];simpa[YO]using j
  have p:((l[0].toNat:Int)==48&&l != [48])=false:=s;simp[m,a,u,s,p];refine zF (fun k U Y Z=>U 0=str l/\U 16=int l.length/\U 17=int k/\kZ l=kZ (l.drop k)) l.length ⟨by simp,by simp,by simp,by simp⟩ ?_;rintro k U Y Z x ⟨q,g,h,f⟩;by_cases b:k<l.length
  ·have w:=ql k;rw[dy b]at f;have r:=Vm 48 57 l[k];simp only[Zr]at r;cases n:Kd l[k]
   ·have f:kZ l=false:=by rw[f,n];rfl
    have i:pr 48 57 l[k]=false:=n;simp[q,g,h,b,f,r,i,f255]
   ·have i:pr 48 57 l[k]=true:=n;simp[q,g,h,b,r,i,w];exact⟨b,by rw[f,n];rfl⟩
  ·obtain rfl:k=l.length:=by omega
   have f:kZ l=true:=by rw[f,zn];rfl
   simp[q,g,h,f,f255]
theorem aa:zf prog 255 (zg false [] (FS yu)):=
 vX jS func255 false [] fun l Y=>⟨by simp[f255],_,sF l Y,qc _⟩
def XI(c:UInt8):Bool:=pr 97 122 c||pr 65 90 c||c==45
theorem ph(c:UInt8):Jp c=(XI c||Kd c):=by simp only[Jp,XI,Kd];cases pr 97 122 c<;>cases pr 65 90 c<;>cases pr 48 57 c<;>simp
theorem Sc(c:UInt8)(h:XI c=true):Kd c=false:=by
 cases hd:Kd c with
 |false=>rfl
 |true=>
  simp only[XI,Kd,pr,qS,zC,qz,jq]at h hd;rcases h with(h|h)|rfl
  ·omega
  ·omega
  ·simp at hd
theorem Ig(l:za)(h:l.all Jp=true):(jE l.length 1 20&&(!(l.all fun c=>!XI c)||yu l))=!yg l:=by
 have e:(l.all fun c=>!XI c)=kZ l:=by
  induction l with
  |nil=>rfl
  |cons c l d=>
   simp only[wO,zC]at h;have a:=h.1;rw[ph]at a;rw[wO,d h.2];show _=(Kd c&&kZ l);cases b:XI c
   ·rw[b,km]at a;rw[a];rfl
   ·rw[Sc c b];rfl
 rw[e];unfold yg dx;rw[h];cases l with
 |nil=>rfl
 |cons c l=>rw[qx];simp[jE];omega
theorem Ek(l:za)(h:l.all Jp=false):yg l=true:=by unfold yg dx;rw[h];simp
noncomputable abbrev Crip:Ctx:=zR prog [(256,zg false [] (PC Ic)),(150,zg false [] (F3 jE)),(255,zg false [] (FS yu))]
theorem Sd:AM.Good Crip (fun g=>[256,150,255].contains g):=qq mixed ⟨VK,fun _=>zu _ _,Zi,fun _=>zu _ _,aa,fun _=>zu _ _,trivial⟩
@[simp]theorem zcc:kY Crip 255:=y9 (by rfl) (zu _ _)
theorem Bh(l:za)(q:l.length<=zw):zo Crip f220 [str l]=some (wo (!yg l)):=by
 refine zm rfl ?_;have f:=fun Y Z=>kM yu l Y Z q
 unfold zw at q;simp;refine zF (fun k U Y Z=>U 0=str l/\U 3=wo ((l.take k).all fun c=>!XI c)/\U 8=int l.length/\U 9=int k/\l.all Jp=(l.drop k).all Jp) l.length ⟨by simp,by simp,by simp,by simp,by simp⟩ ?_;rintro k U Y Z t ⟨i,d,j,m,b⟩;by_cases a:k<l.length
 ·have r:=ql k;rw[oE a,ph]at b;have e:(decide ((97:Int)<=l[k].toNat)&&decide ((l[k].toNat:Int)<=122)||decide ((65:Int)<=l[k].toNat)&&decide ((l[k].toNat:Int)<=90)||((l[k].toNat:Int)==45))=XI l[k]:=by
   have s:((l[k].toNat:Int)==45)=(l[k]==45):=by rw[qx];simp[<-Yq];omega
   rw[s,qx];simp[XI,pr,<-Yq];omega
  have hd:=NM l[k];have g:((l.take (k+1)).all fun c=>!XI c)=(((l.take k).all fun c=>!XI c)&&!XI l[k]):=by rw[zX a,List.all_append];simp
  obtain⟨T,p⟩:=yx ((l.take k).all fun c=>!XI c);rw[p]at d g;cases h:XI l[k]
  ·cases n:Kd l[k]
   ·rw[h,n]at b;have b:l.all Jp=false:=b;have o:=Ek l b;rw[h]at e;rw[n]at hd;simp[i,d,j,m,a,e,hd,o,-List.all_eq_true,-List.all_eq_false,f220]
   ·rw[h,n]at b;rw[h]at e g;rw[n]at hd;simp[i,d,j,m,a,e,hd,r,-List.all_eq_true,-List.all_eq_false];exact⟨a,by rw[g];simp,b⟩
  ·rw[h]at b e g;simp[i,d,j,m,a,e,r,-List.all_eq_true,-List.all_eq_false];exact⟨a,by rw[g];simp,b⟩
 ·obtain rfl:k=l.length:=by omega
  have b:l.all Jp=true:=by rw[b,zn];rfl
  have o:=Ig l b;rw[wJ]at d;obtain⟨T,p⟩:=yx (l.all fun c=>!XI c);rw[p]at d o;simp[i,d,j,m,f,o,-List.all_eq_true,-List.all_eq_false,f220]
theorem sG:zf prog 220 (zg false [] (FS fun l=>!yg l)):=
 vX Sd func220 false [] fun l Y=>⟨by simp[f220],_,Bh l Y,qc _⟩
theorem sH(l:za):zo C0 f191 [str l]=some (wo (yk l)):=by
 refine zm rfl ?_;have e:yk l=(l==[42]||l==[120]||l==[88]):=by unfold yk;cases l==[42]<;>cases l==[120]<;>cases l==[88]<;>rfl
 rw[e];cases a:(l==[42])
 ·cases b:(l==[120])
  ·simp[a,b,f191]
  ·simp[a,b,f191]
 ·simp[a,f191]
theorem nw:zf prog 191 (zg false [] (FS yk)):=
 vX jS func191 false [] fun l Y=>⟨by simp[f191],_,sH l,qc _⟩
noncomputable def FNm:zb->Option O:=qf (α:=za) (fun l=>[str l,int 6]) (fun l=>l.length<=zw) YG
theorem NN(l:za)(Y:Hp)(Z:Nat)(h:l.length<=zw):zg false [] FNm [str l,int 6] Y Z=some (.wP [int ((xK l).getD 0),wo (xK l).isSome],Y,Z):=
 XX l _ _ rfl (fun a b e=>by simp only[zh,zA]at e;exact wb e) h (.inl rfl)
noncomputable abbrev Crnm:Ctx:=zR prog [(255,zg false [] (FS yu)),(230,zg false [] FAt)]
theorem Se:AM.Good Crnm (fun g=>[255].contains g):=qq mixed ⟨aa,fun _=>zu _ _,ln,by simp,trivial⟩
theorem sI(l:za)(f:l.length<=zw):zo Crnm f219 [str l,int 6]=some (YG l):=by
 refine zm rfl ?_;have b:=fun Y Z=>kM yu l Y Z f
 cases a:yu l
 ·simp[b,a,YG,xK,zI,f219]
 ·by_cases e:l.length<=6
  ·have c:¬((6:Int)<l.length):=by omega
   have g:=fun Y Z=>oF l Y Z (by omega) a
   simp[b,a,e,c,g,YG,xK,zI,f219]
  ·have c:(6:Int)<l.length:=by omega
   have d:6<l.length:=by omega
   simp[b,a,e,d,c,YG,xK,zI,f219]
theorem ny:zf prog 219 (zg false [] FNm):=
 vX Se func219 false [] fun l Y=>⟨by simp[f219],_,sI l Y,qc _⟩
noncomputable abbrev Crcp:Ctx:=zR prog [(287,zg false [] (FS xE)),(213,zg false [] (Yc tlP fun _ b=>rS b)),(108,zg false [] (PD wD)),(122,zg false [] (Hq rX)),(141,zg false [] Lo)]
theorem Sf:Gd Crcp:=zS mixed ⟨ei,Yd,QG,lx,Vy,trivial⟩
theorem ej(a b:za)(g:a.length<=zw)(h:b.length<=zw):zo Crcp f276 [str a,str b]=some (int (wK a b)):=by
 refine zm rfl ?_;have c:=fun Y Z=>kM xE a Y Z g
 have d:=fun Y Z=>kM xE b Y Z h
 have j:=fun Y Z=>gE a Y Z g
 have tb:=fun Y Z=>gE b Y Z h
 have i:=sD;cases e:xE a<;>cases f:xE b
 ·simp[c,d,e,f,wK,i,f276]
 ·simp[c,d,e,f,wK,f276]
 ·simp[c,d,e,f,wK,f276]
 ·have k:∀(Y:Hp) (Z id:Nat),Y id=some ⟨3,1,true,[[int (wD (Lib.trimLeftB a 48).length (Lib.trimLeftB b 48).length)],[int (yJ (Lib.trimLeftB a 48) (Lib.trimLeftB b 48))]]⟩->zg false [] Lo [.own id 0 2] Y Z=some (int (K0 [wD (Lib.trimLeftB a 48).length (Lib.trimLeftB b 48).length,yJ (Lib.trimLeftB a 48) (Lib.trimLeftB b 48)]),Y,Z):=fun Y Z id l=>bQ [_,_] Y Z id _ (by show 2<=zw;decide) l
  simp[c,d,j,tb,e,f,k,i,zr,zJ,zp,wK,f276]
theorem cz:zf prog 276 (zg false [] (Yc (fun a b=>int (wK a b)) fun _ _=>True)):=
 yt (fn:=f276) Sf (qN func276) false [] _ fun args r h=>by obtain⟨a,b,rfl,c,d,_,rfl⟩:=xg h;exact⟨by simp[f276],_,ej a b c d,qc _⟩
noncomputable abbrev Crcv:Ctx:=zR prog [(108,zg false [] (PD wD)),(141,zg false [] Lo),(276,zg false [] (Yc (fun a b=>int (wK a b)) fun _ _=>True))]
theorem Sg:AM.Good Crcv (fun g=>[108,141,276].contains g):=qq mixed ⟨QG,fun _=>zu _ _,Vy,fun _=>zu _ _,cz,fun _=>zu _ _,trivial⟩
theorem K2(v w:yf)(W:v.small)(X:w.small):zo Crcv f257 [.agg v.V,.agg w.V]=some (int (ZO v w)):=by
 obtain⟨a,b,c,p⟩:=v;obtain⟨t,u,x,f⟩:=w;obtain⟨Y1,Y2⟩:=W;obtain⟨y,z⟩:=X;simp only at Y1 Y2 y z;refine zm rfl ?_;obtain⟨o,S⟩:=yx (K0 [wD a t,wD b u,wD c x]);have j:∀(Y:Hp) (Z id:Nat),Y id=some ⟨3,1,true,[[int (wD a t)],[int (wD b u)],[int (wD c x)]]⟩->zg false [] Lo [.own id 0 3] Y Z=some (int o,Y,Z):=fun Y Z id hh=>S ▸ bQ [_,_,_] Y Z id _ (by show 3<=zw;decide) hh
 have d:ZO ⟨a,b,c,p⟩ ⟨t,u,x,f⟩=if o=0 then(if p.length=0 then(if f.length=0 then 0 else 1)else if f.length=0 then -1 else yv wK p f)else o:=by rw[<-S];rfl
 by_cases F:o=0
 case neg=>have G:=xN F;simp[yf.V,j,zr,zJ,zp,F,G,d,f257]
 subst F;have g:(zx p).length=p.length:=by simp[zx]
 have e:(zx f).length=f.length:=by simp[zx]
 by_cases A:p.length=0
 ·have s:wD f.length 0=if f.length=0 then 0 else 1:=by unfold wD;split<;>(try split)<;>(try split)<;>first|omega|rfl
  simp[yf.V,j,zr,zJ,zp,A,d,g,e,s,f257]
 by_cases H:f.length=0
 ·have n:((p.length:Int)==0)=false:=by simpa using A
  have s:wD 0 p.length=-1:=by unfold wD;rw[ze (by omega)]
  simp[yf.V,j,zr,zJ,zp,A,n,H,d,g,e,s,f257]
 have n:((p.length:Int)==0)=false:=by simpa using A
 have I:((f.length:Int)==0)=false:=by simpa using H
 obtain⟨m,hm,J,K,B⟩:=sE p.length f.length;unfold zw at Y1 y;have d:ZO ⟨a,b,c,p⟩ ⟨t,u,x,f⟩=yv wK p f:=by rw[d];simp[A,H]
 rw[d];simp[yf.V,j,zr,zJ,zp,n,I,g,e,hm];refine zF (fun k U Y Z=>U 2=.ref 0 0 0/\U 3=.ref 1 0 0/\Y 0=some ⟨191,4,false,[[int a,int b,int c,.sl 1 (zx p)]]⟩/\Y 1=some ⟨191,4,false,[[int t,int u,int x,.sl 1 (zx f)]]⟩/\U 51=int m/\U 52=int k/\yv wK p f=yv wK (p.drop k) (f.drop k)) m
  ⟨by simp,by simp,by simp,by simp,by simp,by simp,by simp⟩ ?_
 rintro k U Y Z hk ⟨L,M,N,P,q,r,l⟩;by_cases C:k<m
 ·have h:k<p.length:=by omega
  have i:k<f.length:=by omega
  have Q:=ql k;have s:=fun Y Z=>oJ p[k] f[k] Y Z (Y2 _ (zj h)) (z _ (zj i))
  have T:=Vv h;have D:=Vv i;rw[zc h,zc i]at l;simp only[yv]at l;by_cases E:wK p[k] f[k]=0
  ·rw[ze E]at l;simp[L,M,q,r,N,P,C,h,i,g,e,T,D,s,E,Q];exact⟨by omega,l⟩
  ·rw[zd E]at l;have R:=xN E;simp[L,M,q,r,N,P,C,h,i,g,e,T,D,s,R,l,f257]
 ·obtain rfl:k=m:=by omega
  rw[l5 wK J K B]at l;simp[L,M,q,r,N,P,g,e,l,f257]
theorem Kx:zf prog 257 (qy [.g va,.g va] (MD fun v w=>int (ZO v w))):=
 wM (fn:=f257) Sg (qN func257) _ _ fun args r h=>by obtain⟨⟨v,w⟩,rfl,⟨a,b⟩,rfl⟩:=zN h;exact⟨by simp[f257],_,K2 v w a b,qX.refl _⟩
noncomputable abbrev Crcu:Ctx:=zR prog [(257,qy [.g va,.g va] (MD fun v w=>int (ZO v w)))]
theorem Si:Gd Crcu:=zS mixed ⟨Kx,trivial⟩
theorem cA(x y:Cut)(l:x.v.small)(m:y.v.small):zo Crcu f224 [.agg x.V,.agg y.V]=some (int (wv x y)):=by
 obtain⟨⟨a,b,c,p⟩,f⟩:=x;obtain⟨⟨h,i,j,k⟩,f'⟩:=y;refine zm rfl ?_;have d:=fun Y Z=>Fv ⟨a,b,c,p⟩ ⟨h,i,j,k⟩ Y Z l m
 simp only[yf.V]at d;by_cases e:ZO ⟨a,b,c,p⟩ ⟨h,i,j,k⟩=0
 ·cases f<;>cases f'<;>simp[Cut.V,d,e,wv,f224]
 ·have g:=jD e;simp[Cut.V,d,e,g,wv,f224]
theorem ZF:zf prog 224 (qy [.g jK,.g jK] (Ac fun v w=>int (wv v w))):=
 wM (fn:=f224) Si (qN func224) _ _ fun args r h=>by obtain⟨⟨v,w⟩,rfl,⟨a,b⟩,rfl⟩:=zN h;exact⟨by simp[f224],_,cA v w a b,qX.refl _⟩
theorem Ih{l:List q8}{c:Cut}{k:Nat}(h:k<l.length):yl (l.drop k) c=(vC l[k] c||yl (l.drop (k+1)) c):=by rw[zc h];rfl
noncomputable abbrev Crco:Ctx:=zR prog [(224,qy [.g jK,.g jK] (Ac fun v w=>int (wv v w)))]
theorem Sj:AM.Good Crco (fun g=>[224].contains g):=qq mixed ⟨ZF,fun _=>yY _ _,trivial⟩
theorem sJ(l:List q8)(c:Cut)(D:jP l)(B:c.v.small):zo Crco f197 [.sl 11 (qa l),.agg c.V]=some (wo (yl l c)):=by
 obtain⟨y,z⟩:=D;refine zm rfl ?_;unfold zw at y;have d:(qa l).length=l.length:=by simp[qa]
 simp[d,Cut.V];refine zF (fun k U Y Z=>U 3=.ref 0 0 0/\1<=Z/\Y 0=some ⟨193,5,false,[c.V]⟩/\U 7=.sl 11 (qa l)/\U 8=int l.length/\U 9=int k/\yl l c=yl (l.drop k) c) l.length
  ⟨by simp,by simp,by simp[Cut.V],by simp,by simp,by simp,by simp⟩ ?_
 rintro k U Y Z F ⟨j,E,m,n,o,p,g⟩;by_cases b:k<l.length
 ·have C:=ql k;obtain⟨s,hs⟩:=yx (l[k]);have q:s.small:=z s (by rw[<-hs];exact zj b);have e:∀h:k<(qa l).length,(qa l)[k]=s.V:=fun h=>by simp[qa,hs]
  have r:=fun Y Z=>Jy s.lo c Y Z q.1 B
  have t:=fun Y Z=>Jy c s.hi Y Z B q.2
  have w:¬0=Z:=by omega
  have n1:¬Z=0:=by omega
  rw[Ih b,hs]at g;have f:vC s c=(decide (wv s.lo c<=0)&&(s.kc||decide (wv c s.hi<0))):=rfl;simp only[q8.V,Cut.V,q7,ku]at r t e m;cases x:vC s c
  ·rw[x,km]at g;rw[x]at f;by_cases A:wv s.lo c<=0
   ·rw[decide_eq_true A,kX]at f;have a:=f.symm;rw[wA]at a;simp[j,n,o,p,b,d,e,r,t,m,w,n1,A,a.1,a.2,C,-decide_eq_false_iff_not];exact⟨by omega,rfl,g⟩
   ·simp[j,n,o,p,b,d,e,r,t,m,w,n1,A,C];exact⟨by omega,rfl,g⟩
  ·rw[x,KI]at g;rw[x]at f;have a:=f.symm;simp only[zC,qz]at a;have u:=a.2;cases i:s.kc
   ·rw[i,km,qz]at u;simp[j,n,o,p,b,d,e,r,t,m,w,n1,a.1,i,u,g,f197]
   ·simp[j,n,o,p,b,d,e,r,t,m,w,n1,a.1,i,g,f197]
 ·obtain rfl:k=l.length:=by omega
  have g:yl l c=false:=by rw[g,zn];rfl
  simp[j,n,o,p,g,f197]
theorem nz:zf prog 197 (qy [.s 11 jn,.g jK] (FRC fun l c=>wo (yl l c))):=
 wM (fn:=f197) Sj (qN func197) _ _ fun args r h=>by obtain⟨⟨l,c⟩,rfl,⟨a,b⟩,rfl⟩:=zN h;exact⟨by simp[f197],_,sJ l c a b,qX.refl _⟩
def Qw(w:Int)(a b:Bool):Bool:=if w=0 then a||b else if w=1 then a&&b else a&&!b
def FTk:zb->Option O
 |[.v (.int .i64 w),.v (.bool a),.v (.bool b)]=>some (wo (Qw w a b))
 |_=>none
@[simp]theorem VL(w:Int)(a b:Bool)(Y:Hp)(Z:Nat):zg false [] FTk [.v (.int .i64 w),.v (.bool a),.v (.bool b)] Y Z=some (wo (Qw w a b),Y,Z):=yP rfl rfl (.inl rfl)
theorem Bi:zf prog 196 (zg false [] FTk):=
 yt (fn:=f196) jS (qN func196) false [] _ fun args r h=>by
  have:∃w a b,args=[int w,wo a,wo b]/\r=wo (Qw w a b):=by
   unfold FTk at h;split at h
   ·injection h with h;exact⟨_,_,_,rfl,h.symm⟩
   ·cases h
  obtain⟨w,a,b,rfl,rfl⟩:=this;refine⟨by simp[f196],_,zm rfl ?_,qc _⟩;by_cases c:w=0
  ·subst c;simp[Qw,f196]
  ·have d:=jD c;by_cases e:w=1
   ·subst e;simp[Qw,f196]
   ·have f:=jD e;simp[c,d,e,f,Qw,f196]
def jj(st:Part×Bool)(i:Nat)(t:za):Option (Part×Bool):=
 if yk t=true then some (st.1,true)else if st.2=false/\(xK t).isSome=true then some (st.1.put i ((xK t).getD 0),false)else none
def yU:Part×Bool->Nat->List za->Option (Part×Bool)
 |st,_,[]=>some st
 |st,i,t::l=>match jj st i t with
  |some q=>yU q (i+1) l
  |none=>none
def rdR(s:za):Option Part:=if 3<(qg (Lib.cut s [45]).1 [46]).length then none else
 match yU (wg,false) 0 (qg (Lib.cut s [45]).1 [46])with
 |none=>none
 |some st=>if(xo s).any yg=true then none else if((Lib.cut s [45]).2.2=false\/st.1.has=3)/\(xo s).length<=10 then some {st.1 with pre:=xo s}else none
def ZQ(s:za):Option Part:=match rdR s with
 |some p=>if p.has=0 then none else some p
 |none=>none
theorem JJ{t:za}(h:yk t=true):xK t=none:=by simp only[yk,qS,jq]at h;rcases h with(rfl|rfl)|rfl<;>rfl
theorem sK(p:Part)(i:Nat)(n:Int):(p.put i n).has=p.has+1/\(p.put i n).pre=p.pre:=by unfold Part.put;split<;>exact⟨rfl,rfl⟩
theorem ek:∀(l:List za) (p:Part) (i:Nat),p.has<i->i≠0->(yU (p,true) i l).map (·.1)=yc p i l/\∀st,yU (p,true) i l=some st->st.1=p
 |[],p,i,_,_=>⟨rfl,fun st h=>by simp only[yU]at h;injection h with h;rw[<-h]⟩
 |t::l,p,i,h,hi=>by
  have b:¬p.has=i:=by omega
  obtain⟨e,f⟩:=ek l p (i+1) (by omega) (by omega);by_cases a:yk t=true
  ·have c:jj (p,true) i t=some (p,true):=by simp[jj,a]
   have d:wE p i t=some p:=by simp[wE,a,hi,JJ a]
   simp only[yU,yc,c,d];exact⟨e,f⟩
  ·have c:jj (p,true) i t=none:=by simp[jj,a]
   have d:wE p i t=none:=by simp[wE,a,b]
   simp only[yU,yc,c,d];exact⟨rfl,fun st h=>by cases h⟩
theorem Bj:∀(l:List za) (p:Part) (i:Nat),p.has=i->i≠0->(yU (p,false) i l).map (·.1)=yc p i l
 |[],p,i,_,_=>rfl
 |t::l,p,i,h,hi=>by
  by_cases a:yk t=true
  ·have b:jj (p,false) i t=some (p,true):=by simp[jj,a]
   have c:wE p i t=some p:=by simp[wE,a,hi,JJ a]
   simp only[yU,yc,b,c];exact(ek l p (i+1) (by omega) (by omega)).1
  ·cases d:xK t with
   |none=>
    have b:jj (p,false) i t=none:=by simp[jj,a,d]
    have c:wE p i t=none:=by simp[wE,a,d]
    simp only[yU,yc,b,c];rfl
   |some n=>
    have b:jj (p,false) i t=some (p.put i n,false):=by simp[jj,a,d]
    have c:wE p i t=some (p.put i n):=by simp[wE,d,h]
    simp only[yU,yc,b,c];exact Bj l (p.put i n) (i+1) (by rw[(sK p i n).1];omega) (by omega)
theorem Ii(t:za)(l:List za):(∃st,yU (wg,false) 0 (t::l)=some st/\((st.1.has=0/\yc wg 0 (t::l)=none)\/(1<=st.1.has/\yc wg 0 (t::l)=some st.1)))\/(yU (wg,false) 0 (t::l)=none/\yc wg 0 (t::l)=none):=by
 by_cases b:yk t=true
 ·have c:jj (wg,false) 0 t=some (wg,true):=by simp[jj,b]
  have a:wE wg 0 t=none:=by simp[wE,JJ b]
  simp only[yU,yc,c,a];cases d:yU (wg,true) 1 l with
  |none=>exact .inr ⟨by simp,trivial⟩
  |some st=>have:=(ek l wg 1 (by show(0:Int)<1;omega) (by omega)).2 st d;exact .inl ⟨st,by simp,.inl ⟨by rw[this];rfl,trivial⟩⟩
 ·cases e:xK t with
  |none=>
   have c:jj (wg,false) 0 t=none:=by simp[jj,b,e]
   have a:wE wg 0 t=none:=by simp[wE,b,e]
   simp only[yU,yc,c,a];exact .inr ⟨trivial,trivial⟩
  |some n=>
   have c:jj (wg,false) 0 t=some (wg.put 0 n,false):=by simp[jj,b,e]
   have a:wE wg 0 t=some (wg.put 0 n):=by simp[wE,e,wg]
   have g:(wg.put 0 n).has=1:=by rw[(sK wg 0 n).1];rfl
   have hs:=Bj l (wg.put 0 n) 1 g (by omega);simp only[yU,yc,c,a];cases d:yU (wg.put 0 n,false) 1 l with
   |none=>rw[d]at hs;exact .inr ⟨by simp,by simpa using hs.symm⟩
   |some st=>
    rw[d]at hs;simp only[zy]at hs;refine .inl ⟨st,by simp,.inr ⟨?_,by simpa using hs.symm⟩⟩;have f:yc wg 0 (t::l)=some st.1:=by simp only[yc,a];simpa using hs.symm
    have:=(gI (t::l) wg st.1 0 f (by simp[wg])).2.2.2.2.2.1;exact this (by simp)
theorem zaT{s:za}(h:Lib.contains s [45]=false):Lib.cut s [45]=(s,[],false):=by unfold Lib.contains at h;rw[yM]at h;unfold Lib.cut;rw[zd h]
theorem Sk{s:za}(h:Lib.contains s [45]=true):(Lib.cut s [45]).2.2=true:=by unfold Lib.contains at h;rw[qz]at h;unfold Lib.cut;rw[ze h]
theorem Sl(a b c:Int)(l:List za)(f:0<=a/\a<=999999)(g:0<=b/\b<=999999)(i:0<=c/\c<=999999):Qr ⟨a,b,c,l⟩=0↔l.any yg=false/\l.length<=10:=by
 have e:jE a 0 999999=true/\jE b 0 999999=true/\jE c 0 999999=true:=by simp[jE];omega
 unfold Qr;rw[ze e];simp only;by_cases d:10<l.length
 ·rw[ze d];constructor
  ·intro h;cases h
  ·rintro⟨_,h⟩;omega
 ·rw[zd d];cases j:l.any yg
  ·simp;omega
  ·simp
theorem gK(s:za):ZQ s=if(zO s).2=true then some (zO s).1 else none:=by
 cases K:Lib.contains s [45]
 ·have o:=zaT K;have p:xo s=[]:=by unfold xo;rw[o];rfl
  unfold ZQ rdR zO;simp only[K,zq,qn,o,p];by_cases x:3<(qg s [46]).length
  ·rw[ze x,ze x];rfl
  rw[zd x,zd x];obtain⟨t,l,C⟩:∃t l,qg s [46]=t::l:=by
   cases h:qg s [46]with
   |nil=>exact absurd h (oS _ _)
   |cons t l=>exact⟨t,l,rfl⟩
  rw[C];rcases Ii t l with⟨st,D,⟨B,w⟩|⟨B,w⟩⟩|⟨D,w⟩
  ·rw[D,w];simp[B]
  ·have Y:st.1.pre=[]:=(gI (t::l) wg st.1 0 w (by simp[wg])).2.2.2.2.2.2;have P:({st.1 with pre:=[]}:Part)=st.1:=by obtain⟨⟨a,b,c,d,e⟩,f⟩:=st;simp only at Y;subst Y;rfl
   have Q:¬st.1.has=0:=by omega
   rw[D,w];simp[Q,P]
  ·rw[D,w];rfl
 ·have o:=Sk K;unfold ZQ rdR zO;rw[ze K,o];simp only[Bool.true_eq_false,false_or];obtain⟨l,C⟩:=yx (qg (Lib.cut s [45]).1 [46]);obtain⟨pre,p⟩:=yx (xo s);rw[C,p];have j:∀(m:List za) (st v:Part×Bool) (i:Nat),yU st i m=some v->v.1.has<=st.1.has+m.length:=by
   intro m
   induction m with
   |nil=>intro st v i h;simp only[yU]at h;injection h with h;rw[<-h];simp
   |cons t m R=>
    intro st v i h;simp only[yU]at h;cases hs:jj st i t with
    |none=>rw[hs]at h;cases h
    |some q=>
     rw[hs]at h;have D:=R q v (i+1) h;have B:q.1.has<=st.1.has+1:=by
      unfold jj at hs;split at hs
      ·injection hs with hs;rw[<-hs];simp only;omega
      ·split at hs
       ·injection hs with hs;rw[<-hs];simp only;rw[(sK _ _ _).1];omega
       ·cases hs
     simp only[zP];omega
  by_cases x:l.length=3
  ·obtain⟨u,r,k,rfl⟩:∃a b c,l=[a,b,c]:=T2 x;unfold oG;rw[C,p];simp only;have y:¬3<[u,r,k].length:=by simp
   rw[zd y];cases E:xK u with
   |none=>
    have F:∀st,yU (wg,false) 0 [u,r,k]=some st->st.1.has<=2:=by
     intro st h;simp only[yU]at h;cases hs:jj (wg,false) 0 u with
     |none=>rw[hs]at h;cases h
     |some q=>
      rw[hs]at h;have M:q.1.has=0:=by
       unfold jj at hs;split at hs
       ·injection hs with hs;rw[<-hs];rfl
       ·rw[E]at hs;simp at hs
      have:=j [r,k] q st 1 (by simpa[yU]using h);simp only[zP,kv]at this;omega
    cases g:yU (wg,false) 0 [u,r,k]with
    |none=>rfl
    |some st=>
     have B:=F st g;have n:¬(st.1.has=3/\pre.length<=10):=by omega
     simp only[zd n];cases pre.any yg<;>rfl
   |some a=>
    have S:yk u=false:=by
     cases h:yk u with
     |false=>rfl
     |true=>rw[JJ h]at E;cases E
    have L:jj (wg,false) 0 u=some (wg.put 0 a,false):=by simp[jj,S,E]
    cases G:xK r with
    |none=>
     have F:∀st,yU (wg,false) 0 [u,r,k]=some st->st.1.has<=2:=by
      intro st h;simp only[yU,L]at h;cases hs:jj (wg.put 0 a,false) (0+1) r with
      |none=>rw[hs]at h;cases h
      |some q=>
       rw[hs]at h;have M:q.1.has=1:=by
        unfold jj at hs;split at hs
        ·injection hs with hs;rw[<-hs];rfl
        ·rw[G]at hs;simp at hs
       have:=j [k] q st 2 (by simpa[yU]using h);simp only[zP,kv]at this;omega
     cases g:yU (wg,false) 0 [u,r,k]with
     |none=>rfl
     |some st=>
      have B:=F st g;have n:¬(st.1.has=3/\pre.length<=10):=by omega
      simp only[zd n];cases pre.any yg<;>rfl
    |some b=>
     have T:yk r=false:=by
      cases h:yk r with
      |false=>rfl
      |true=>rw[JJ h]at G;cases G
     have N:jj (wg.put 0 a,false) (0+1) r=some ((wg.put 0 a).put 1 b,false):=by simp[jj,T,G]
     cases H:xK k with
     |none=>
      have F:∀st,yU (wg,false) 0 [u,r,k]=some st->st.1.has<=2:=by
       intro st h;simp only[yU,L,N]at h;cases hs:jj ((wg.put 0 a).put 1 b,false) (0+1+1) k with
       |none=>rw[hs]at h;cases h
       |some q=>
        rw[hs]at h;have M:q.1.has=2:=by
         unfold jj at hs;split at hs
         ·injection hs with hs;rw[<-hs];rfl
         ·rw[H]at hs;simp at hs
        simp only at h;injection h with h
        rw[<-h];omega
      cases g:yU (wg,false) 0 [u,r,k]with
      |none=>rfl
      |some st=>
       have B:=F st g;have n:¬(st.1.has=3/\pre.length<=10):=by omega
       simp only[zd n];cases pre.any yg<;>rfl
     |some c=>
      have W:yk k=false:=by
       cases h:yk k with
       |false=>rfl
       |true=>rw[JJ h]at H;cases H
      have X:jj ((wg.put 0 a).put 1 b,false) (0+1+1) k=some (((wg.put 0 a).put 1 b).put 2 c,false):=by simp[jj,W,H]
      have g:yU (wg,false) 0 [u,r,k]=some (((wg.put 0 a).put 1 b).put 2 c,false):=by simp only[yU,L,N,X]
      rw[g];have I:=Sl a b c pre (Kn E) (Kn G) (Kn H);by_cases J:Qr ⟨a,b,c,pre⟩=0
      ·obtain⟨z,A⟩:=I.1 J;simp[J,z,A,wg,Part.put]
      ·have y:¬(pre.any yg=false/\pre.length<=10):=fun h=>J (I.2 h)
       cases z:pre.any yg
       ·have A:¬pre.length<=10:=fun h=>y ⟨z,h⟩
        simp[J,A]
       ·simp[J]
  ·have hd:oG s=none:=by
    unfold oG;rw[C];split
    ·exact absurd rfl x
    ·rfl
   rw[hd];simp only[zq,qn];by_cases w:3<l.length
   ·rw[ze w]
   rw[zd w];cases g:yU (wg,false) 0 l with
   |none=>rfl
   |some st=>
    have h5:=j l (wg,false) st 0 g;have h6:st.1.has<=2:=by have:(wg:Part).has=0:=rfl;simp only[this]at h5;omega
    have n:¬(st.1.has=3/\pre.length<=10):=by omega
    simp only[zd n];cases pre.any yg<;>rfl
end Go.Q
namespace Go.AM
def aN(sh:Sh)(r y z:O)(x:O)(Y:Hp)(_:Nat):Prop:=∃a,(AM.freeze Y x).map (·.1)=some (.wP [a,y,z])/\sh.fix a=r
theorem nA{C:Ctx}{fn:Func}{code:Code}{args:zb}{sh:Sh}{r y z:O}(b:fn.body=some code)
  (h:Zy C code ⟨kE args,fun _=>none,0⟩ (J2 C.P fn (aN sh r y z))):∃a,zo C fn args=some a/\qX a (.wP [r,y,z]):=by
 obtain⟨x,f,g,c,a,d,e⟩:=qF b h;exact⟨.wP [a,y,z],by unfold zo;simp only[c];exact d,e ▸ (ka.cons (Kb sh a) (.cons (qX.refl y) (.cons (qX.refl z) .nil))).wP⟩
end Go.AM
namespace Go.Q
def K3(s:za):yf×Int×Bool:=if 3<(qg (Lib.cut s [45]).1 [46]).length then(bh,0,false)else
 match yU (wg,false) 0 (qg (Lib.cut s [45]).1 [46])with
 |none=>(bh,0,false)
 |some st=>if(xo s).any yg=true then(⟨st.1.n0,st.1.n1,st.1.n2,xo s⟩,0,false)else(⟨st.1.n0,st.1.n1,st.1.n2,xo s⟩,st.1.has,(!(Lib.cut s [45]).2.2||st.1.has==3)&&decide ((xo s).length<=10))
def El(s:za):O:=.wP [.agg (K3 s).1.V,int (K3 s).2.1,wo (K3 s).2.2]
theorem Em{st:Part×Bool}{k:Nat}{l:List za}(h:k<l.length):yU st k (l.drop k)=match jj st k l[k]with
  |some q=>yU q (k+1) (l.drop (k+1))
  |none=>none:=by
 rw[zc h];rfl
noncomputable abbrev Crrv:Ctx:=zR prog [(218,zg false [] (Yc na fun _ _=>True)),(169,yI [] T1),(219,zg false [] FNm),(220,zg false [] (FS fun l=>!yg l))]
theorem Sm:Gd Crrv:=zS mixed ⟨lg,Wc,ny,sG,trivial⟩
theorem cB(t:za)(ht:t.length+1<=zw):∃r0,zo Crrv f192 [str t]=some r0/\qX r0 (El t):=by
 refine nA (sh:=.g va) (r:=.agg (K3 t).1.V) (y:=int (K3 t).2.1) (z:=wo (K3 t).2.2) rfl ?_;have hcl:=Mt t [45];have u:=fun Y Z=>lf t [45] Y Z (by omega) (by decide)
 have E:=fun Y Z=>ZB (Lib.cut t [45]).1 [46] Y Z (by omega) (by decide) (by decide)
 have v:=fun Y Z=>ZB (Lib.cut t [45]).2.1 [46] Y Z (by omega) (by decide) (by decide)
 have G:∀p∈qg (Lib.cut t [45]).1 [46],p.length<=zw:=fun p Y=>by have:=xh Y;omega
 have H:∀p∈qg (Lib.cut t [45]).2.1 [46],p.length<=zw:=fun p Y=>by have:=xh Y;omega
 have I:(qg (Lib.cut t [45]).2.1 [46]).length<=zw:=by have:=xT (s:=(Lib.cut t [45]).2.1) (sep:=[46]) (by simp);omega
 have m:xo t=if(Lib.cut t [45]).2.2=true then qg (Lib.cut t [45]).2.1 [46]else[]:=rfl
 have a:K3 t=if 3<(qg (Lib.cut t [45]).1 [46]).length then(bh,0,false)else
   match yU (wg,false) 0 (qg (Lib.cut t [45]).1 [46])with
   |none=>(bh,0,false)
   |some st=>if(xo t).any yg=true then(⟨st.1.n0,st.1.n1,st.1.n2,xo t⟩,0,false)else(⟨st.1.n0,st.1.n1,st.1.n2,xo t⟩,st.1.has,(!(Lib.cut t [45]).2.2||st.1.has==3)&&decide ((xo t).length<=10)):=rfl
 obtain⟨l,hl⟩:=yx (qg (Lib.cut t [45]).1 [46]);obtain⟨n,w⟩:=yx (qg (Lib.cut t [45]).2.1 [46]);obtain⟨c1,c2,c3,hc⟩:∃c1 c2 c3,Lib.cut t [45]=(c1,c2,c3):=⟨_,_,_,rfl⟩;rw[hc]at u E v hl w m a G H I;simp only at u E v hl w m a G H I;rw[hl]at a G;rw[w]at m H I;simp only[hl,Kc]at E;simp only[w,Kc]at v;unfold zw at I;by_cases h3:3<l.length
 ·have Q:(3:Int)<l.length:=by omega
  rw[ze h3]at a;simp[u,E,h3,Q,El,a,aN,bh,yf.V,f192]
 have Q:¬(3:Int)<l.length:=by omega
 rw[zd h3]at a;simp[u,E,h3,Q];refine zF (fun k U Y Z=>∃(p:Part) (op:Bool),p.pre=[]/\U 2=.ref 0 0 0/\U 3=int p.has/\U 4=wo false/\U 6=str c2/\U 7=wo c3/\U 8=.ref 1 0 0/\U 9=wo op/\U 29=.own 2 0 l.length/\U 30=int l.length/\U 31=int k/\p.has<=k/\0<=p.has/\Z=3 /\
   Y 0=some ⟨191,4,false,[[int 0,int 0,int 0,.nil]]⟩/\Y 1=some ⟨181,3,false,[[int p.n0,int p.n1,int p.n2]]⟩/\Y 2=some ⟨9,1,true,zx l⟩/\yU (wg,false) 0 l=yU (p,op) k (l.drop k)) l.length
  ⟨wg,false,rfl,by simp,by simp[wg],by simp,by simp,by simp,by simp,by simp,by simp,by simp,by simp,by simp[wg],by simp[wg],by simp,by simp,by simp[wg],(by simp;rfl),by simp⟩ ?_
 rintro k U Y Z hk ⟨p,op,R,x,o,A,J,B,K,L,c,d,e,hh,hh0,hnx,C,F,M,q⟩;subst hnx;by_cases b:k<l.length
 ·have hn:=fun Y Z=>NN l[k] Y Z (G _ (zj b))
  have hw:=ql k;have N:=wu (p.has+1);have i:(l[k]==[120]||l[k]==[88]||l[k]==[42])=yk l[k]:=rfl;have f:=Vv b;have D:(zx l).length=l.length:=by simp[zx]
  rw[Em b]at q;cases ho:yk l[k]
  ·rw[ho]at i;cases hv:(xK l[k]).isSome
   ·have hs:jj (p,op) k l[k]=none:=by simp[jj,ho,hv]
    rw[hs]at q;rw[q]at a;simp only at a;simp[x,o,A,J,B,K,L,c,d,e,C,F,M,b,D,f,hn,i,hv,El,a,aN,bh,yf.V,f192]
   ·cases op
    ·have hs:jj (p,false) k l[k]=some (p.put k ((xK l[k]).getD 0),false):=by simp[jj,ho,hv]
     rw[hs]at q;simp only at q;obtain⟨n0,n1,n2,has,pre⟩:=p;simp only at R hh hh0 N F o;subst R;have hk3:k=0\/k=1\/k=2:=by omega
     rcases hk3 with rfl|rfl|rfl
     ·have j:(0:Int)<(l.length:Int):=by omega
      simp[x,o,A,J,B,K,L,c,d,e,C,F,M,b,j,D,f,hn,i,hv,hw,N];refine⟨by omega,_,?_,?_,?_,?_,?_,(by simpa using q)⟩<;>simp[Part.put]<;>omega
     ·have j:(1:Int)<(l.length:Int):=by omega
      simp[x,o,A,J,B,K,L,c,d,e,C,F,M,b,j,D,f,hn,i,hv,hw,N];refine⟨by omega,_,?_,?_,?_,?_,?_,(by simpa using q)⟩<;>simp[Part.put]<;>omega
     ·have j:(2:Int)<(l.length:Int):=by omega
      simp[x,o,A,J,B,K,L,c,d,e,C,F,M,b,j,D,f,hn,i,hv,hw,N];refine⟨by omega,_,?_,?_,?_,?_,?_,(by simpa using q)⟩<;>simp[Part.put]<;>omega
    ·have hs:jj (p,true) k l[k]=none:=by simp[jj,ho]
     rw[hs]at q;rw[q]at a;simp only at a;simp[x,o,A,J,B,K,L,c,d,e,C,F,M,b,D,f,hn,i,El,a,aN,bh,yf.V,f192]
  ·have hs:jj (p,op) k l[k]=some (p,true):=by simp[jj,ho]
   rw[hs]at q;rw[ho]at i;simp[x,o,A,J,B,K,L,c,d,e,C,F,M,b,D,f,i,hw];exact⟨by omega,p,R,rfl,by omega,hh0,⟨rfl,rfl,rfl⟩,q⟩
 ·obtain rfl:k=l.length:=by omega
  rw[zn]at q;simp only[yU]at q;rw[q]at a;simp only at a;have hbe:((p.has:Int)==3)=(p.has==3):=rfl;cases c3
  ·rw[zd (by simp)]at m;rw[m]at a;simp at a;simp[x,o,A,J,B,K,L,c,d,e,C,F,M,qb,qE,El,a,aN,yf.V,zx,f192]
  ·rw[ze rfl]at m;rw[m]at a;have P:(zx n).length=n.length:=by simp[zx]
   simp[x,o,A,J,B,K,L,c,d,e,C,F,M,v,qb,qE];refine zF (fun k U Y Z=>U 2=.ref 0 0 0/\U 3=int p.has/\U 4=wo false/\U 7=wo true/\U 75=.own 3 0 n.length/\U 76=int n.length/\U 77=int k/\Y 0=some ⟨191,4,false,[[int p.n0,int p.n1,int p.n2,.own 3 0 n.length]]⟩/\Y 3=some ⟨9,1,true,zx n⟩/\n.any yg=(n.drop k).any yg) n.length
    ⟨by simp[x],by simp[o],by simp[A],by simp[B],by simp,by simp,by simp,by simp,(by simp;rfl),by simp⟩ ?_
   clear x o A J B K L c d e C F M hk b hh U Y;rintro k U Y Z hk ⟨x,o,A,B,S,T,W,C,b3,X⟩;by_cases b:k<n.length
   ·have hw:=ql k;have f:=Vv b;have hip:=fun Y Z=>kM (fun l=>!yg l) n[k] Y Z (H _ (zj b))
    rw[zc b,yr]at X;cases hb:yg n[k]
    ·rw[hb,km]at X;simp[x,o,A,B,S,T,W,C,b3,b,P,f,hip,hb,hw];exact⟨by omega,X⟩
    ·rw[hb,KI]at X;rw[X,ze rfl]at a;simp[x,o,A,B,S,T,W,C,b3,b,P,f,hip,hb,El,a,aN,yf.V,f192]
   ·obtain rfl:k=n.length:=by omega
    rw[zn,List.any_nil]at X;rw[X,zd (by simp)]at a;have hd:decide (n.length<=10)=decide ((n.length:Int)<=10):=by congr 1;exact propext ⟨fun h=>by omega,fun h=>by omega⟩
    rw[hd]at a;simp[x,o,A,B,S,T,W,C,b3,El,a,aN,yf.V,f192]
theorem Yl:zf prog 192 (zg false [] (XB El)):=
 Qu (fn:=f192) Sm (qN func192) false [] _ fun args r h w S vs a=>by obtain⟨l,rfl,Y,rfl⟩:=zN h;obtain⟨b,c,d⟩:=cB l Y;exact⟨_,b,a,by simp[f192],c,d⟩
theorem FQ(s:za):ZQ s=if(K3 s).2.2=true/\(K3 s).2.1≠0 then some ⟨(K3 s).1.a,(K3 s).1.b,(K3 s).1.c,(K3 s).2.1,(K3 s).1.pre⟩else none:=by
 unfold ZQ rdR K3;by_cases e:3<(qg (Lib.cut s [45]).1 [46]).length
 ·rw[ze e,ze e];simp
 rw[zd e,zd e];cases yU (wg,false) 0 (qg (Lib.cut s [45]).1 [46])with
 |none=>simp
 |some st=>
  simp only;cases h:(xo s).any yg
  ·simp only[zq,qn];by_cases f:((Lib.cut s [45]).2.2=false\/st.1.has=3)/\(xo s).length<=10
   ·rw[ze f];have d:((!(Lib.cut s [45]).2.2||st.1.has==3)&&decide ((xo s).length<=10))=true:=by simp only[zC,qS,vk,jq,qz];exact f
    simp only[d,true_and];by_cases g:st.1.has=0
    ·simp[g]
    ·simp[g]
   ·rw[zd f];have d:¬((!(Lib.cut s [45]).2.2||st.1.has==3)&&decide ((xo s).length<=10))=true:=by simp only[zC,qS,vk,jq,qz];exact f
    simp only[d,false_and,qn];simp
  ·simp
theorem Bm:zo C0 f190 []=some (.agg qU.V):=by refine zm rfl ?_;simp[qU,Cut.V,zx,str,qb,qE,zr,zJ,zp,zI,f190]
theorem cC:zf prog 190 (qy [] (Yf (.agg qU.V))):=
 wM (fn:=f190) jS (qN func190) _ _ fun args r h=>by obtain⟨_,rfl,_,rfl⟩:=zN h;exact⟨by simp[f190],_,Bm,qX.refl _⟩
def yf.part(v:yf)(m:Int):Part:=⟨v.a,v.b,v.c,m,v.pre⟩
def yf.ok(v:yf):Prop:=(0<=v.a/\v.a<=999999)/\(0<=v.b/\v.b<=999999)/\(0<=v.c/\v.c<=999999)/\vt v.pre
noncomputable def PG (f:yf->Int->O) (pre:Int->Prop):zb->Option O:=qf (α:=yf×Int) (fun a=>[.agg a.1.V,int a.2]) (fun a=>a.1.ok/\pre a.2) (fun a=>f a.1 a.2)
theorem zaU:∀a b:yf×Int,[O.agg a.1.V,int a.2]=[O.agg b.1.V,int b.2]->a=b:=by rintro⟨f,g⟩ ⟨h,i⟩ e;simp only[zh,zA]at e;obtain⟨c,d⟩:=e;injection c with c;rw[Jq c,qI d]
theorem VM(f:yf->Int->O)(pre:Int->Prop)(v:yf)(i:Int)(u:O)(Y:Hp)(Z:Nat)(h:v.ok)(hi:pre i)(b:(Sh.g va).fix u=.agg v.V)(c:qD Y u=some (u,Y))(d:u.noOwn=true):qy [.g va] (PG f pre) [u,int i] Y Z=some (f v i,Y,Z):=
 vK (show zD Y [u,int i]=some ([u,int i],Y) by simp only[zD,c];rfl) (by show PG f pre [(Sh.g va).fix u,int i]=_;rw[b];exact qM (V:=fun a:yf×Int=>[O.agg a.1.V,int a.2]) (a:=(v,i)) zaU ⟨h,hi⟩) (.inr (by rw[wO,d];rfl))
theorem JK(v:yf):(Sh.g va).fix (.agg v.V)=.agg v.V:=by simp[yf.V]
theorem VN(v:yf)(Y:Hp):qD Y (.agg v.V)=some (.agg v.V,Y):=by simp[yf.V]
theorem VO(v:yf):O.noOwn (.agg v.V)=true:=by simp[yf.V]
def xY(v:yf)(i:Int):O:=ve (v.part 3) i.toNat
noncomputable abbrev Crra:Ctx:=xF prog [] 7 [(6,4),(28,4),(30,4),(32,4),(38,4)] [4,6,28,30,32,38] []
theorem Sn:Gd Crra:=oL mixed trivial trivial
theorem sL(v:yf)(i:Int)(f:v.ok)(hi:0<=i/\i<3):∃d,zo Crra f221 [.agg v.V,int i]=some d/\qX d (xY v i):=by
 obtain⟨a,b,c,e⟩:=v;obtain⟨⟨h,j⟩,⟨k,l⟩,⟨m,n⟩,_⟩:=f;simp only at h j k l m n;refine yB (sh:=.g jK) rfl ?_;have o:=wu (a+1);have p:=wu (b+1);have q:=wu (c+1);rcases(by omega:i=0\/i=1\/i=2)with rfl|rfl|rfl
 ·simp[yf.V,qb,qE,o];rw[zE];simp;rw[zE];simp;rw[zE];simp;rw[j6 (yb (W0 (by simp;exact⟨rfl,rfl,rfl⟩) (by simp;exact⟨rfl,rfl,rfl⟩) (by omega) (by simp;rfl) rfl) (yb (jO (by simp;rfl)) (yb (jO (by simp;rfl)) (yb (jO (by simp;rfl)) (yb (jO (by simp;rfl)) (WZ _))))))
   (xp (by simp;exact⟨rfl,rfl,rfl⟩) (by simp) (by simp;rfl) rfl (xp (by simp;exact⟨rfl,rfl,rfl⟩) (by simp) (by simp;rfl) rfl (kG (by simp;rfl) (kG (by simp;rfl) (kG (by simp;rfl) (kG (by simp;rfl) (Ju _)))))))]
  simp[qb,qE,zr,zJ,zp,qi,xY,yf.part,ve,jf,vD,Cut.V,zx,str,f221];exact⟨_,⟨rfl,rfl⟩,rfl⟩
 ·simp[yf.V,qb,qE,p];rw[zE];simp;rw[zE];simp;rw[j6 (yb (W0 (by simp;exact⟨rfl,rfl,rfl⟩) (by simp;exact⟨rfl,rfl,rfl⟩) (by omega) (by simp;rfl) rfl) (yb (jO (by simp;rfl)) (yb (jO (by simp;rfl)) (yb (jO (by simp;rfl)) (yb (jO (by simp;rfl)) (WZ _))))))
   (xp (by simp;exact⟨rfl,rfl,rfl⟩) (by simp) (by simp;rfl) rfl (xp (by simp;exact⟨rfl,rfl,rfl⟩) (by simp) (by simp;rfl) rfl (kG (by simp;rfl) (kG (by simp;rfl) (kG (by simp;rfl) (kG (by simp;rfl) (Ju _)))))))]
  simp[qb,qE,zr,zJ,zp,qi,xY,yf.part,ve,jf,vD,Cut.V,zx,str,f221];exact⟨_,⟨rfl,rfl⟩,rfl⟩
 ·simp[yf.V,qb,qE,q];rw[zE];simp;rw[j6 (yb (W0 (by simp;exact⟨rfl,rfl,rfl⟩) (by simp;exact⟨rfl,rfl,rfl⟩) (by omega) (by simp;rfl) rfl) (yb (jO (by simp;rfl)) (yb (jO (by simp;rfl)) (yb (jO (by simp;rfl)) (yb (jO (by simp;rfl)) (WZ _))))))
   (xp (by simp;exact⟨rfl,rfl,rfl⟩) (by simp) (by simp;rfl) rfl (xp (by simp;exact⟨rfl,rfl,rfl⟩) (by simp) (by simp;rfl) rfl (kG (by simp;rfl) (kG (by simp;rfl) (kG (by simp;rfl) (kG (by simp;rfl) (Ju _)))))))]
  simp[qb,qE,zr,zJ,zp,qi,xY,yf.part,ve,jf,vD,Cut.V,zx,str,f221];exact⟨_,⟨rfl,rfl⟩,rfl⟩
theorem ab:zf prog 221 (qy [.g va] (PG xY fun i=>0<=i/\i<3)):=
 wM (fn:=f221) Sn (qN func221) _ _ fun args r h=>by obtain⟨⟨p,i⟩,rfl,⟨a,b⟩,rfl⟩:=zN h;obtain⟨c,d,e⟩:=sL p i a b;exact⟨by simp[f221],c,d,e⟩
def Q2(v:yf)(m:Int):O:=YH (v.part m)
noncomputable abbrev Crup:Ctx:=zR prog [(221,qy [.g va] (PG xY fun i=>0<=i/\i<3))]
theorem Sq:Gd Crup:=zS mixed ⟨ab,trivial⟩
theorem fv(v:yf)(m n:Int)(i:Nat):jf (v.part m) i=jf (v.part n) i/\vD (v.part m) i=vD (v.part n) i:=by
 match i with
 | 0=>exact⟨rfl,rfl⟩
 | 1=>exact⟨rfl,rfl⟩
 |_+2=>exact⟨rfl,rfl⟩
theorem Bn(v:yf)(m:Int)(e:v.ok)(k:1<=m/\m<=3):zo Crup f216 [.agg v.V,int m]=some (Q2 v m):=by
 refine zm rfl ?_;have b:=fun Y Z=>VM xY (fun i=>0<=i/\i<3) v (m-1) (.agg v.V) Y Z e
 obtain⟨f,g⟩:=fv v m 3 (m-1).toNat;have h:=wu (m-1);by_cases d:m=3
 ·subst d;simp[yf.V,qb,qE,Q2,YH,vw,Qa,yf.part,Cut.V,zI,f216]
 ·have b:=fun Y Z=>b Y Z (by omega) (JK v) (VN v Y) (VO v)
  have c:=jD d;have a:m<3:=by omega
  simp only[xY,ve,yf.V,Cut.V,<-f,<-g]at b;have j:(v.part m).has=m:=rfl;simp[yf.V,c,h,b,Q2,YH,vw,Qa,j,a,Cut.V,zI,f216]
theorem cD:zf prog 216 (qy [.g va] (PG Q2 fun m=>1<=m/\m<=3)):=
 wM (fn:=f216) Sq (qN func216) _ _ fun args r h=>by obtain⟨⟨p,i⟩,rfl,⟨a,b⟩,rfl⟩:=zN h;exact⟨by simp[f216],_,Bn p i a b,qX.refl _⟩
noncomputable abbrev Crct:Ctx:=zR prog []
theorem Sr:Gd Crct:=qq mixed trivial
def xG(v:yf)(m:Int):O:=int (jF (v.part m))
theorem Bo(v:yf)(m:Int)(k:1<=m/\m<=3):zo Crct f222 [.agg v.V,int m]=some (xG v m):=by
 obtain⟨a,b,c,e⟩:=v;refine zm rfl ?_;rcases(by omega:m=1\/m=2\/m=3)with rfl|rfl|rfl
 ·simp[yf.V,zr,zJ,zp,yG];rw[zE];by_cases f:a=0
  ·have d:(a != 0)=false:=by simpa using f
   simp[d];rw[zE];simp[xG,jF,yf.part,f222]
  ·have d:=xN f;simp[d,xG,jF,yf.part,f222]
 ·simp[yf.V,zr,zJ,zp,yG];rw[zE];by_cases f:a=0
  ·have d:(a != 0)=false:=by simpa using f
   simp[d];rw[zE];by_cases h:b=0
   ·have g:(b != 0)=false:=by simpa using h
    simp[g];rw[zE];simp[xG,jF,yf.part,f,f222]
   ·have g:=xN h;simp[g,xG,jF,yf.part,f,f222]
  ·have d:=xN f;simp[d,xG,jF,yf.part,f,f222]
 ·simp[yf.V,zr,zJ,zp,yG];rw[zE];by_cases f:a=0
  ·have d:(a != 0)=false:=by simpa using f
   simp[d];rw[zE];by_cases h:b=0
   ·have g:(b != 0)=false:=by simpa using h
    simp[g];rw[zE];by_cases j:c=0
    ·have i:(c != 0)=false:=by simpa using j
     simp[i];rw[zE];simp[xG,jF,yf.part,f,h,f222]
    ·have i:=xN j;simp[i,xG,jF,yf.part,f,h,f222]
   ·have g:=xN h;simp[g,xG,jF,yf.part,f,h,f222]
  ·have d:=xN f;simp[d,xG,jF,yf.part,f,f222]
theorem sM:zf prog 222 (qy [.g va] (PG xG fun m=>1<=m/\m<=3)):=
 wM (fn:=f222) Sr (qN func222) _ _ fun args r h=>by obtain⟨⟨p,i⟩,rfl,⟨b,a⟩,rfl⟩:=zN h;exact⟨by simp[f222],_,Bo p i a,qX.refl _⟩
noncomputable abbrev Crut:Ctx:=zR prog [(224,qy [.g jK,.g jK] (Ac fun v w=>int (wv v w)))]
theorem Ss:Gd Crut:=zS mixed ⟨ZF,trivial⟩
theorem En(x y:Cut)(c:x.v.small)(d:y.v.small):∃b,zo Crut f217 [.agg x.V,.agg y.V]=some b/\qX b (Kg x y):=by
 refine WQ (sh:=.s 11 jn) rfl ?_;have a:=fun Y Z=>r7 x y (.agg x.V) (.agg y.V) Y Z (by simp[Cut.V]) (by simp[Cut.V]) (by simp[Cut.V]) c d
 simp only[Cut.V]at a;by_cases h:0<=wv x y
 ·simp[Cut.V,a,h,bI,Kg,dG,qa,f217]
 ·simp[Cut.V,a,h,qb,qE,zr,zJ,zp,bI,Kg,dG,qa,aC,q8.V,f217]
theorem fw:zf prog 217 (qy [.g jK,.g jK] (Ac Kg)):=
 wM (fn:=f217) Ss (qN func217) _ _ fun args r h=>by obtain⟨⟨v,w⟩,rfl,⟨a,b⟩,rfl⟩:=zN h;obtain⟨c,d,e⟩:=En v w a b;exact⟨by simp[f217],c,d,e⟩
noncomputable abbrev Crop:Ctx:=zR prog [(252,zg false [] (Yc Rm fun _ _=>True))]
theorem Su:Gd Crop:=zS mixed ⟨fR,trivial⟩
def Eo(s:za):O:=str (wy q9 s).1
theorem l7(s:za)(h:s.length<=zw):zo Crop f214 [str s]=some (Eo s):=by
 refine zm rfl ?_;have l:∀Y Z,zr prog Y Z 26 7 [(0,str [62,61]),(1,str [60,61]),(2,str [62]),(3,str [60]),(4,str [61]),(5,str [126]),(6,str [94])]=some (.own Z 0 7,qR Y Z (some ⟨9,1,true,zx q9⟩),Z+1):=fun Y Z=>by simp[zr,zJ,zp,q9,str]
 simp[str]at l;simp[l];refine zF (fun k U Y Z=>U 0=str s/\U 5=.own 0 0 7/\U 6=int 7/\U 7=int k/\Y 0=some ⟨9,1,true,zx q9⟩/\wy q9 s=wy (q9.drop k) s) 7 ⟨by simp,by simp,by simp,by simp,by simp,by simp⟩ ?_;rintro k U Y Z r ⟨f,g,i,b,m,a⟩;by_cases c:k<7
 ·have e:k<q9.length:=c;have j:q9[k].length<=zw:=by
   have:∀q∈q9,q.length<=zw:=by decide
   exact this _ (zj e)
  have n:=fun Y Z=>gD s q9[k] Y Z h j
  have o:=ql k;have d:(k:Int)<7:=by omega
  rw[zc e]at a;simp only[wy]at a;by_cases Y:(q9[k]).isPrefixOf s=true
  ·rw[ze Y]at a;simp[f,g,i,b,m,d,c,e,n,Y,o,Eo,a,zI,f214]
  ·rw[zd Y]at a;have p:(q9[k]).isPrefixOf s=false:=Bool.eq_false_iff.2 Y;simp[f,g,i,b,m,d,c,e,n,p,o];exact⟨by omega,a⟩
 ·obtain rfl:k=7:=by omega
  rw[show q9.drop 7=[]from rfl]at a;simp only[wy]at a;simp[f,g,i,b,Eo,a,zI,f214]
theorem gm:zf prog 214 (zg false [] (Ln Eo)):=
 vX Su func214 false [] fun l Y=>⟨by simp[f214],_,l7 l Y,qc _⟩
def mR(c:UInt8):za->List za
 |[]=>[[]]
 |b::l=>if b=c then[]::mR c l else match mR c l with
  |[]=>[[b]]
  |p::a=>(b::p)::a
theorem NO(c:UInt8):∀l,∃p a,mR c l=p::a
 |[]=>⟨[],[],rfl⟩
 |b::l=>by
  unfold mR;split
  ·exact⟨_,_,rfl⟩
  ·split
   ·exact⟨_,_,rfl⟩
   ·exact⟨_,_,rfl⟩
theorem VP{s sep:za}(h:Lib.index s sep=-1):qg s sep=[s]:=by unfold qg Lib.split;rw[Lib.count_miss h];rfl
theorem aO{s sep:za}{i:Nat}(a:sep≠[])(h:Lib.index s sep=i):qg s sep=s.take i::qg (s.drop (i+sep.length)) sep:=by unfold qg Lib.split;rw[Lib.count_hit a h,cW 1,aw h]
theorem aP(c:UInt8):∀s:za,qg s [c]=mR c s
 |[]=>VP rfl
 |b::l=>by
  have a:=aP c l;by_cases h:b=c
  ·subst h;have hi:Lib.index (b::l) [b]=((0:Nat):Int):=by simp[Lib.index]
   rw[aO (by simp) hi];simp[mR,a]
  ·have f:¬c=b:=fun e=>h e.symm
   rcases Lib.index_spec l [c]with⟨d,_⟩|⟨i,d,_⟩
   ·have hi:Lib.index (b::l) [c]=-1:=by simp[Lib.index,f,d]
    rw[VP hi];rw[VP d]at a;simp[mR,h,<-a]
   ·have hi:Lib.index (b::l) [c]=((i+1:Nat):Int):=by
     have:¬((i:Int)=-1):=by omega
     simp[Lib.index,f,d,this]
    rw[aO (by simp) hi];rw[aO (by simp) d]at a;simp only[mR,zd h,<-a];simp
def yF(s:za):List za:=wq (mR 32 s)
theorem eo(s:za):wq (qg s [32])=yF s:=by rw[aP];rfl
theorem sN:yF []=[]:=rfl
theorem VQ(x:za)(l:List za):wq (x::l)=if x=[]then wq l else x::wq l:=by cases x<;>simp[wq,mP]
theorem NP(s:za):yF (32::s)=yF s:=by simp[yF,mR,VQ]
theorem Xo:∀s:za,yF (Lib.trimLeftB s 32)=yF s
 |[]=>rfl
 |b::l=>by
  unfold Lib.trimLeftB;by_cases h:b=32
  ·subst h;rw[Cn (by simp),NP];exact Xo l
  ·rw[Zs (by simpa using h)]
theorem Bp(c:UInt8):∀s:za,mR c (s++[c])=mR c s++[[]]
 |[]=>by simp[mR]
 |b::l=>by
  have a:=Bp c l;obtain⟨p,d,e⟩:=NO c l;by_cases h:b=c
  ·simp[mR,h,a]
  ·simp[mR,h,a,e]
theorem NQ(s:za):yF (s++[32])=yF s:=by unfold yF;rw[Bp];simp[wq,mP]
theorem Ij(s:za):yF (Lib.trimRightB s 32)=yF s:=by
 have a:∀m:za,yF ((m.dropWhile (·==32)).reverse)=yF m.reverse:=by
  intro m
  induction m with
  |nil=>rfl
  |cons b m c=>
   by_cases h:b=32
   ·subst h;rw[Cn (by simp),c,List.reverse_cons,NQ]
   ·rw[Zs (by simpa using h)]
 have:=a s.reverse;rwa [List.reverse_reverse]at this
theorem NR(s:za):yF (Lib.trimB s 32)=yF s:=by unfold Lib.trimB;rw[Xo,Ij]
def hd(s:za):za:=s.takeWhile (· != 32)
def tl(s:za):za:=s.dropWhile (· != 32)
theorem fx(s:za):hd s++tl s=s:=List.takeWhile_append_dropWhile
theorem sO:∀(u:za),(∀c∈u,c≠32)->∀r,(mR 32 (u++32::r)=u::mR 32 r)/\mR 32 u=[u]
 |[],_,r=>⟨by simp[mR],rfl⟩
 |b::u,h,r=>by
  obtain⟨d,e⟩:=sO u (fun c f=>h c (by simp[f])) r;have a:¬b=32:=h b (by simp);constructor
  ·rw[q7,mR,zd a,d]
  ·rw[mR,zd a,e]
theorem NS(s:za):∀c∈hd s,c≠32:=fun c a=>by have:=List.all_takeWhile (p:=fun c:UInt8=>c != 32) (l:=s);rw[zY]at this;simpa using this c a
theorem sP(s:za):tl s=[]\/∃r,tl s=32::r:=by
 unfold tl
 induction s with
 |nil=>exact .inl rfl
 |cons b s a=>
  by_cases h:b=32
  ·subst h;rw[Zs (by simp)];exact .inr ⟨s,rfl⟩
  ·rw[Cn (by simpa using h)];exact a
theorem Bq{s:za}(h:hd s≠[]):yF s=hd s::yF (tl s):=by
 have e:=fx s;rcases sP s with a|⟨r,a⟩
 ·rw[a,jL]at e;rw[a,sN]
  conv=>lhs;rw[<-e]
  unfold yF;rw[(sO (hd s) (NS s) []).2,VQ,zd h];rfl
 ·rw[a]at e⊢;rw[NP]
  conv=>lhs;rw[<-e]
  unfold yF;rw[(sO (hd s) (NS s) r).1,VQ,zd h]
def FR(s:za):Prop:=s=[]\/hd s≠[]
theorem YP:∀s:za,FR (Lib.trimLeftB s 32)
 |[]=>.inl rfl
 |b::l=>by
  unfold Lib.trimLeftB;by_cases h:b=32
  ·subst h;rw[Cn (by simp)];exact YP l
  ·rw[Zs (by simpa using h)];exact .inr (by simp[hd,h])
theorem NT{s:za}(h:FR s):Lib.trimLeftB s 32=s:=by
 cases s with
 |nil=>rfl
 |cons b l=>
  rcases h with h|h
  ·cases h
  ·unfold Lib.trimLeftB;by_cases a:b=32
   ·subst a;exact absurd (by simp[hd]) h
   ·rw[Zs (by simpa using a)]
theorem Xq(s:za):(Lib.trimLeftB s 32).length<=s.length:=(List.dropWhile_sublist _).length_le
theorem zaV{g:za}(d:∀c∈g,c≠32)(s:za):g.isPrefixOf s=g.isPrefixOf (hd s):=by
 induction g generalizing s with
 |nil=>simp
 |cons a g h=>
  cases s with
  |nil=>rfl
  |cons b s=>
   have i:=d a (by simp);by_cases f:b=32
   ·subst f;have e:hd (32::s)=[]:=by simp[hd]
    rw[e];simp[List.isPrefixOf,i]
   ·have e:hd (b::s)=b::hd s:=by simp[hd,f]
    rw[e];simp only[List.isPrefixOf];rw[h (fun c j=>d c (by simp[j])) s]
theorem NU:∀(a:List za) (_:∀g∈a,∀c∈g,c≠32) (s:za),wy a s=((wy a (hd s)).1,(wy a (hd s)).2++tl s)
 |[],_,s=>by simp[wy,fx]
 |g::a,h,s=>by
  have Y:=zaV (h g (by simp)) s;simp only[wy];rw[Y];split
  ·rename_i b;have d:=(Cl.1 b).length_le;have e:=fx s
   conv=>lhs;rw[<-e]
   rw[List.drop_append_of_le_length d]
  ·exact NU a (fun g f=>h g (by simp[f])) s
theorem zaW:∀g∈q9,∀c∈g,c≠32:=by decide
theorem Qg:∀(a:List za) (s:za),(wy a s).2=s.drop (wy a s).1.length
 |[],s=>rfl
 |g::a,s=>by
  simp only[wy];split
  ·rfl
  ·exact Qg a s
theorem Ep(a:List za)(s:za):(wy a s).2 <:+ s:=by rw[Qg];exact List.drop_suffix _ _
abbrev ae:=za×za
def jQ:List za->Option (List ae)
 |[]=>some []
 |[w]=>if(wy q9 w).2=[]then none else some [wy q9 w]
 |w::x::a=>if(wy q9 w).2=[]then(jQ a).map (((wy q9 w).1,x)::·)else(jQ (x::a)).map (wy q9 w::·)
theorem W4(w:za)(a:List za)(h:(wy q9 w).2≠[]):jQ (w::a)=(jQ a).map (wy q9 w::·):=by
 cases a with
 |nil=>simp[jQ,h]
 |cons x a=>simp[jQ,h]
def sQ(s:za):ae×za:=((((wy q9 s).1,hd (Lib.trimLeftB (wy q9 s).2 32)):ae),tl (Lib.trimLeftB (wy q9 s).2 32))
theorem NV{s:za}(h:hd s≠[]):jQ (yF s)=if(sQ s).1.2=[]then none else(jQ (yF (sQ s).2)).map ((sQ s).1::·):=by
 have f:=NU q9 zaW s;obtain⟨o,r,a⟩:∃o r,wy q9 (hd s)=(o,r):=⟨_,_,rfl⟩;rw[a]at f;simp only at f;have d:∀c∈r,c≠32:=fun c g=>by have:=Ep q9 (hd s);rw[a]at this;exact NS s c (this.mem g)
 rw[Bq h];by_cases i:r=[]
 ·subst i;rw[ku]at f;unfold sQ;rw[f];simp only;obtain⟨u,j⟩:=yx (Lib.trimLeftB (tl s) 32);have l:yF (tl s)=yF u:=by rw[<-j,Xo]
  have ht:FR u:=by rw[<-j];exact YP _
  rw[j,l];rcases ht with rfl|ht
  ·rw[sN,ze (show hd []=[]from rfl)];simp[jQ,a]
  ·rw[Bq ht,zd ht];simp[jQ,a]
 ·have m:Lib.trimLeftB (r++tl s) 32=r++tl s:=by
   cases r with
   |nil=>exact absurd rfl i
   |cons b r=>have n:=d b (by simp);exact NT (.inr (by simp[hd,n]))
  have p:hd (r++tl s)=r:=by unfold hd;rw[List.takeWhile_append_of_pos (fun c g=>by simpa using d c g)];rcases sP s with e|⟨q,e⟩<;>rw[e]<;>simp
  have t:tl (r++tl s)=tl s:=by
   unfold tl;rw[List.dropWhile_append_of_pos (fun c g=>by simpa using d c g)];rcases sP s with e|⟨q,e⟩
   ·have k:List.dropWhile (fun x=>x != 32) s=[]:=e;rw[k];rfl
   ·have k:List.dropWhile (fun x=>x != 32) s=32::q:=e;rw[k];rfl
  unfold sQ;rw[f];simp only;rw[m,p,t,zd i,W4 _ _ (by rw[a];exact i),a]
theorem NW{s:za}(h:(sQ s).1.2≠[]):(sQ s).2.length<s.length:=by unfold sQ at h⊢;simp only at h⊢;have a:=fx (Lib.trimLeftB (wy q9 s).2 32);have b:=zt List.length a;rw[qj]at b;have c:=Xq (wy q9 s).2;have d:=Kj q9 s;have e:=jl.2 h;omega
theorem TO.ltle{α:Type}{c:α->α->Int}(h:TO c){x y z:α}(d:c x y<0)(a:c y z<=0):c x z<0:=by
 rcases XP a with a|a
 ·exact h.trans d a
 ·have e:=h.tr x y z (by omega) (by omega);rcases XP e with b|b
  ·exact b
  ·have f:=(h.eq y z).1 a;have g:=(h.eq x z).1 b;have:=h.tr y z x (by omega) (by omega);have:=(h.flip x y).1 d;omega
theorem TO.lelt{α:Type}{c:α->α->Int}(h:TO c){x y z:α}(b:c x y<=0)(d:c y z<0):c x z<0:=by
 have e:=h.tr x y z b (by omega);rcases XP e with a|a
 ·exact a
 ·have f:=(h.eq x z).1 a;have:=h.tr z x y (by omega) b;have:=(h.flip y z).1 d;omega
theorem TO.irr{α:Type}{c:α->α->Int}(h:TO c)(x:α):¬c x x<0:=by rw[h.refl];omega
theorem TO.UJ{α:Type}{c:α->α->Int}(h:TO c){x y:α}(a:¬c x y<0):c y x<=0:=(h.le y x).2 (by omega)
theorem TO.Gs{α:Type}{c:α->α->Int}(h:TO c){x y:α}(a:¬c x y<=0):c y x<0:=(h.flip y x).2 (by omega)
theorem orL2{a b:Int}(h:K0 [a,b]=0):a=0/\b=0:=by
 simp only[K0]at h;split at h
 ·rename_i e;split at h
  ·rename_i c;exact⟨e,c⟩
  ·rename_i c;exact absurd h c
 ·rename_i e;exact absurd h e
theorem orL3{a b c:Int}(h:K0 [a,b,c]=0):a=0/\b=0/\c=0:=by
 simp only[K0]at h;split at h
 ·rename_i e;split at h
  ·rename_i d;split at h
   ·rename_i f;exact⟨e,d,f⟩
   ·rename_i f;exact absurd h f
  ·rename_i d;exact absurd h d
 ·rename_i e;exact absurd h e
theorem Er{p q:za}(Y:yu p=true)(j:yu q=true)(h:Lib.trimLeftB p 48=Lib.trimLeftB q 48):p=q:=by
 have a:∀p:za,yu p=true->(p=[48]/\Lib.trimLeftB p 48=[])\/(Lib.trimLeftB p 48=p/\p≠[]):=by
  intro p Y;cases p with
  |nil=>simp[yu]at Y
  |cons c l=>
   by_cases i:c=48
   ·subst i;cases l with
    |nil=>exact .inl ⟨rfl,rfl⟩
    |cons d l=>simp[yu]at Y
   ·refine .inr ⟨?_,by simp⟩;unfold Lib.trimLeftB;rw[Zs (by simpa using i)]
 rcases a p Y with⟨b,f⟩|⟨b,f⟩<;>rcases a q j with⟨e,g⟩|⟨e,g⟩
 ·rw[b,e]
 ·rw[f,e]at h;exact absurd h.symm g
 ·rw[b,g]at h;exact absurd h f
 ·rw[b,e]at h;exact h
theorem pj{p:za}(h:yg p=false):p≠[]/\(kZ p=true->yu p=true):=by simp only[yg,wA]at h;obtain⟨⟨_,b⟩,a⟩:=h;refine⟨fun e=>by subst e;simp[dx]at b,fun hd=>?_⟩;rw[hd]at a;simpa using a
theorem Ik{p q:za}(Y:yg p=false)(d:yg q=false)(h:wK p q=0):p=q:=by
 obtain⟨j,e⟩:=pj Y;obtain⟨k,f⟩:=pj d;have g:xE p=kZ p:=by cases p<;>simp_all[xE]
 have c:xE q=kZ q:=by cases q<;>simp_all[xE]
 unfold wK at h;rw[g,c]at h;cases a:kZ p<;>cases b:kZ q<;>simp only[a,b,qB,zq,qn]at h
 ·exact(xz p q).1 h
 ·cases h
 ·cases h
 ·obtain⟨_,i⟩:=orL2 h;exact Er (e a) (f b) ((xz _ _).1 i)
theorem FT{α:Type}{c:α->α->Int}:∀{a b:List α},(∀x∈a,∀y∈b,c x y=0->x=y)->yv c a b=0->a=b
 |[],[],_,_=>rfl
 |[],_::_,_,h=>by simp[yv]at h
 |_::_,[],_,h=>by simp[yv]at h
 |x::a,y::b,d,h=>by
  simp only[yv]at h;split at h
  ·rename_i e;rw[d x (by simp) y (by simp) e,FT (fun u f v g=>d u (by simp[f]) v (by simp[g])) h]
  ·rename_i e;exact absurd h e
theorem gL{a b:Cut}(j:a.xl)(k:b.xl)(h:wv a b=0):a=b:=by
 obtain⟨⟨z,A,B,l⟩,m⟩:=a;obtain⟨⟨C,D,E,n⟩,o⟩:=b;unfold wv at h;split at h
 ·rename_i c;have p:m=o:=by
   split at h
   ·rename_i e;exact e
   ·split at h<;>cases h
  unfold ZO at c;split at c
  ·rename_i d;obtain⟨q,r,s⟩:=orL3 d;have f:=Xn q;have g:=Xn r;have i:=Xn s;have t:l=n:=by
    simp only at c;split at c
    ·rename_i u;split at c
     ·rename_i l2;rw[zT.1 u,zT.1 l2]
     ·cases c
    ·split at c
     ·cases c
     ·exact FT (fun x v y w=>Ik (j.2 x v) (k.2 y w)) c
   simp only at f g i;rw[f,g,i,t,p]
  ·rename_i d;exact absurd c d
 ·rename_i c;exact absurd h c
mutual
def FU(a:Cut->Bool):List Cut->List q8
 |[]=>[]
 |c::l=>if a c=true then Pp a c l else FU a l
def Pp(a:Cut->Bool)(s:Cut):List Cut->List q8
 |[]=>[wZ s]
 |c::l=>if a c=true then Pp a s l else aC s c::FU a l
end
theorem sR(out:List q8)(s c:Cut):Qb (out++[wZ s]) c=out++[aC s c]:=by unfold Qb;rw[List.getLast?_append];simp[wZ,aC]
theorem l8(a:Cut->Bool):∀(l:List Cut) (out:List q8),(KW a l (false,out)).2=out++FU a l/\∀s,(KW a l (true,out++[wZ s])).2=out++Pp a s l
 |[],out=>⟨by simp[KW,FU],fun s=>by simp[KW,Pp]⟩
 |c::l,out=>by
  have b:∀st,KW a (c::l) st=KW a l (X7 a st c):=fun _=>rfl
  constructor
  ·rw[b];cases h:a c
   ·have:X7 a (false,out) c=(false,out):=by simp[X7,h]
    rw[this,(l8 a l out).1,FU,h,zd (by simp)]
   ·have:X7 a (false,out) c=(true,out++[wZ c]):=by simp[X7,h]
    rw[this,(l8 a l out).2 c,FU,h,ze rfl]
  ·intro s;rw[b];cases h:a c
   ·have:X7 a (true,out++[wZ s]) c=(false,out++[aC s c]):=by simp[X7,h,sR]
    rw[this,(l8 a l (out++[aC s c])).1,Pp,h,zd (by simp),q5];rfl
   ·have:X7 a (true,out++[wZ s]) c=(true,out++[wZ s]):=by simp[X7,h]
    rw[this,(l8 a l out).2 s,Pp,h,ze rfl]
noncomputable def l9 (a b:List q8):List Cut:=bX (Qc (qT a++qT b))
theorem Br(f:Bool->Bool->Bool)(a b:List q8):kI f a b=FU (fun c=>f (yl a c) (yl b c)) (l9 a b):=by unfold kI;rw[lI,(l8 _ _ []).1];rfl
theorem JL(a b:List q8)(c:Cut):c∈l9 a b↔c∈qT a\/c∈qT b:=by unfold l9;rw[dP,(xU _).mem_iff,zK]
theorem Xr{l:List q8}(h:jA l):∀c∈qT l,c.xl:=Yh h
theorem Ky{a b:List q8}(c:jA a)(d:jA b):(l9 a b).Pairwise fun x y=>wv x y<0:=by
 refine bY _ (fun x e y f h=>?_) (nn _);have g:∀z∈Qc (qT a++qT b),z.xl:=fun z i=>by
  rcases zK.1 ((xU _).mem_iff.1 i)with h|h
  ·exact Xr c z h
  ·exact Xr d z h
 exact gL (g x e) (g y f) h
def XJ:Option Cut->List q8->Prop
 |_,[]=>True
 |lo,s::l=>(∀q,lo=some q->wv q s.lo<0)/\if s.kc=true then l=[]/\s.hi=Qt else wv s.lo s.hi<0/\XJ (some s.hi) l
theorem Il{lo:Option Cut}{l:List q8}(h:XJ lo l):XJ none l:=by
 cases l with
 |nil=>trivial
 |cons s l=>exact⟨fun q e=>(by cases e),h.2⟩
theorem Es(f:Cut->Bool):∀(l:List Cut),l.Pairwise (fun x y=>wv x y<0)->(∀lo:Option Cut,(∀q,lo=some q->∀x∈l,wv q x<0)->XJ lo (FU f l))/\∀(lo:Option Cut) (s:Cut),(∀q,lo=some q->wv q s<0)->(∀x∈l,wv s x<0)->XJ lo (Pp f s l)
 |[],_=>⟨fun _ _=>trivial,fun lo s h _=>⟨h,by simp[wZ]⟩⟩
 |c::l,hs=>by
  obtain⟨g,k⟩:=wG.1 hs;obtain⟨i,j⟩:=Es f l k;constructor
  ·intro lo a;rw[FU];split
   ·exact j lo c (fun q b=>a q b c (by simp)) g
   ·exact i lo fun q b x d=>a q b x (by simp[d])
  ·intro lo s a e;rw[Pp];split
   ·exact j lo s a fun x d=>e x (by simp[d])
   ·refine⟨a,?_⟩;simp only[aC,zq,qn];exact⟨e c (by simp),i (some c) fun q b x d=>by injection b with b;rw[<-b];exact g x d⟩
noncomputable def QN (a:Cut->Bool):Bool->List Cut->Cut->Bool
 |d,[],_=>d
 |d,x::l,c=>if wv x c<=0 then QN a (a x) l c else d
theorem Wi:∀{l:List q8} {lo c:Cut},XJ (some lo) l->wv c lo<=0->yl l c=false
 |[],_,_,_,_=>rfl
 |s::l,lo,c,h,e=>by
  have f:wv lo s.lo<0:=h.1 lo rfl;have b:wv c s.lo<0:=we.lelt e f;have g:vC s c=false:=by have:=(we.flip c s.lo).1 b;simp[vC,show¬wv s.lo c<=0 by omega]
  have d:yl l c=false:=by
   have a:=h.2;split at a
   ·rw[a.1];rfl
   ·exact Wi a.2 (Zc (we.trans b a.1))
  unfold yl at d⊢;rw[yr,g,d];rfl
theorem NX(b:Cut->Bool)(c:Cut):∀(l:List Cut),l.Pairwise (fun x y=>wv x y<0)->yl (FU b l) c=QN b false l c/\∀s,(∀x∈l,wv s x<0)->yl (Pp b s l) c=if wv s c<=0 then QN b true l c else false
 |[],_=>⟨rfl,fun s _=>by simp[Pp,yl,vC,wZ,QN]⟩
 |x::l,hs=>by
  obtain⟨k,r⟩:=wG.1 hs;obtain⟨t,u⟩:=NX b c l r;have h:=Es b l r;constructor
  ·rw[FU,QN];cases v:b x
   ·rw[zd (by simp),t];split
    ·rfl
    ·rename_i w;cases l with
     |nil=>rfl
     |cons y l=>have d:=we.trans (we.Gs w) (k y (by simp));have:=(we.flip c y).1 d;simp only[QN];rw[zd (by omega)]
   ·rw[ze rfl,u x k]
  ·intro s i;have m:=i x (by simp);rw[Pp,QN];cases v:b x
   ·rw[zd (by simp)];have n:=(h.1 (some x) fun q o y p=>by injection o with o;rw[<-o];exact k y p);have e:yl (aC s x::FU b l) c=(vC (aC s x) c||yl (FU b l) c):=rfl;rw[e];by_cases a:wv x c<=0
    ·have f:wv s c<=0:=Zc (we.ltle m a);have z:vC (aC s x) c=false:=by have:=(we.le x c).1 a;simp[vC,aC,show¬wv c x<0 by omega]
     rw[z,ze f,ze a,km,t]
    ·have j:=we.Gs a;have A:yl (FU b l) c=false:=Wi n (Zc j);rw[A,Bool.or_false,zd a];simp only[vC,aC,j,km,decide_true,Bool.and_true];by_cases f:wv s c<=0<;>simp[f]
   ·rw[ze rfl,u s fun y p=>i y (by simp[p])];by_cases a:wv x c<=0
    ·rw[ze a]
    ·rw[zd a];have g:QN b true l c=true:=by
      cases l with
      |nil=>rfl
      |cons y l=>have d:=we.trans (we.Gs a) (k y (by simp));have:=(we.flip c y).1 d;simp only[QN];rw[zd (by omega)]
     rw[g]
theorem Bs{a:List q8}{x c:Cut}(b:wv x c<=0)(h:∀y∈qT a,wv y c<=0->wv y x<=0):yl a c=yl a x:=by
 induction a with
 |nil=>rfl
 |cons s a j=>
  have e:∀c,yl (s::a) c=(vC s c||yl a c):=fun _=>rfl
  rw[e,e,j fun y k=>h y (by rw[qT];exact List.mem_append_right _ k)];congr 1;have d:s.lo∈qT (s::a):=by rw[qT];apply List.mem_append_left;split<;>simp
  have i:wv s.lo c<=0↔wv s.lo x<=0:=⟨h _ d,fun g=>we.tr _ _ _ g b⟩;unfold vC;cases l:s.kc
  ·have f:s.hi∈qT (s::a):=by rw[qT,l];simp
   have m:wv c s.hi<0↔wv x s.hi<0:=by
    constructor
    ·exact fun g=>we.lelt b g
    ·intro g;refine ZS fun n=>?_
     have o:=h _ f (we.UJ n);exact we.irr x (we.ltle g o)
   simp only[i,m]
  ·simp only[i,KI]
theorem pk{a:List q8}{c:Cut}(h:∀y∈qT a,¬wv y c<=0):yl a c=false:=by
 induction a with
 |nil=>rfl
 |cons s a d=>
  have e:yl (s::a) c=(vC s c||yl a c):=rfl;have b:s.lo∈qT (s::a):=by rw[qT];apply List.mem_append_left;split<;>simp
  rw[e,d fun y f=>h y (by rw[qT];exact List.mem_append_right _ f)];simp[vC,h _ b]
theorem fy(f:Cut->Bool)(c:Cut):∀(l:List Cut) (d:Bool),l.Pairwise (fun x y=>wv x y<0)->(QN f d l c=d/\∀y∈l,¬wv y c<=0)\/∃x∈l,wv x c<=0/\QN f d l c=f x/\∀y∈l,wv y c<=0->wv y x<=0
 |[],d,_=>.inl ⟨rfl,fun y a=>by cases a⟩
 |x::l,d,hs=>by
  obtain⟨j,m⟩:=wG.1 hs;by_cases g:wv x c<=0
  ·right;simp only[QN,ze g];rcases fy f c l (f x) m with⟨e,h⟩|⟨z,k,i,e,h⟩
   ·refine⟨x,by simp,g,e,fun y a b=>?_⟩;rcases zv.1 a with rfl|a
    ·rw[we.refl];exact zef _
    ·exact absurd b (h y a)
   ·refine⟨z,by simp[k],i,e,fun y a b=>?_⟩;rcases zv.1 a with rfl|a
    ·exact Zc (j z k)
    ·exact h y a b
  ·left;simp only[QN,zd g];refine⟨trivial,fun y a b=>?_⟩;rcases zv.1 a with rfl|a
   ·exact g b
   ·exact g (Zc (we.ltle (j y a) b))
theorem ma{f:Bool->Bool->Bool}(i:f false false=false){a b:List q8}(j:jA a)(k:jA b)(c:Cut):yl (kI f a b) c=f (yl a c) (yl b c):=by
 have hs:=Ky j k;rw[Br,(NX _ c _ hs).1];rcases fy (fun c=>f (yl a c) (yl b c)) c (l9 a b) false hs with⟨e,g⟩|⟨x,l,h,e,g⟩
 ·rw[e,pk fun y d=>g y ((JL a b y).2 (.inl d)),pk fun y d=>g y ((JL a b y).2 (.inr d)),i]
 ·rw[e,Bs h fun y d=>g y ((JL a b y).2 (.inl d)),Bs h fun y d=>g y ((JL a b y).2 (.inr d))]
theorem cE{f:Bool->Bool->Bool}{a b:List q8}(c:jA a)(d:jA b):XJ none (kI f a b):=by rw[Br];exact(Es _ _ (Ky c d)).1 none fun q e=>by cases e
theorem sS:∀{l m:List q8} {lo w:Option Cut},XJ lo l->XJ w m->jA l->jA m->(∀c,c.xl->yl l c=yl m c)->l=m
 |[],[],_,_,_,_,_,_,_=>rfl
 |[],t::m,_,w,_,u,_,G,h=>by
  have:=h t.lo (G t (by simp)).1;have r:yl (t::m) t.lo=true:=by
   have A:vC t t.lo=true:=by
    have k:=u.2;unfold vC;rw[we.refl];split at k
    ·rename_i e;simp[e]
    ·simp[k.1]
   unfold yl;rw[yr,A];rfl
  rw[r]at this;cases this
 |s::l,[],lo,_,n,_,H,_,h=>by
  have:=h s.lo (H s (by simp)).1;have r:yl (s::l) s.lo=true:=by
   have A:vC s s.lo=true:=by
    have k:=n.2;unfold vC;rw[we.refl];split at k
    ·rename_i e;simp[e]
    ·simp[k.1]
   unfold yl;rw[yr,A];rfl
  rw[r]at this;cases this
 |s::l,t::m,lo,w,n,u,H,G,h=>by
  have v:∀{s:q8} {l:List q8} {lo:Option Cut},XJ lo (s::l)->vC s s.lo=true:=fun{s l lo} n=>by
   have k:=n.2;unfold vC;rw[we.refl];split at k
   ·rename_i e;simp[e]
   ·simp[k.1]
  have d:∀{s:q8} {l:List q8} {lo:Option Cut} {c:Cut},XJ lo (s::l)->(s.kc=false->wv c s.hi<=0)->yl (s::l) c=vC s c:=fun{s l lo c} n r=>by
   have k:=n.2;have e:yl (s::l) c=(vC s c||yl l c):=rfl;rw[e];cases B:s.kc
   ·rw[B,zd (by simp)]at k;rw[Wi k.2 (r B),Bool.or_false]
   ·rw[B,ze rfl]at k;rw[k.1];simp[yl]
  have o:∀{s:q8} {l:List q8} {lo:Option Cut} {c:Cut},XJ lo (s::l)->wv c s.lo<0->yl (s::l) c=false:=fun{s l lo c} n r=>by
   have k:=n.2;rw[d n fun B=>?_]
   ·have:=(we.flip c s.lo).1 r;simp[vC,show¬wv s.lo c<=0 by omega]
   ·rw[B,zd (by simp)]at k;exact Zc (we.trans r k.1)
  have C:=H s (by simp);have D:=G t (by simp);have I:yl (s::l) s.lo=true:=by unfold yl;rw[yr,v n];rfl
  have J:yl (t::m) t.lo=true:=by unfold yl;rw[yr,v u];rfl
  have j:s.lo=t.lo:=by
   refine gL C.1 D.1 ?_;have n1:¬wv s.lo t.lo<0:=fun i=>by have:=h s.lo C.1;rw[I,o u i]at this;cases this
   have M:¬wv t.lo s.lo<0:=fun i=>by have:=h t.lo D.1;rw[J,o n i]at this;cases this
   have:=(we.flip s.lo t.lo);have:=(we.flip t.lo s.lo);omega
  have f:=n.2;have g:=u.2;cases p:s.kc<;>cases q:t.kc
  ·rw[p,zd (by simp)]at f;rw[q,zd (by simp)]at g;have E:yl (s::l) s.hi=false:=by rw[d n fun _=>by rw[we.refl];exact zef _];simp[vC,p,we.refl]
   have N:yl (t::m) t.hi=false:=by rw[d u fun _=>by rw[we.refl];exact zef _];simp[vC,q,we.refl]
   have F:s.hi=t.hi:=by
    refine gL C.2 D.2 ?_;have n1:¬wv s.hi t.hi<0:=fun i=>by
     have:=h s.hi C.2;rw[E,d u fun _=>Zc i]at this;have y:wv t.lo s.hi<=0:=by rw[<-j];exact Zc f.1
     simp[vC,i,y]at this
    have M:¬wv t.hi s.hi<0:=fun i=>by
     have:=h t.hi D.2;rw[N,d n fun _=>Zc i]at this;have y:wv s.lo t.hi<=0:=by rw[j];exact Zc g.1
     simp[vC,i,y]at this
    have:=(we.flip s.hi t.hi);have:=(we.flip t.hi s.hi);omega
   have K:s=t:=by obtain⟨a,b,c⟩:=s;obtain⟨P,Q,R⟩:=t;simp only at j F p q;rw[j,F,p,q]
   subst K;rw[sS f.2 g.2 (fun x L=>H x (by simp[L])) (fun x L=>G x (by simp[L])) fun c r=>?_];by_cases z:wv c s.hi<=0
   ·rw[Wi f.2 z,Wi g.2 z]
   ·have:=h c r;have A:vC s c=false:=by have:=we.Gs z;simp[vC,p,show¬wv c s.hi<0 by omega]
    unfold yl at this⊢;rw[yr,yr,A]at this;exact this
  ·rw[p,zd (by simp)]at f;have:=h s.hi C.2;have E:yl (s::l) s.hi=false:=by rw[d n fun _=>by rw[we.refl];exact zef _];simp[vC,p,we.refl]
   have y:wv t.lo s.hi<=0:=by rw[<-j];exact Zc f.1
   rw[E,d u fun e=>by rw[q]at e;cases e]at this;simp[vC,q,y]at this
  ·rw[q,zd (by simp)]at g;have:=h t.hi D.2;have E:yl (t::m) t.hi=false:=by rw[d u fun _=>by rw[we.refl];exact zef _];simp[vC,q,we.refl]
   have y:wv s.lo t.hi<=0:=by rw[j];exact Zc g.1
   rw[E,d n fun e=>by rw[p]at e;cases e]at this;simp[vC,p,y]at this
  ·rw[p,ze rfl]at f;rw[q,ze rfl]at g;obtain⟨a,b,c⟩:=s;obtain⟨P,Q,R⟩:=t;simp only at j p q f g;rw[f.1,g.1,j,p,q,f.2,g.2]
theorem NY{c:Cut}(Y:0<=c.v.a/\0<=c.v.b/\0<=c.v.c):wv qU c<=0:=by
 obtain⟨⟨a,b,d,p⟩,f⟩:=c;obtain⟨k,l,m⟩:=Y;simp only at k l m;have g:∀x:Int,0<=x->wD 0 x=0/\x=0\/wD 0 x<0:=by
  intro x u;unfold wD;split
  ·right;omega
  ·split
   ·omega
   ·left;omega
 have j:wK [48] (p.headD [48])<=0:=by
  have o:xE [48]=true:=by decide
  unfold wK;rw[o];have r:Lib.trimLeftB [48] 48=[]:=by decide
  simp only[qB,r];split
  ·obtain⟨q,s⟩:=yx (Lib.trimLeftB (p.headD [48]) 48);rw[s];cases q with
   |nil=>decide
   |cons x q=>
    have:wD (([]:za).length) ((x::q).length)<0:=by
     rcases g ((x::q).length) (by omega)with⟨_,h⟩|h
     ·simp at h;omega
     ·exact h
    simp only[K0];rw[zd (by omega)];omega
  ·omega
 have t:ZO ⟨0,0,0,[[48]]⟩ ⟨a,b,d,p⟩<=0:=by
  unfold ZO;simp only;rcases g a k with⟨e1,_⟩|e1
  ·rcases g b l with⟨e2,_⟩|e2
   ·rcases g d m with⟨e3,_⟩|e3
    ·have i:K0 [wD 0 a,wD 0 b,wD 0 d]=0:=by simp[K0,e1,e2,e3]
     rw[ze i,zd (by simp)];split
     ·omega
     ·cases p with
      |nil=>rename_i h;exact absurd rfl h
      |cons q p=>
       simp only[yv];split
       ·cases p<;>simp[yv]
       ·simpa using j
    ·have i:K0 [wD 0 a,wD 0 b,wD 0 d]=wD 0 d:=by simp only[K0,e1,e2,qB];rw[zd (by omega)]
     rw[i,zd (by omega)];omega
   ·have i:K0 [wD 0 a,wD 0 b,wD 0 d]=wD 0 b:=by simp only[K0,e1,qB];rw[zd (by omega)]
    rw[i,zd (by omega)];omega
  ·have i:K0 [wD 0 a,wD 0 b,wD 0 d]=wD 0 a:=by simp only[K0];rw[zd (by omega)]
   rw[i,zd (by omega)];omega
 have e:wv qU ⟨⟨a,b,d,p⟩,f⟩=if ZO ⟨0,0,0,[[48]]⟩ ⟨a,b,d,p⟩=0 then(if false=f then 0 else if f=true then -1 else 1)else ZO ⟨0,0,0,[[48]]⟩ ⟨a,b,d,p⟩:=rfl
 rw[e];by_cases n:ZO ⟨0,0,0,[[48]]⟩ ⟨a,b,d,p⟩=0
 ·rw[ze n];cases f<;>simp
 ·rw[zd n];exact t
def aQ(c:Cut):Prop:=0<=c.v.a/\0<=c.v.b/\0<=c.v.c
def Bt(l:List q8):Prop:=∀s∈l,aQ s.lo/\aQ s.hi
theorem VR:jA [wZ qU]:=(QK v7).2
theorem Bu{m:List q8}{lo:Option Cut}(e:XJ lo m)(a:jA m)(Y:Bt m):kI and m [wZ qU]=m:=by
 refine sS (cE a VR) (Il e) (xi _ a VR) a fun c _=>?_
 rw[ma rfl a VR];cases b:yl m c
 ·rfl
 ·have:wv qU c<=0:=by unfold yl at b;rw[List.any_eq_true]at b;obtain⟨s,hs,d⟩:=b;simp only[vC,zC,qz]at d;exact we.tr _ _ _ (NY (Y s hs).1) d.1
  simp[yl,vC,wZ,this]
theorem Im{f:Bool->Bool->Bool}(h:f false false=false)(g:∀x y,f x y=f y x){a b:List q8}(d:jA a)(e:jA b):kI f a b=kI f b a:=by
 refine sS (cE d e) (cE e d) (xi _ d e) (xi _ e d) fun c _=>?_
 rw[ma h d e,ma h e d,g]
theorem Sv(a b:Cut):XJ none (dG a b):=by
 unfold dG;split
 ·trivial
 ·exact⟨fun q e=>(by cases e),by simp only[aC,zq,qn];exact⟨by omega,trivial⟩⟩
theorem NZ(a:Cut):XJ none [wZ a]:=⟨fun q e=>(by cases e),by simp[wZ]⟩
theorem Io(f:Bool->Bool->Bool){a b:List q8}(c:Bt a)(d:Bt b):Bt (kI f a b):=oO (Q:=aQ) (by simp[aQ,Qt]) f c d
noncomputable def aR (o:za) (p:Part):List q8×Bool:=if(vB (Jv o p)).2=true then((vB (Jv o p)).1,true)else([],false)
noncomputable def Zp:List q8->Bool->List ae->Option (List q8×Bool)
 |out,b,[]=>some (out,b)
 |out,b,a::l=>if a.1=[]/\yk a.2=true then Zp out b l else match ZQ a.2 with
  |none=>none
  |some p=>Zp (kI and out (aR a.1 p).1) (b&&(aR a.1 p).2) l
def VS:List ae->Option (za×za)
 |[a,b,c]=>if b=([],[45])/\a.1=[]/\c.1=[]then some (a.2,c.2)else none
 |_=>none
noncomputable def cF (p q:Part):List q8×Bool:=if Qa q=true then(dG (Zl p) (vw q),true)else([],false)
noncomputable def K4 (t:za):Option (List q8×Bool):=match jQ (yF t)with
 |none=>none
 |some l=>if l=[]then none else match VS l with
  |some a=>match ZQ a.1,ZQ a.2 with
   |some p,some q=>some (cF p q)
   |_,_=>none
  |none=>Zp [wZ qU] true l
noncomputable def Wj:List q8->Bool->List za->Option (List q8×Bool)
 |out,a,[]=>some (out,a)
 |out,a,s::l=>match K4 s with
  |none=>none
  |some m=>Wj (kI or out m.1) (a&&m.2) l
noncomputable def Wk (t:za):List q8×Int:=if(400:Int)<t.length then([],2)else match Wj [] true (qg t [124,124])with
 |none=>([],10)
 |some o=>if o.2=false then([],1)else if(100:Int)<o.1.length then([],2)else(o.1,0)
def xH(a:ae):Option xM:=if a.1=[]/\yk a.2=true then some dL else if(zO a.2).2=true then some (Jv a.1 (zO a.2).1)else none
def Kz:List ae->Option (List xM)
 |[]=>some []
 |a::l=>match xH a with
  |none=>none
  |some c=>(Kz l).map (c::·)
theorem sT{w:za}(a:w≠[])(h:(wy q9 w).2=[]):(wy q9 w).1≠[]:=fun e=>by have:=Qg q9 w;rw[h,e]at this;exact a (by simpa using this.symm)
theorem N0:(zO []).2=false:=by decide
theorem Sw:zO [45]=(⟨0,0,0,3,[]⟩,false):=by rfl
theorem mb:∀(n:Nat) (a:List za),a.length<=n->(∀w∈a,w≠[])->yo n a=(jQ a).bind Kz
 |n,[],_,_=>by cases n<;>rfl
 | 0,w::a,h,_=>by simp at h
 |n+1,[w],_,g=>by
  have f:=g w (by simp);simp only[yo,jQ];by_cases b:(wy q9 w).2=[]
  ·have i:=sT f b;have:kp w []=none:=by unfold kp;rw[zd (fun h=>i h.1),zd (fun h=>h.2.2 rfl),b,N0];simp
   rw[this,ze b];rfl
  ·rw[zd b];have:kp w []=(xH (wy q9 w)).map fun c=>(c,[]):=by
    unfold kp xH;by_cases d:(wy q9 w).1=[]/\yk (wy q9 w).2=true
    ·rw[ze d,ze d];rfl
    ·rw[zd d,zd d,zd (fun h=>h.2.2 rfl)];split<;>rfl
   rw[this];simp only[zZ,Kz];cases xH (wy q9 w)with
   |none=>rfl
   |some c=>cases n<;>rfl
 |n+1,w::x::a,m,g=>by
  have f:=g w (by simp);simp only[zP]at m;simp only[yo,jQ];by_cases b:(wy q9 w).2=[]
  ·have i:=sT f b;rw[ze b];have:kp w (x::a)=(xH ((wy q9 w).1,x)).map fun c=>(c,a):=by unfold kp xH;rw[zd (fun h=>i h.1),ze ⟨i,b,by simp⟩,zd (fun h=>i h.1)];simp only;split<;>rfl
   rw[this];have e:=mb n a (by omega) (fun y k=>g y (by simp[k]));cases j:jQ a with
   |none=>
    rw[j]at e;simp only[xL,gw];cases xH ((wy q9 w).1,x)with
    |none=>rfl
    |some c=>simp only[zy,e];rfl
   |some l=>
    rw[j]at e;simp only[zy,zZ,Kz];cases xH ((wy q9 w).1,x)with
    |none=>rfl
    |some c=>simp only[zy,e];rfl
  ·rw[zd b];have:kp w (x::a)=(xH (wy q9 w)).map fun c=>(c,x::a):=by
    unfold kp xH;by_cases d:(wy q9 w).1=[]/\yk (wy q9 w).2=true
    ·rw[ze d,ze d];rfl
    ·rw[zd d,zd d,zd (fun h=>b h.2.1)];split<;>rfl
   rw[this];have e:=mb n (x::a) (by simp only[zP];omega) (fun y k=>g y (by simp[zv.1 k]));cases j:jQ (x::a)with
   |none=>
    rw[j]at e;simp only[xL,gw];cases xH (wy q9 w)with
    |none=>rfl
    |some c=>simp only[zy,e];rfl
   |some l=>
    rw[j]at e;simp only[zy,zZ,Kz];cases xH (wy q9 w)with
    |none=>rfl
    |some c=>simp only[zy,e];rfl
theorem pn:∀(b:List za) (l:List ae),(∀w∈b,w≠[])->jQ b=some l->(∀a∈l,a.1=[])->b=l.map (·.2)
 |[],l,_,h,_=>by simp only[jQ]at h;injection h with h;subst h;rfl
 |[w],l,d,h,c=>by
  simp only[jQ]at h;split at h
  ·cases h
  ·injection h with h;subst h;have:=c (wy q9 w) (by simp);have hd:=Qg q9 w;rw[this]at hd;simp only[wc,KH,hd,kv,wS]
 |w::x::b,l,d,h,c=>by
  simp only[jQ]at h;split at h
  ·rename_i f;cases e:jQ b with
   |none=>rw[e]at h;cases h
   |some l'=>rw[e]at h;simp only[zy,zW]at h;subst h;exact absurd (c ((wy q9 w).1,x) (by simp)) (sT (d w (by simp)) f)
  ·cases e:jQ (x::b)with
   |none=>rw[e]at h;cases h
   |some l'=>rw[e]at h;simp only[zy,zW]at h;subst h;have g:=c (wy q9 w) (by simp);have hd:=Qg q9 w;rw[g]at hd;rw[pn (x::b) l' (fun y i=>d y (by simp[zv.1 i])) e fun a j=>c a (by simp[j])];simp only[wc,hd,kv,wS]
theorem po{c:UInt8}{l:za}(h:Kd c=false):xK (c::l)=none:=by unfold xK;rw[zd];rintro⟨a,_⟩;have:=(ll a).2;simp only[kZ,wO,h,JP]at this;cases this
theorem mc{c d:UInt8}(h:c≠d)(l:za):∃p a,qg (c::l) [d]=(c::p)::a:=by obtain⟨p,a,e⟩:=NO d l;rw[aP];exact⟨p,a,by simp[mR,h,e]⟩
theorem Sx{c:UInt8}{l:za}(f:Kd c=false)(j:c≠45)(g:c≠46):(zO (c::l)).2=false:=by
 unfold zO;split
 ·have b:∃q,(Lib.cut (c::l) [45]).1=c::q:=by
   unfold Lib.cut;split
   ·rename_i hi;have d:¬(45:UInt8)=c:=fun e=>j e.symm
    rcases Lib.index_spec l [45]with⟨e,_⟩|⟨i,e,_⟩
    ·simp[Lib.index,d,e]at hi
    ·have k:Lib.index (c::l) [45]=((i+1:Nat):Int):=by
      have:¬((i:Int)=-1):=by omega
      simp[Lib.index,d,e,this]
     rw[k];exact⟨l.take i,by simp⟩
   ·exact⟨l,rfl⟩
  obtain⟨q,m⟩:=b;obtain⟨p,h,e⟩:=mc g q;have:oG (c::l)=none:=by
   unfold oG;rw[m,e];split
   ·rename_i a;injection a with a _
    subst a;rw[po f]
   ·rfl
  rw[this]
 ·split
  ·rfl
  ·obtain⟨p,h,e⟩:=mc g l;rw[e];have:yc wg 0 ((c::p)::h)=none:=by simp[yc,wE,po f]
   rw[this]
theorem me:∀(a:List za) (w:za),(wy a w).1≠[]->(wy a w).1∈a/\(wy a w).1 <+: w
 |[],w,h=>by simp[wy]at h
 |g::a,w,h=>by
  simp only[wy]at h⊢;split
  ·rename_i Y;exact⟨by simp,Cl.1 Y⟩
  ·rename_i Y;rw[zd Y]at h;have:=me a w h;exact⟨by simp[this.1],this.2⟩
theorem FW{w:za}(h:(wy q9 w).1≠[]):(zO w).2=false:=by obtain⟨a,r,b⟩:=me q9 w h;obtain⟨g,c⟩:=yx ((wy q9 w).1);rw[c]at a b;rw[<-b];simp only[q9,zv,gy,or_false]at a;rcases a with rfl|rfl|rfl|rfl|rfl|rfl|rfl<;>exact Sx (by decide) (by decide) (by decide)
theorem FY(a:ae):xH a=none↔¬(a.1=[]/\yk a.2=true)/\ZQ a.2=none:=by
 unfold xH;rw[gK];by_cases h:a.1=[]/\yk a.2=true
 ·simp[h]
 ·rw[zd h];cases (zO a.2).2<;>simp[h]
theorem W5:∀(l:List ae) (out:List q8) (b:Bool),Zp out b l=none↔Kz l=none
 |[],out,b=>by simp[Zp,Kz]
 |a::l,out,b=>by
  simp only[Zp,Kz];by_cases h:a.1=[]/\yk a.2=true
  ·have:xH a=some dL:=by unfold xH;rw[ze h]
   rw[ze h,this,W5 l out b];simp
  ·rw[zd h];cases d:ZQ a.2 with
   |none=>rw[(FY a).2 ⟨h,d⟩];simp
   |some p=>
    cases e:xH a with
    |none=>rw[((FY a).1 e).2]at d;cases d
    |some c=>simp only[W5 l];simp
theorem mf:∀(l:List ae) (out:List q8) (m:List q8×Bool),Zp out false l=some m->m.2=false
 |[],out,m,h=>by simp only[Zp]at h;injection h with h;rw[<-h]
 |a::l,out,m,h=>by
  simp only[Zp]at h;split at h
  ·exact mf l out m h
  ·split at h
   ·cases h
   ·exact mf l _ m (by simpa using h)
theorem N1:vB dL=([wZ qU],true):=by simp[vB,dL]
theorem sU{p:Part}(h:p.ok):aQ (Zl p):=⟨h.1.1,h.2.1.1,h.2.2.1.1⟩
theorem aS{p:Part}(h:p.ok)(i:Nat):aQ (jf p i):=by have a:=h.1.1;have b:=h.2.1.1;have c:=h.2.2.1.1;unfold jf aQ;split<;>simp only<;>omega
theorem mg{p:Part}(h:p.ok):aQ (vw p):=by
 unfold vw;split
 ·exact aS h _
 ·exact sU h
theorem Xs:aQ qU:=by simp[aQ,qU]
theorem N2:aQ Qt:=by simp[aQ,Qt]
theorem KA{a b:Cut}(c:aQ a)(d:aQ b):Bt (dG a b):=by
 unfold dG;split
 ·intro s hs;cases hs
 ·intro s hs;rw[yp]at hs;rw[hs];exact⟨c,d⟩
theorem cG{a:Cut}(b:aQ a):Bt [wZ a]:=fun s hs=>by rw[yp]at hs;rw[hs];exact⟨b,N2⟩
theorem N3{c:xM}(b:c.xl):Bt (vB c).1:=by
 obtain⟨_,b⟩:=b;unfold vB;by_cases d:c.sign=ji
 ·rw[ze d];exact cG Xs
 rw[zd d];obtain⟨⟨Y,_⟩,g⟩:=b.resolve_left d;have a:=sU Y;have f:=mg Y;split
 ·exact cG a
 split
 ·exact KA Xs a
 split
 ·exact cG f
 split
 ·exact KA Xs f
 split
 ·rename_i e;exact KA a (mg (g e).1)
 split
 ·exact KA a (aS Y _)
 split
 ·exact KA a (aS Y _)
 ·exact KA a f
def nB(o:za):Prop:=o=[]\/o∈q9
theorem mh:∀(c:List za) (l:List ae),jQ c=some l->∀a∈l,nB a.1
 |[],l,h,a,b=>by simp only[jQ]at h;injection h with h;subst h;cases b
 |[w],l,h,a,b=>by
  simp only[jQ]at h;split at h
  ·cases h
  ·injection h with h;subst h;rw[yp]at b;rw[b];exact JC q9 w
 |w::x::c,l,h,a,b=>by
  simp only[jQ]at h;split at h
  ·cases e:jQ c with
   |none=>rw[e]at h;cases h
   |some l'=>
    rw[e]at h;simp only[zy,zW]at h;subst h;rcases zv.1 b with rfl|b
    ·exact JC q9 w
    ·exact mh c l' e a b
  ·cases e:jQ (x::c)with
   |none=>rw[e]at h;cases h
   |some l'=>
    rw[e]at h;simp only[zy,zW]at h;subst h;rcases zv.1 b with rfl|b
    ·exact JC q9 w
    ·exact mh (x::c) l' e a b
theorem ZN{s:za}{p:Part}(h:ZQ s=some p):(zO s).2=true/\(zO s).1=p/\p.ok/\Qd p.pre:=by
 rw[gK]at h;split at h
 ·rename_i e;injection h with h
  have:=JB e;rw[h]at this;exact⟨e,h,this⟩
 ·cases h
theorem Bv{o:za}{p:Part}(a:nB o)(Y:p.ok)(b:Qd p.pre):(Jv o p).xl:=by have:=AA a;exact⟨this.1,.inr ⟨⟨Y,b⟩,fun e=>absurd e this.2⟩⟩
theorem ep:∀(l:List ae) (out:List q8) (cs:List xM) (m:List q8×Bool),(∀a∈l,nB a.1)->XJ none out->jA out->Bt out->Kz l=some cs->Zp out true l=some m->KX cs out=if m.2=true then some m.1 else none
 |[],out,cs,m,_,_,_,_,c,d=>by
  simp only[Kz]at c;simp only[Zp]at d;injection c with c
  injection d with d;subst c;subst d;rfl
 |a::l,out,cs,m,hs,q,i,j,c,d=>by
  simp only[Kz]at c;simp only[Zp]at d;have g:∀b∈l,nB b.1:=fun b s=>hs b (by simp[s])
  by_cases h:a.1=[]/\yk a.2=true
  ·have k:xH a=some dL:=by unfold xH;rw[ze h]
   rw[ze h]at d;rw[k]at c;simp only at c;cases e:Kz l with
   |none=>rw[e]at c;cases c
   |some f=>rw[e]at c;simp only[zy,zW]at c;subst c;simp only[KX,N1,qB];rw[Bu q i j];exact ep l out f m g q i j e d
  ·rw[zd h]at d;cases n:ZQ a.2 with
   |none=>rw[n]at d;cases d
   |some p=>
    rw[n]at d;simp only at d;obtain⟨t,u,v,w⟩:=ZN n;have k:xH a=some (Jv a.1 p):=by unfold xH;rw[zd h,ze t,u]
    rw[k]at c;simp only at c;cases e:Kz l with
    |none=>rw[e]at c;cases c
    |some f=>
     rw[e]at c;simp only[zy,zW]at c;subst c;have o:=Bv (hs a (by simp)) v w;simp only[KX];unfold aR at d;cases r:(vB (Jv a.1 p)).2
     ·rw[r]at d;simp only[zq,qn,Bool.and_false]at d⊢;rw[mf l _ m d];simp
     ·rw[r]at d;simp only[qB,Bool.and_true]at d⊢;exact ep l _ f m g (cE i (Xh o).2) (xi and i (Xh o).2) (Io and j (N3 o)) e d
theorem Xt:∀(l:List ae),(∃a∈l,a.2=[45])->Kz l=none
 |[],h=>by obtain⟨a,d,_⟩:=h;cases d
 |a::l,h=>by
  simp only[Kz];obtain⟨b,c,e⟩:=h;rcases zv.1 c with rfl|c
  ·have:xH b=none:=by unfold xH;rw[e,Sw];simp[yk]
   rw[this]
  ·rw[Xt l ⟨b,c,e⟩];cases xH a<;>rfl
theorem zaX(t:za):∀w∈yF t,w≠[]:=fun w a=>by unfold yF wq at a;have:=(UB.1 a).2;simpa[mP]using this
theorem Ip{l:List ae}{a:za×za}(h:VS l=some a):l=[([],a.1),([],[45]),([],a.2)]:=by
 unfold VS at h;split at h
 ·rename_i x y z;split at h
  ·rename_i d;injection h with h
   obtain⟨e,b,c⟩:=d;obtain⟨f,g⟩:=x;obtain⟨i,j⟩:=z;simp only at b c h;rw[<-h,e,b,c]
  ·cases h
 ·cases h
theorem VT:wy q9 [45]=([],[45]):=by decide
theorem Bw(t:za):((Qs t).2=false->K4 t=none)/\((Qs t).2=true->∃m,K4 t=some m/\KX (Qs t).1 [wZ qU]=if m.2=true then some m.1 else none):=by
 have A:=zaX t;have J:∀n,yF t=n->Qs t=(match yo n.length n with
   |some l=>(l,!l.isEmpty)
   |none=>([],false))->(∀l,jQ n=some l->VS l=none)->((Qs t).2=false->K4 t=none)/\((Qs t).2=true->∃m,K4 t=some m/\KX (Qs t).1 [wZ qU]=if m.2=true then some m.1 else none):=by
  intro n o C hd;rw[o]at A;rw[mb n.length n (zk _) A]at C;rw[C];unfold K4;rw[o];cases D:jQ n with
  |none=>exact⟨fun _=>rfl,fun h=>by cases h⟩
  |some l=>
   have K:=hd l D;simp only[zZ];by_cases f:l=[]
   ·subst f;simp[Kz]
   ·rw[zd f,K];simp only;have E:=W5 l [wZ qU] true;cases u:Kz l with
    |none=>exact⟨fun _=>E.2 u,fun h=>by cases h⟩
    |some cs=>
     have R:cs≠[]:=by
      cases l with
      |nil=>exact absurd rfl f
      |cons a l=>
       simp only[Kz]at u;split at u
       ·cases u
       ·cases h:Kz l<;>rw[h]at u<;>simp at u;rw[<-u];simp
     have F:cs.isEmpty=false:=by cases cs<;>simp_all
     cases I:Zp [wZ qU] true l with
     |none=>rw[E.1 I]at u;cases u
     |some m=>exact⟨fun h=>by simp[F]at h,fun _=>⟨m,rfl,ep l _ cs m (mh n l D) (NZ _) VR (cG Xs) u I⟩⟩
 obtain⟨n,o⟩:=yx (yF t);by_cases g:∃a c,n=[a,[45],c]
 ·obtain⟨a,c,rfl⟩:=g;have C:Qs t=([⟨[45],(zO a).1,(zO c).1⟩],(zO a).2&&(zO c).2):=by unfold Qs;rw[eo,o];simp
  rw[o]at A;have G:a≠[]:=A a (by simp);have L:c≠[]:=A c (by simp);by_cases i:(wy q9 a).1=[]
  ·by_cases v:(wy q9 c).1=[]
   ·have H:wy q9 a=([],a):=by have:=Qg q9 a;rw[i]at this;exact Prod.ext i (by simpa using this)
    have N:wy q9 c=([],c):=by have:=Qg q9 c;rw[v]at this;exact Prod.ext v (by simpa using this)
    have D:jQ [a,[45],c]=some [([],a),([],[45]),([],c)]:=by rw[W4 _ _ (by rw[H];exact G),W4 _ _ (by rw[VT];simp),W4 _ _ (by rw[N];exact L),H,N,VT];rfl
    have I:K4 t=match ZQ a,ZQ c with
      |some p,some q=>some (cF p q)
      |_,_=>none:=by
     unfold K4;rw[o,D];simp only[O3,qn,reduceCtorEq];rfl
    rw[I,C];cases j:ZQ a with
    |none=>
     rw[gK]at j;have:(zO a).2=false:=by
      cases h:(zO a).2 with
      |false=>rfl
      |true=>rw[h]at j;simp at j
     rw[this];exact⟨fun _=>rfl,fun h=>by cases h⟩
    |some p=>
     obtain⟨S,T,W,X⟩:=ZN j;cases w:ZQ c with
     |none=>
      rw[gK]at w;have:(zO c).2=false:=by
       cases h:(zO c).2 with
       |false=>rfl
       |true=>rw[h]at w;simp at w
      rw[this,Bool.and_false];exact⟨fun _=>rfl,fun h=>by cases h⟩
     |some q=>
      obtain⟨q1,q2,q3,q4⟩:=ZN w;rw[S,q1,T,q2];refine⟨fun h=>(by cases h),fun _=>⟨cF p q,rfl,?_⟩⟩;have hs:vB ⟨[45],p,q⟩=(dG (Zl p) (vw q),Qa q):=by simp[vB,ji]
      simp only[KX,hs];unfold cF;have P:jA (dG (Zl p) (vw q)):=(Wg (lK X) (Xg q4)).2;cases Q:Qa q
      ·simp
      ·simp only[qB];rw[Im rfl Bool.and_comm VR P,Bu (Sv _ _) P (KA (sU W) (mg q3))]
   ·have r:(Qs t).2=false:=by rw[C,FW v,Bool.and_false]
    refine⟨fun _=>?_,fun h=>by rw[r]at h;cases h⟩;have H:wy q9 a=([],a):=by have:=Qg q9 a;rw[i]at this;exact Prod.ext i (by simpa using this)
    unfold K4;rw[o,W4 _ _ (by rw[H];exact G),W4 _ _ (by rw[VT];simp)];simp only[jQ];split
    ·rfl
    ·rename_i l f;cases d:(if(wy q9 c).2=[]then none else some [wy q9 c]:Option (List ae))with
     |none=>rw[d]at f;cases f
     |some k=>
      have Q:k=[wy q9 c]:=by
       split at d
       ·cases d
       ·injection d with d;exact d.symm
      rw[d]at f;simp only[zy,zW,H,VT]at f;subst f;subst Q;simp only[O3,qn,reduceCtorEq];have s:VS [(([]:za),a),([],[45]),wy q9 c]=none:=by simp[VS,v]
      rw[s];simp only;rw[W5];exact Xt _ ⟨([],[45]),by simp,rfl⟩
  ·have r:(Qs t).2=false:=by rw[C,FW i];rfl
   refine⟨fun _=>?_,fun h=>by rw[r]at h;cases h⟩;unfold K4;rw[o];simp only[jQ];by_cases j:(wy q9 a).2=[]
   ·rw[ze j];split
    ·rfl
    ·rename_i l f;cases d:(if(wy q9 c).2=[]then none else some [wy q9 c]:Option (List ae))with
     |none=>rw[d]at f;cases f
     |some k=>
      rw[d]at f;simp only[zy,zW]at f;subst f;simp only[O3,qn,reduceCtorEq];have s:VS (((wy q9 a).1,[45])::k)=none:=by
       unfold VS;split
       ·rename_i x y z B;injection B with M _
        rw[<-M];simp[i]
       ·rfl
      rw[s];simp only;rw[W5];exact Xt _ ⟨((wy q9 a).1,[45]),by simp,rfl⟩
   ·rw[zd j];simp only[VT,O3,qn,reduceCtorEq];split
    ·rfl
    ·rename_i l f;cases d:(if(wy q9 c).2=[]then none else some [wy q9 c]:Option (List ae))with
     |none=>rw[d]at f;cases f
     |some k=>
      rw[d]at f;simp only[zy,zW]at f;subst f;simp only[O3,qn,reduceCtorEq];have s:VS (wy q9 a::([],[45])::k)=none:=by
       unfold VS;split
       ·rename_i x y z B;injection B with M _
        rw[<-M];simp[i]
       ·rfl
      rw[s];simp only;rw[W5];exact Xt _ ⟨([],[45]),by simp,rfl⟩
 ·refine J n o ?_ ?_
  ·unfold Qs;rw[eo,o];split
   ·rename_i a b c;rw[zd (fun e=>g ⟨a,c,by rw[e]⟩)];rfl
   ·rfl
  ·intro l D;cases hd:VS l with
   |none=>rfl
   |some a=>have f:=Ip hd;rw[o]at A;have:=pn n l A D (by rw[f];simp);rw[f]at this;exact absurd ⟨a.1,a.2,this⟩ g
theorem aT:∀(l:List za) (out:List q8) (a:Bool),Wj out a l=none↔mQ l=none
 |[],out,a=>by simp[Wj,mQ]
 |s::l,out,a=>by
  obtain⟨b,c⟩:=Bw s;simp only[Wj,mQ];cases h:(Qs s).2
  ·rw[b h];simp
  ·obtain⟨m,e,_⟩:=c h;rw[e];simp only[aT l,qB];cases mQ l<;>simp
theorem pq:∀(l:List za) (out:List q8) (m:List q8×Bool),Wj out false l=some m->m.2=false
 |[],out,m,h=>by simp only[Wj]at h;injection h with h;rw[<-h]
 |a::l,out,m,h=>by
  simp only[Wj]at h;split at h
  ·cases h
  ·exact pq l _ m (by simpa using h)
theorem mi:∀(l:List za) (out:List q8) (d:List (List xM)) (m:List q8×Bool),mQ l=some d->Wj out true l=some m->ca d out=if m.2=true then some m.1 else none
 |[],out,d,m,a,b=>by
  simp only[mQ]at a;simp only[Wj]at b;injection a with a
  injection b with b;subst a;subst b;rfl
 |s::l,out,d,m,a,b=>by
  obtain⟨n,i⟩:=Bw s;simp only[mQ]at a;simp only[Wj]at b;cases h:(Qs s).2
  ·rw[h]at a;simp at a
  ·rw[h]at a;simp only[qB]at a;obtain⟨k,e,j⟩:=i h;rw[e]at b;simp only[kX]at b;cases f:mQ l with
   |none=>rw[f]at a;cases a
   |some g=>
    rw[f]at a;simp only[zy,zW]at a;subst a;simp only[ca,j];cases c:k.2
    ·rw[c]at b;rw[pq l _ m b];simp
    ·rw[c]at b;simp only[qB];exact mi l _ g m f b
theorem sV(t:za):Wk t=Zx t:=by
 unfold Wk Zx;split
 ·rfl
 ·cases a:mQ (qg t [124,124])with
  |none=>rw[(aT _ [] true).2 a]
  |some c=>
   cases b:Wj [] true (qg t [124,124])with
   |none=>rw[(aT _ _ _).1 b]at a;cases a
   |some m=>
    have:=mi _ _ c m a b;simp only[this];cases d:m.2
    ·simp
    ·simp
end Go.Q
