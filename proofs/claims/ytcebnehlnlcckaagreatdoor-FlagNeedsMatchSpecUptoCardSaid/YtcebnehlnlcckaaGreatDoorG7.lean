/- Lemmas. -/
import Derived.Lib.Bytealg
import Derived.Test.YtcebnehlnlcckaaGreatDoorG6
set_option maxRecDepth 100000
set_option maxHeartbeats 4000000
open Go Proofs Proofs.YtcebnehlnlcckaaGreatDoor Proofs.Tryz RowKit AM SpanLaw Q Zz
namespace Go.Q
def Jr(s:Int×Bool):Bool:=s.2||decide (1000<s.1)
def lr(s r:Int×Bool):Int×Bool:=if Jr s then s else(s.1+r.1,s.2||r.2)
mutual
def qu.rp:qu->Int->Int×Bool
 | .mk _ _ _ a b,l=>rpF b l (rpV a l (1,decide (8<l)))
def rpV:List qu->Int->Int×Bool->Int×Bool
 |[],_,s=>s
 |v::vs,l,s=>rpV vs l (lr s (v.rp (l+1)))
def rpF:List (za×qu)->Int->Int×Bool->Int×Bool
 |[],_,s=>s
 |(_,v)::vs,l,s=>rpF vs l (lr s (v.rp (l+1)))
end
def oH(xs:List qu)(l:Int)(s:Int×Bool):Int×Bool:=xs.foldl (fun s x=>lr s (x.rp (l+1))) s
theorem Mv:∀(xs:List qu) (l:Int) (s:Int×Bool),rpV xs l s=oH xs l s
 |[],_,_=>rfl
 |v::vs,l,s=>by simp only[rpV,oH,vA];exact Mv vs l _
theorem Mw:∀(xs:List (za×qu)) (l:Int) (s:Int×Bool),rpF xs l s=oH (xs.map (·.2)) l s
 |[],_,_=>rfl
 |(a,v)::vs,l,s=>by simp only[rpF,oH,wc,vA];exact Mw vs l _
theorem T3(v:qu)(l:Int):v.rp l=oH v.inner l (1,decide (8<l)):=by
 cases v with
 |mk k n s a b=>simp only[qu.rp,Mv,Mw,qu.inner,qu.items,qu.fields,oH,List.foldl_append]
theorem lu{xs:List qu}{l:Int}{s:Int×Bool}(h:Jr s=true):oH xs l s=s:=by
 induction xs with
 |nil=>rfl
 |cons x xs a=>simp only[oH,vA,lr,h,qB];exact a
theorem Mx{xs:List qu}{l:Int}{s:Int×Bool}{k:Nat}(h:k<xs.length):oH (xs.drop k) l s=oH (xs.drop (k+1)) l (lr s (xs[k].rp (l+1))):=by rw[zc h];rfl
def QF(xs:List qu):Nat:=(xs.map qu.parts).sum
def vd:List qu->Nat
 |[]=>0
 |v::l=>max v.levels (vd l)
theorem Hn(v:qu):v.parts=1+QF v.inner:=by
 rw[uM];have c:∀l:List qu,kL l=QF l:=by
  intro l;induction l with
  |nil=>rfl
  |cons v l b=>simp[kL,QF,b]
 have d:∀l:List (za×qu),kU l=QF (l.map (·.2)):=by
  intro l;induction l with
  |nil=>rfl
  |cons v l b=>obtain⟨a,v⟩:=v;simp[kU,QF]at b⊢;rw[b]
 rw[c,d];simp[QF,qu.inner,gQ]
theorem Dz(v:qu):v.levels=vd v.inner+1:=by
 rw[oz];have d:∀l:List qu,kb l=vd l:=by
  intro l;induction l with
  |nil=>rfl
  |cons v l c=>simp[kb,vd,c]
 have e:∀l:List (za×qu),kx l=vd (l.map (·.2)):=by
  intro l;induction l with
  |nil=>rfl
  |cons v l c=>obtain⟨a,v⟩:=v;simp[kx,vd,c]
 have f:∀a b:List qu,vd (a++b)=max (vd a) (vd b):=by
  intro a b;induction a with
  |nil=>simp[vd]
  |cons v a c=>simp only[q7,vd,c];omega
 rw[d,e,qu.inner,f]
theorem oI{v x:qu}(h:x∈v.inner):x.vb<v.vb:=by
 have a:=Ya v;rcases zK.1 h with h|h
 ·have:=ko h;omega
 ·obtain⟨f,b,rfl⟩:=qw.1 h;have:=Z4 b;omega
structure RP (xs:List qu) (l:Int) (s r:Int×Bool):Prop where
 lo:s.1<=r.1
 hi:r.1<=s.1+QF xs
 deep:r.2=true->s.2=true\/8<l+(vd xs:Int)
 all:Jr r=false->r.1=s.1+QF xs/\(xs≠[]->l+(vd xs:Int)<=8)
theorem Ft:∀(b:Nat) (v:qu),v.vb<=b->∀l,0<=(v.rp l).1/\(v.rp l).1<=v.parts/\((v.rp l).2=true->8<l+(v.levels:Int)-1)/\(Jr (v.rp l)=false->(v.rp l).1=v.parts/\l+(v.levels:Int)-1<=8):=by
 intro b
 induction b with
 |zero=>intro v t;have:=Vq v;omega
 |succ b u=>
  intro v t l;have i:∀(xs:List qu) (s:Int×Bool),0<=s.1->(∀x∈xs,x.vb<=b)->RP xs l s (oH xs l s):=by
   intro xs
   induction xs with
   |nil=>intro s _ _;exact⟨by simp[oH],by simp[oH,QF],fun h=>.inl (by simpa[oH]using h),fun _=>⟨by simp[oH,QF],fun h=>absurd rfl h⟩⟩
   |cons x xs j=>
    intro s D r;by_cases d:Jr s=true
    ·rw[lu d];exact⟨by omega,by omega,fun h=>.inl h,fun h=>by rw[d]at h;cases h⟩
    ·have e:oH (x::xs) l s=oH xs l (s.1+(x.rp (l+1)).1,s.2||(x.rp (l+1)).2):=by simp only[oH,vA,lr,d];rfl
     rw[e];obtain⟨E,F,w,z⟩:=u x (r x (by simp)) (l+1);have f:=j (s.1+(x.rp (l+1)).1,s.2||(x.rp (l+1)).2) (by simp only;omega) (fun y A=>r y (by simp[A]));have a:QF (x::xs)=x.parts+QF xs:=by simp[QF]
     have k:=f.lo;have m:=f.hi;simp only at k m;refine⟨by omega,by rw[a];omega,fun h=>?_,fun h=>?_⟩
     ·simp only[vd];rcases f.deep h with h|h
      ·simp only[qS]at h;rcases h with h|h
       ·exact .inl h
       ·right;have:=w h;omega
      ·right;omega
     ·obtain⟨n,o⟩:=f.all h;have p:Jr (x.rp (l+1))=false:=by
       simp only[Jr,wA,yM]at h d⊢;refine⟨?_,by omega⟩;cases hd:(x.rp (l+1)).2 with
       |false=>rfl
       |true=>
        exfalso;have q:Jr (s.1+(x.rp (l+1)).1,s.2||(x.rp (l+1)).2)=true:=by simp[Jr,hd]
        rw[lu q]at h;simp[hd]at h
      obtain⟨G,H⟩:=z p;simp only at n;refine⟨by rw[a];omega,fun _=>?_⟩;simp only[vd];by_cases c:xs=[]
      ·subst c;simp only[vd];omega
      ·have:=o c;omega
  have g:=i v.inner (1,decide (8<l)) (by simp) fun x p=>by have:=oI p;omega
  rw[T3,Hn,Dz];have B:=g.lo;have C:=g.hi;simp only at B C;refine⟨by omega,by omega,fun h=>?_,fun h=>?_⟩
  ·rcases g.deep h with h|h
   ·simp at h;omega
   ·omega
  ·obtain⟨n,o⟩:=g.all h;simp only at n;refine⟨by omega,?_⟩;by_cases c:v.inner=[]
   ·rw[c]at h⊢;simp[oH,Jr]at h;simp only[vd];omega
   ·have:=o c;omega
theorem My(v:qu):Jr (v.rp 1)=(decide ((1000:Int)<v.parts)||decide ((8:Int)<v.levels)):=by
 obtain⟨f,g,d,e⟩:=Ft v.vb v (zk _) 1;cases c:Jr (v.rp 1)with
 |false=>
  obtain⟨a,b⟩:=e c;simp only[Jr,wA,yM]at c
  symm
  simp only[wA,yM];omega
 |true=>
  symm
  simp only[Jr,qS,qz]at c⊢;rcases c with c|c
  ·right;have:=d c;omega
  ·left;omega
noncomputable def FV2 (out:qu->Int->O) (lo hi:Int) (n:Nat):zb->Option O:=qf (α:=qu×Int) (fun a=>[.agg a.1.V,int a.2]) (fun a=>a.1.vb<=zw/\a.1.vb<=n/\lo<=a.2/\a.2<=hi) (fun a=>out a.1 a.2)
theorem Aa(out:qu->Int->O)(lo hi:Int)(n:Nat)(v:qu)(i:Int)(Y:Hp)(Z:Nat)(h:v.vb<=zw/\v.vb<=n/\lo<=i/\i<=hi):zg false [] (FV2 out lo hi n) [.agg v.V,int i] Y Z=some (out v i,Y,Z):=
 yP (Y1:=Y) (show zD Y [.agg v.V,int i]=some ([.agg v.V,int i],Y) by simp only[zD,J9];simp)
  (qM (V:=fun a:qu×Int=>[.agg a.1.V,int a.2]) (a:=(v,i)) (fun a b e=>by obtain⟨c,d⟩:=a;obtain⟨f,g⟩:=b;simp only[zh,zA,O.agg.injEq]at e;rw[J8 e.1,qI e.2]) h) (.inr (by simp only[wO,oy,tP];rfl))
noncomputable abbrev Crp (n:Nat):Ctx:=zR prog [(120,zg false [] (FV2 (fun v l=>.wP [int (v.rp l).1,wo (v.rp l).2]) 1 9 n)),(148,GV fun v=>.sl 5 (v.inner.map qu.V))]
theorem rV(v:qu):v.inner.length<v.vb:=by have:=Ya v;have:=ja v.items;have:=vr v.fields;simp[qu.inner];omega
theorem Ab(n:Nat)(v:qu)(l:Int)(h:v.vb<=zw/\v.vb<=n+1/\1<=l/\l<=9):zo (Crp n) f120 [.agg v.V,int l]=some (.wP [int (v.rp l).1,wo (v.rp l).2]):=by
 obtain⟨r,E,t,u⟩:=h;have w:=rV v;have m:=fun Y Z=>QV (fun v=>.sl 5 (v.inner.map qu.V)) v Y Z r
 unfold zw at r;refine zm rfl ?_;simp[m];refine zF (fun k U Y Z=>U 1=int l/\U 15=.sl 5 (v.inner.map qu.V)/\U 16=int v.inner.length/\U 17=int k/\∃s:Int×Bool,U 6=int s.1/\U 7=wo s.2/\0<=s.1/\s.1<=400000000/\(s.2=false->l<=8)/\v.rp l=oH (v.inner.drop k) l s) v.inner.length
  ⟨by simp,by simp,by simp,by simp,(1,decide (8<l)),by simp,by simp,by simp,by simp,by simp,by rw[T3];simp⟩ ?_
 rintro k U Y Z F ⟨o,c,d,e,s,p,q,G,H,x,b⟩;by_cases a:k<v.inner.length
 ·have y:=ql k;have I:=oI (zj a);have g:(s.2||decide (1000<s.1))=Jr s:=rfl;cases i:Jr s
  ·have j:s.2=false:=by cases h:s.2<;>simp_all[Jr]
   have z:=x j;have A:=wu (l+1);have f:=fun Y Z=>Aa (fun v l=>.wP [int (v.rp l).1,wo (v.rp l).2]) 1 9 n v.inner[k] (l+1) Y Z ⟨by unfold zw;omega,by omega,by omega,by omega⟩
   obtain⟨J,K,L,M⟩:=Ft _ v.inner[k] (zk _) (l+1);have B:=iL v.inner[k];have C:s.1<=1000:=by simp[Jr]at i;omega
   have D:=wu (s.1+(v.inner[k].rp (l+1)).1);rw[Mx a]at b;simp only[lr,i,zq,qn]at b;simp[o,c,d,e,p,q,a,g,i,f,A,D,y];refine⟨a,?_⟩;rw[b,j];cases hd:(v.inner[k].rp (l+1)).2<;>simp[hd]<;>omega
  ·rw[lu i]at b;simp[o,c,d,e,p,q,a,g,i,b,f120,zI]
 ·obtain rfl:k=v.inner.length:=by omega
  rw[zn]at b;have b:v.rp l=s:=b;simp[o,c,d,e,p,q,b,f120,zI]
theorem Fu{out:qu->Int->O}{lo hi:Int}{n:Nat}{args:zb}{r:O}(h:FV2 out lo hi n args=some r):∃(v:qu) (i:Int),args=[.agg v.V,int i]/\(v.vb<=zw/\v.vb<=n/\lo<=i/\i<=hi)/\r=out v i:=by obtain⟨⟨v,i⟩,a,b,c⟩:=zN h;exact⟨v,i,a,b,c⟩
theorem Mz{out:qu->Int->O}{lo hi:Int}{f:FuncId}(a:∃fn,prog.funcs[f]?=some fn/\(fn.name== "runtime.NumGoroutine")=false/\fn.body.isNone=false):zf prog f (zg false [] (FV2 out lo hi 0)):=by
 refine⟨a,fun args Y Z r b c h=>?_⟩;unfold zg at h;split at h
 ·split at h
  ·rename_i d hF;obtain⟨v,i,_,e,_⟩:=Fu hF;have:=Vq v;omega
  ·cases h
 ·cases h
theorem rW:∀n,zf prog 120 (zg false [] (FV2 (fun v l=>.wP [int (v.rp l).1,wo (v.rp l).2]) 1 9 n)):=by
 intro n
 induction n with
 |zero=>exact Mz ⟨_,func120,by kernel_rfl,by kernel_rfl⟩
 |succ n a=>
  have b:Gd (Crp n):=zS mixed ⟨a,uT,trivial⟩;exact yt (fn:=f120) b (qN func120) false [] _ fun args r h=>by obtain⟨v,l,rfl,c,rfl⟩:=Fu h;exact⟨zG (zk 2) (by decide),_,Ab n v l c,qc _⟩
noncomputable abbrev Crc:Ctx:=zR prog [(150,zg false [] (F3 jE)),(151,zg false [] (FS (qZ 32 126)))]
@[simp]theorem qrc1:kY Crc 150:=y9 (by rfl) (zu _ _)
def e9(v:qu):Int:=Yb v.kind v.n v.s v.items.length v.fields.length
theorem MA(v:qu):e9 v=if(!jE v.kind 0 5)then 4 else if(v.kind != 1&&v.kind != 2&&v.n != 0)then 3 else if(v.kind != 3&&!v.s.isEmpty)then 3 else if(v.kind != 4&&decide (0<v.items.length))then 3 else if(v.kind != 5&&decide (0<v.fields.length))then 3 else if(v.kind==1&&!jE v.n 0 1)then 1 else if(v.kind==2&&!jE v.n (-999999999999999) 999999999999999)then 1 else if(decide ((500:Int)<v.s.length))then 2 else if(!qZ 32 126 v.s)then 1 else if(decide ((100:Int)<v.items.length)||decide ((100:Int)<v.fields.length))then 2 else 0:=by
 unfold e9 Yb;have a:uO v.kind=!jE v.kind 0 5:=by rw[qx];simp[uO,jE]
 have b:Vr v.kind v.n v.s v.items.length v.fields.length=((v.kind != 1&&v.kind != 2&&v.n != 0)||(v.kind != 3&&!v.s.isEmpty)||(v.kind != 4&&decide (0<v.items.length))||(v.kind != 5&&decide (0<v.fields.length))):=by
  unfold Vr;have:(v.s==[])=v.s.isEmpty:=by cases v.s<;>rfl
  rw[this];generalize (v.kind != 1)=c;generalize (v.kind != 2)=d;generalize (v.kind != 3)=e;generalize (v.kind != 4)=f;generalize (v.kind != 5)=g;generalize (v.n != 0)=h;generalize v.s.isEmpty=i;generalize decide (0<v.items.length)=j;generalize decide (0<v.fields.length)=k;cases c<;>cases d<;>cases e<;>cases f<;>cases g<;>cases h<;>cases i<;>cases j<;>cases k<;>rfl
 have l:bE v.kind v.n=(v.kind==1&&!jE v.n 0 1):=by rw[qx];simp[bE,jE];omega
 have m:bF v.kind v.n=(v.kind==2&&!jE v.n (-999999999999999) 999999999999999):=by rw[qx];simp[bF,jE];omega
 rw[a,b,l,m,Fo,Fm];generalize (!jE v.kind 0 5)=o;generalize (v.kind != 1&&v.kind != 2&&v.n != 0)=p;generalize (v.kind != 3&&!v.s.isEmpty)=q;generalize (v.kind != 4&&decide (0<v.items.length))=r;generalize (v.kind != 5&&decide (0<v.fields.length))=t;generalize (v.kind==1&&!jE v.n 0 1)=u;generalize (v.kind==2&&!jE v.n (-999999999999999) 999999999999999)=w;cases o<;>cases p<;>cases q<;>cases r<;>cases t<;>cases u<;>cases w<;>cases qZ 32 126 v.s<;>rfl
theorem fV(v:qu)(h:v.vb<=zw):zo Crc f149 [.agg v.V]=some (int (e9 v)):=by
 have q:=Ya v;have m:v.s.length<=zw:=by omega
 refine zm rfl ?_;have o:=MA v;obtain⟨r,c⟩:∃b,(!jE v.kind 0 5)=b:=⟨_,rfl⟩;obtain⟨t,d⟩:∃b,(v.kind != 1&&v.kind != 2&&v.n != 0)=b:=⟨_,rfl⟩;obtain⟨u,e⟩:∃b,(v.kind != 3&&!v.s.isEmpty)=b:=⟨_,rfl⟩;obtain⟨w,f⟩:∃b,(v.kind != 4&&decide (0<v.items.length))=b:=⟨_,rfl⟩;obtain⟨x,g⟩:∃b,(v.kind != 5&&decide (0<v.fields.length))=b:=⟨_,rfl⟩;obtain⟨y,i⟩:∃b,(v.kind==1&&!jE v.n 0 1)=b:=⟨_,rfl⟩;obtain⟨z,j⟩:∃b,(v.kind==2&&!jE v.n (-999999999999999) 999999999999999)=b:=⟨_,rfl⟩;obtain⟨A,k⟩:∃b,(decide ((500:Int)<v.s.length))=b:=⟨_,rfl⟩;obtain⟨B,l⟩:∃b,(!qZ 32 126 v.s)=b:=⟨_,rfl⟩;obtain⟨p,a⟩:∃b,(decide ((100:Int)<v.items.length)||decide ((100:Int)<v.fields.length))=b:=⟨_,rfl⟩;rw[c,d,e,f,g,i,j,k,l,a]at o;cases r
 case true=>simp[m,c,d,e,f,g,i,j,k,l,a,o,f149]
 cases t
 case true=>simp[m,c,d,e,f,g,i,j,k,l,a,o,f149]
 cases u
 case true=>simp[m,c,d,e,f,g,i,j,k,l,a,o,f149]
 cases w
 case true=>simp[m,c,d,e,f,g,i,j,k,l,a,o,f149]
 cases x
 case true=>simp[m,c,d,e,f,g,i,j,k,l,a,o,f149]
 cases y
 case true=>simp[m,c,d,e,f,g,i,j,k,l,a,o,f149]
 cases z
 case true=>simp[m,c,d,e,f,g,i,j,k,l,a,o,f149]
 cases A
 case true=>simp[m,c,d,e,f,g,i,j,k,l,a,o,f149]
 cases B
 case true=>simp[m,c,d,e,f,g,i,j,k,l,a,o,f149]
 cases p
 case true=>simp[m,c,d,e,f,g,i,j,k,l,a,o,f149]
 simp[m,c,d,e,f,g,i,j,k,l,a,o,f149]
theorem dB:zf prog 149 (GV fun v=>int (e9 v)):=
 yt (fn:=f149) (qq (q:=[150,151]) mixed ⟨Zi,fun _=>zu _ _,Wv,fun _=>zu _ _,trivial⟩:AM.Good Crc _) (qN func149) false [] _ fun args r h=>by obtain⟨v,rfl,a,rfl⟩:=Ka h;exact⟨by simp[f149],_,fV v a.1,qc _⟩
noncomputable abbrev Cra (n:Nat):Ctx:=zR prog [(121,zg false [] (FV (fun v=>int v.fault) n)),(149,GV fun v=>int (e9 v)),(150,zg false [] (F3 jE)),(151,zg false [] (FS (qZ 32 126)))]
@[simp]theorem qra2(n:Nat):kY (Cra n) 151:=y9 (by rfl) (zu _ _)
theorem Ho(a:za):(!jE a.length 1 60||!qZ 32 126 a)=iP a:=by
 unfold iP jE;cases a with
 |nil=>rfl
 |cons c a=>generalize qZ 32 126 (c::a)=x;rw[qx];cases x<;>simp<;>omega
theorem ng(n:Nat)(v:qu)(h:v.vb<=zw/\v.vb<=n+1):zo (Cra n) f121 [.agg v.V]=some (int v.fault):=by
 have Q:=Ya v;have R:=ja v.items;have S:=vr v.fields;obtain⟨M,hb⟩:=h;have y:=fun Y Z=>QV (fun v=>int (e9 v)) v Y Z M
 unfold zw at M;have c:=uP v;refine zm rfl ?_;by_cases B:e9 v=0
 case neg=>
  have D:=xN B;have E:v.fault=e9 v:=by rw[c];exact zd B
  simp[y,D,E,f121]
 have c:v.fault=if Zg v.items=0 then KL none v.fields else Zg v.items:=by rw[c];exact ze B
 simp[y,B];refine zF (fun k U Y Z=>U 1=.ref 0 0 0/\U 16=.sl 5 (v.items.map qu.V)/\U 17=int v.items.length/\U 18=int k/\1<=Z/\Y 0=some ⟨100,5,false,[v.V]⟩/\Zg v.items=Zg (v.items.drop k)) v.items.length
  ⟨by simp,by simp,by simp,by simp,by simp,by simp,by simp⟩ ?_
 rintro k U Y Z N ⟨i,p,q,r,u,o,s⟩;have t:¬0=Z:=by omega
 by_cases b:k<v.items.length
 ·have T:=ko (zj b);have P:=ql k;have a:=fun Y Z=>Xb (fun v=>int v.fault) n v.items[k] Y Z ⟨by unfold zw;omega,by omega⟩
  rw[eX b]at s;by_cases d:v.items[k].fault=0
  ·rw[ze d]at s;simp[i,p,q,r,b,a,d,P]
   and_intros<;>first|omega|exact s|simp[t,o]
  ·rw[zd d]at s;have m:=xN d;rw[s,zd d]at c;simp[i,p,q,r,b,a,m,c,f121]
 ·obtain rfl:k=v.items.length:=by omega
  rw[zn]at s;have s:Zg v.items=0:=by rw[s];rfl
  rw[s,ze rfl]at c;simp[i,p,q,r,o];refine zF (fun k U Y Z=>U 1=.ref 0 0 0/\U 29=.sl 6 (v.fields.map kj)/\U 30=int v.fields.length/\U 31=int k/\1<=Z/\Y 0=some ⟨100,5,false,[v.V]⟩/\v.fault=KL (Z5 v.fields k) (v.fields.drop k)) v.fields.length
   ⟨by simp[i],by simp,by simp,by simp,u,o,by simp[c,Z5]⟩ ?_
  clear i p q r u o b N t Z Y U c;rintro k U Y Z N ⟨i,e,f,g,u,o,c⟩;have t:¬0=Z:=by omega
  by_cases b:k<v.fields.length
  ·have T:=Z4 (zj b);have P:=ql k;have l:v.fields[k].1.length<=zw:=by unfold zw;omega
   have a:=fun Y Z=>Xb (fun v=>int v.fault) n v.fields[k].2 Y Z ⟨by unfold zw;omega,by omega⟩
   have en:=Ho v.fields[k].1;rw[eY b]at c;cases w:iP v.fields[k].1
   case true=>simp[i,e,f,g,b,l,en,w,c,f121]
   have z:Z5 v.fields (k+1)=some v.fields[k].1:=by simp[Z5,b]
   simp only[w,zq,qn]at c;by_cases W:k=0
   ·subst W;simp only[Z5,js,qB,zq,qn]at c;by_cases d:v.fields[0].2.fault=0
    ·rw[ze d]at c;have X:=wu 1;simp[i,e,f,g,b,l,en,w,a,d,X]
     and_intros<;>first|omega|(rw[c];rw[z];simp;done)|simp[t,o]
    ·rw[zd d]at c;have m:=xN d;simp[i,e,f,g,b,l,en,w,a,m,c,f121]
   ·obtain⟨j,rfl⟩:∃j,k=j+1:=⟨k-1,by omega⟩;have C:j<v.fields.length:=by omega
    have F:IntKind.i64.wrap ((j:Int)+1-1)=(j:Int):=by rw[wR (by omega) (by omega)];omega
    have x:=wu (j:Int);have G:((j:Int)+1).toNat=j+1:=by omega
    have H:0<(j:Int)+1:=by omega
    have I:0<=(j:Int)+1:=by omega
    have J:(j:Int)+1<v.fields.length:=by omega
    have wk:=wu ((j:Int)+1+1);have K:(Op.bytesLess v.fields[j+1].1 v.fields[j].1||v.fields[j+1].1==v.fields[j].1)=Vs v.fields[j+1].1 v.fields[j].1:=rfl;have L:Z5 v.fields (j+1)=some v.fields[j].1:=by simp[Z5,C]
    simp only[L,js]at c;cases A:Vs v.fields[j+1].1 v.fields[j].1
    case true=>simp only[A,qB]at c;simp[i,e,f,g,b,C,l,en,w,a,o,t,F,x,G,H,I,J,K,A,c,f121]
    simp only[A,zq,qn]at c;by_cases d:v.fields[j+1].2.fault=0
    ·rw[ze d]at c;simp[i,e,f,g,b,C,l,en,w,a,o,t,F,x,G,H,I,J,K,A,d,wk]
     and_intros<;>first|omega|(rw[c];rw[z])|simp[t,o]
    ·rw[zd d]at c;have m:=xN d;simp[i,e,f,g,b,C,l,en,w,a,o,t,F,x,G,H,I,J,K,A,m,c,f121]
  ·obtain rfl:k=v.fields.length:=by omega
   rw[zn]at c;have c:v.fault=0:=by rw[c];rfl
   simp[i,e,f,g,c,f121]
theorem lv:∀n,zf prog 121 (zg false [] (FV (fun v=>int v.fault) n)):=by
 intro n
 induction n with
 |zero=>exact rL ⟨_,func121,by kernel_rfl,by kernel_rfl⟩
 |succ n a=>
  have b:AM.Good (Cra n) (fun g=>[150,151].contains g):=qq mixed ⟨a,by simp,dB,by simp,Zi,fun _=>zu _ _,Wv,fun _=>zu _ _,trivial⟩;exact yt (fn:=f121) b (qN func121) false [] _ fun args r h=>by obtain⟨v,rfl,c,rfl⟩:=Ka h;exact⟨zG (zk 1) (by decide),_,ng n v c,qc _⟩
noncomputable abbrev Crch:Ctx:=zR prog [(121,GV fun v=>int v.fault),(120,zg false [] (FV2 (fun v l=>.wP [int (v.rp l).1,wo (v.rp l).2]) 1 9 zw))]
theorem bO:zf prog 83 (GV fun v=>int v.check):=
 yt (fn:=f83) (zS mixed ⟨lv zw,rW zw,trivial⟩:AM.Good Crch _) (qN func83) false [] _ fun args r h=>by
  obtain⟨v,rfl,b,rfl⟩:=Ka h;have c:=fun Y Z=>QV (fun v=>int v.fault) v Y Z b.1
  have d:=fun Y Z=>Aa (fun v l=>.wP [int (v.rp l).1,wo (v.rp l).2]) 1 9 zw v 1 Y Z ⟨b.1,b.1,by omega,by omega⟩
  refine⟨by simp[f83],_,zm rfl ?_,qc _⟩;have f:=My v;have a:((v.rp 1).2||decide (1000<(v.rp 1).1))=Jr (v.rp 1):=rfl;unfold qu.check;rw[<-f];cases e:Jr (v.rp 1)
  ·simp[c,d,a,e,f83]
  ·simp[c,d,a,e,f83]
def wD(a b:Int):Int:=if a<b then -1 else if b<a then 1 else 0
def rX(a b:za):Int:=if Op.bytesLess a b then -1 else if Op.bytesLess a b||a==b then 0 else 1
def PD(f:Int->Int->Int):zb->Option O
 |[.v (.int .i64 a),.v (.int .i64 b)]=>some (int (f a b))
 |_=>none
theorem Rr{f:Int->Int->Int}{args:zb}{r:O}(h:PD f args=some r):∃a b,args=[int a,int b]/\r=int (f a b):=by
 unfold PD at h;split at h
 ·injection h with h;exact⟨_,_,rfl,h.symm⟩
 ·cases h
@[simp]theorem zdr(f:Int->Int->Int)(a b:Int)(Y:Hp)(Z:Nat):zg false [] (PD f) [.v (.int .i64 a),.v (.int .i64 b)] Y Z=some (int (f a b),Y,Z):=yP rfl rfl (.inl rfl)
def rY:zb->Option O
 |[.v (.int .i64 _)]=>some (wo false)
 |_=>none
def Vx:zb->Option O
 |[.v (.string _)]=>some (wo false)
 |_=>none
@[simp]theorem T4(a:Int)(Y:Hp)(Z:Nat):zg false [] rY [.v (.int .i64 a)] Y Z=some (wo false,Y,Z):=yP rfl rfl (.inl rfl)
@[simp]theorem T5(a:ByteArray)(Y:Hp)(Z:Nat):zg false [] Vx [.v (.string a)] Y Z=some (wo false,Y,Z):=yP rfl rfl (.inl rfl)
theorem rZ:zf prog 140 (zg false [] rY):=
 yt (fn:=f140) jS (qN func140) false [] _ fun args r h=>by
  unfold rY at h;split at h
  ·injection h with h;subst h;exact⟨by simp[f140],_,zm rfl (by simp[f140]),qc _⟩
  ·cases h
theorem bP:zf prog 131 (zg false [] Vx):=
 yt (fn:=f131) jS (qN func131) false [] _ fun args r h=>by
  unfold Vx at h;split at h
  ·injection h with h;subst h;exact⟨by simp[f131],_,zm rfl (by simp[f131]),qc _⟩
  ·cases h
noncomputable abbrev Cnn:Ctx:=zR prog [(140,zg false [] rY),(131,zg false [] Vx)]
theorem MB:AM.Good Cnn (fun g=>[140,131].contains g):=qq mixed ⟨rZ,fun _=>zu _ _,bP,fun _=>zu _ _,trivial⟩
theorem QG:zf prog 108 (zg false [] (PD wD)):=
 yt (fn:=f108) MB (qN func108) false [] _ fun args r h=>by
  obtain⟨a,b,rfl,rfl⟩:=Rr h;refine⟨by simp[f108],_,zm rfl ?_,qc _⟩;unfold wD;by_cases c:a<b
  ·simp[c,f108]
  ·by_cases d:b<a
   ·simp[c,d,f108]
   ·simp[c,d,f108]
noncomputable def Hq (f:za->za->Int):zb->Option O:=qf (α:=za×za) (fun a=>[str a.1,str a.2]) (fun _=>True) (fun a=>int (f a.1 a.2))
@[simp]theorem zds(f:za->za->Int)(a b:za)(Y:Hp)(Z:Nat):zg false [] (Hq f) [str a,str b] Y Z=some (int (f a b),Y,Z):=
 XX (a,b) _ _ rfl (fun a b e=>by obtain⟨c,d⟩:=a;obtain⟨g,h⟩:=b;simp only[zh,zA]at e;rw[wb e.1,wb e.2]) trivial (.inl rfl)
theorem lx:zf prog 122 (zg false [] (Hq rX)):=
 vX MB func122 false [] fun⟨a,b⟩ _=>by
  refine⟨by simp[f122],_,zm rfl ?_,qc _⟩;simp only[rX];cases c:Op.bytesLess a b
  ·cases d:(a==b)
   ·simp[c,d,f122]
   ·simp[c,d,f122]
  ·simp[c,f122]
@[simp]theorem zb3(a:Int):wD a a=0:=by simp[wD]
noncomputable abbrev yJ:=Lib.compareBytes
theorem fW:zf prog 45 (zg false [] (Hq yJ)):=
 rA ⟨_,func45,by kernel_rfl,by kernel_rfl⟩ fun args r h=>by obtain⟨⟨a,b⟩,rfl,_,rfl⟩:=zN h;exact⟨[.string ⟨a.toArray⟩,.string ⟨b.toArray⟩],rfl,by simp[lit],_,rfl,rfl,fun w=>by simpa using Tryz.bytealg_CompareString ⟨a.toArray⟩ ⟨b.toArray⟩ w⟩
noncomputable abbrev Cstr:Ctx:=zR prog [(45,zg false [] (Hq yJ))]
theorem kC:zf prog 27 (zg false [] (Hq yJ)):=
 vX (zS mixed ⟨fW,trivial⟩:AM.Good Cstr _) func27 false [] fun⟨a,b⟩ _=>⟨by simp[f27],_,zm rfl (by simp[f27]),qc _⟩
def K0:List Int->Int
 |[]=>0
 |n::l=>if n=0 then K0 l else n
def az(l:List Int):List zb:=l.map fun n=>[int n]
@[simp]theorem T6(l:List Int):(az l).length=l.length:=by simp[az]
@[simp]theorem ze1{l:List Int}{k:Nat}(h:k<(az l).length):(az l)[k]=[int (l[k]'(by simpa using h))]:=by simp[az]
theorem MC{a b:List Int}(h:az a=az b):a=b:=yX (fun x y e=>by simp only[zh,zA]at e;exact qI e) h
noncomputable def Lo:zb->Option O:=qf (α:=List Int) (fun l=>[.sl 1 (az l)]) (fun l=>l.length<=zw) (fun l=>int (K0 l))
theorem Rs(l:List Int)(i:l.length<=zw):zo C0 f141 [.sl 1 (az l)]=some (int (K0 l)):=by
 refine zm rfl ?_;unfold zw at i;simp;refine zF (fun k U Y Z=>U 3=int 0/\U 6=.sl 1 (az l)/\U 7=int l.length/\U 8=int k/\K0 l=K0 (l.drop k)) l.length ⟨by simp,by simp,by simp,by simp,by simp⟩ ?_;rintro k U Y Z m ⟨d,e,f,g,b⟩;by_cases a:k<l.length
 ·have j:=ql k;rw[zc a]at b;simp only[K0]at b;by_cases c:l[k]=0
  ·rw[ze c]at b;simp[d,e,f,g,a,c,j];exact⟨a,b⟩
  ·rw[zd c]at b;have h:=xN c;simp[d,e,f,g,a,h,b,f141]
 ·obtain rfl:k=l.length:=by omega
  rw[zn]at b;simp[d,e,f,g,b,K0,f141]
theorem Vy:zf prog 141 (zg false [] Lo):=
 vX jS func141 false [] fun l Y=>⟨by simp[f141],_,Rs l Y,qc _⟩
theorem bQ(l:List Int)(Y:Hp)(Z id:Nat)(e:Nat)(h:l.length<=zw)(c:Y id=some ⟨e,1,true,az l⟩):zg false [] Lo [.own id 0 l.length] Y Z=some (int (K0 l),Y,Z):=by have d:(az l).take l.length=az l:=qL (by simp);refine yP (show zD Y [.own id 0 l.length]=some ([.sl 1 (az l)],qR Y id none) by simp[c,d]) ?_ (.inl rfl);exact qM (V:=fun l:List Int=>[O.sl 1 (az l)]) (a:=l) (fun a b e=>by simp only[zh,zA]at e;injection e with _ e;exact MC e) h
def xE(l:za):Bool:=!l.isEmpty&&kZ l
noncomputable def wK (a b:za):Int:=if xE a=true then(if xE b=true then K0 [wD (Lib.trimLeftB a 48).length (Lib.trimLeftB b 48).length,yJ (Lib.trimLeftB a 48) (Lib.trimLeftB b 48)]else -1)else if xE b=true then 1 else yJ a b
noncomputable abbrev Ccp:Ctx:=zR prog [(265,zg false [] (FS kZ)),(213,zg false [] (Yc tlP fun _ b=>rS b)),(108,zg false [] (PD wD)),(27,zg false [] (Hq yJ)),(141,zg false [] Lo)]
theorem zas:AM.Good Ccp (fun g=>[265].contains g):=qq mixed ⟨Ww,fun _=>zu _ _,Yd,by simp,QG,by simp,kC,by simp,Vy,by simp,trivial⟩
@[simp]theorem zfa:kY Ccp 265:=y9 (by rfl) (zu _ _)
theorem gE(a:za)(Y:Hp)(Z:Nat)(h:a.length<=zw):zg false [] (Yc tlP fun _ b=>rS b) [str a,str [48]] Y Z=some (str (Lib.trimLeftB a 48),Y,Z):=xS _ _ a [48] Y Z h (by decide) ⟨48,rfl,by decide⟩ rfl
theorem fX(a b:za)(i:a.length<=zw)(j:b.length<=zw):zo Ccp f241 [str a,str b]=some (int (wK a b)):=by
 refine zm rfl ?_;have c:=fun Y Z=>kM kZ a Y Z i
 have d:=fun Y Z=>kM kZ b Y Z j
 have k:=fun Y Z=>gE a Y Z i
 have tb:=fun Y Z=>gE b Y Z j
 have e:(!a.isEmpty&&kZ a)=xE a:=rfl;have f:(!b.isEmpty&&kZ b)=xE b:=rfl;cases g:xE a<;>cases h:xE b
 ·simp[c,d,e,f,g,h,wK,f241]
 ·simp[c,d,e,f,g,h,wK,f241]
 ·simp[c,d,e,f,g,h,wK,f241]
 ·have l:∀(Y:Hp) (Z id:Nat),Y id=some ⟨3,1,true,[[int (wD (Lib.trimLeftB a 48).length (Lib.trimLeftB b 48).length)],[int (yJ (Lib.trimLeftB a 48) (Lib.trimLeftB b 48))]]⟩->zg false [] Lo [.own id 0 2] Y Z=some (int (K0 [wD (Lib.trimLeftB a 48).length (Lib.trimLeftB b 48).length,yJ (Lib.trimLeftB a 48) (Lib.trimLeftB b 48)]),Y,Z):=fun Y Z id m=>bQ [_,_] Y Z id _ (by show 2<=zw;decide) m
  simp[c,d,k,tb,e,f,g,h,l,zr,zJ,zp,wK,f241]
theorem dC:zf prog 241 (zg false [] (Yc (fun a b=>int (wK a b)) fun _ _=>True)):=
 yt (fn:=f241) zas (qN func241) false [] _ fun args r h=>by obtain⟨a,b,rfl,c,d,_,rfl⟩:=xg h;exact⟨by simp[f241],_,fX a b c d,qc _⟩
theorem oJ(a b:za)(Y:Hp)(Z:Nat)(h:a.length<=zw)(c:b.length<=zw):zg false [] (Yc (fun a b=>int (wK a b)) fun _ _=>True) [str a,str b] Y Z=some (int (wK a b),Y,Z):=xS _ _ a b Y Z h c trivial rfl
def yv{α:Type}(c:α->α->Int):List α->List α->Int
 |[],[]=>0
 |[],_::_=>-1
 |_::_,[]=>1
 |x::a,y::b=>if c x y=0 then yv c a b else c x y
noncomputable abbrev Ccf:Ctx:=zR prog [(241,zg false [] (Yc (fun a b=>int (wK a b)) fun _ _=>True))]
theorem zat:Gd Ccf:=zS mixed ⟨dC,trivial⟩
def vt(l:List za):Prop:=l.length<=zw/\∀p∈l,p.length<=zw
theorem bR(a b:List za)(o:vt a)(p:vt b):zo Ccf f240 [.sl 1 (zx a),.sl 1 (zx b),.fn (.func 241) [] []]=some (int (yv wK a b)):=by
 refine zm rfl ?_;obtain⟨o,q⟩:=o;obtain⟨p,r⟩:=p;unfold zw at o p;simp;refine zF (fun k U Y Z=>U 0=.sl 1 (zx a)/\U 1=.sl 1 (zx b)/\U 2=.fn (.func 241) [] []/\U 11=.sl 1 (zx a)/\U 12=int a.length/\U 13=int k/\k<=b.length/\yv wK a b=yv wK (a.drop k) (b.drop k)) a.length
  ⟨by simp,by simp,by simp,by simp,by simp,by simp,by simp,by simp⟩ ?_
 rintro k U Y Z y ⟨j,l,m,f,g,h,v,c⟩;by_cases d:k<a.length
 ·have w:=ql k;by_cases e:k<b.length
  ·have i:¬b.length<=k:=by omega
   have u:=fun Y Z=>oJ a[k] b[k] Y Z (q _ (zj d)) (r _ (zj e))
   rw[zc d,zc e]at c;simp only[yv]at c;by_cases n:wK a[k] b[k]=0
   ·rw[ze n]at c;simp[j,l,m,f,g,h,d,e,i,u,n,w];exact⟨d,by omega,c⟩
   ·rw[zd n]at c;have s:=xN n;simp[j,l,m,f,g,h,d,e,i,u,s,c,f240]
  ·obtain rfl:k=b.length:=by omega
   rw[zc d,zn]at c;simp only[yv]at c;simp[j,l,m,f,g,h,d,c,f240]
 ·obtain rfl:k=a.length:=by omega
  rw[zn]at c;by_cases t:a.length<b.length
  ·rw[zc t]at c;simp only[yv]at c;simp[j,l,m,f,g,h,t,c,f240]
  ·rw[wF (by omega)]at c;simp only[yv]at c;have x:¬((a.length:Int)<b.length):=by omega
   simp[j,l,m,f,g,h,t,c,f240]
noncomputable def FCf:zb->Option O:=qf (α:=List za×List za) (fun a=>[.sl 1 (zx a.1),.sl 1 (zx a.2),.fn (.func 241) [] []]) (fun a=>vt a.1/\vt a.2) (fun a=>int (yv wK a.1 a.2))
theorem zau:∀a b:List za×List za,[O.sl 1 (zx a.1),.sl 1 (zx a.2),.fn (.func 241) [] []]=[.sl 1 (zx b.1),.sl 1 (zx b.2),.fn (.func 241) [] []]->a=b:=by rintro⟨f,g⟩ ⟨h,i⟩ e;simp only[zh,zA]at e;obtain⟨c,d⟩:=e;injection c with _ c;injection d with _ d;rw[jd c,jd d]
theorem aA:zf prog 240 (zg false [] FCf):=
 vX zat func240 false [] fun⟨a,b⟩ ⟨c,d⟩=>⟨by simp[f240],_,bR a b c d,qc _⟩
theorem Rt(a b:List za)(Y:Hp)(Z:Nat)(c:vt a)(d:vt b):zg false [] FCf [.sl 1 (zx a),.sl 1 (zx b),.fn (.func 241) [] []] Y Z=some (int (yv wK a b),Y,Z):=
 yP (Y1:=Y) (by simp) (qM (V:=fun a:List za×List za=>[O.sl 1 (zx a.1),.sl 1 (zx a.2),.fn (.func 241) [] []]) (a:=(a,b)) zau ⟨c,d⟩) (.inl rfl)
noncomputable def ZO (v w:yf):Int:=if K0 [wD v.a w.a,wD v.b w.b,wD v.c w.c]=0 then(if v.pre.length=0 then(if w.pre.length=0 then 0 else 1)else if w.pre.length=0 then -1 else yv wK v.pre w.pre)else K0 [wD v.a w.a,wD v.b w.b,wD v.c w.c]
noncomputable abbrev Ccv:Ctx:=zR prog [(108,zg false [] (PD wD)),(141,zg false [] Lo),(240,zg false [] FCf)]
theorem zav:AM.Good Ccv (fun g=>[108,141].contains g):=qq mixed ⟨QG,fun _=>zu _ _,Vy,fun _=>zu _ _,aA,by simp,trivial⟩
theorem Vz(v w:yf)(t:v.small)(u:w.small):zo Ccv f207 [.agg v.V,.agg w.V]=some (int (ZO v w)):=by
 obtain⟨a,b,c,p⟩:=v;obtain⟨k,l,m,e⟩:=w;refine zm rfl ?_;have n:=fun Y Z=>Rt p e Y Z t u
 obtain⟨o,s⟩:=yx (K0 [wD a k,wD b l,wD c m]);have d:∀(Y:Hp) (Z id:Nat),Y id=some ⟨3,1,true,[[int (wD a k)],[int (wD b l)],[int (wD c m)]]⟩->zg false [] Lo [.own id 0 3] Y Z=some (int o,Y,Z):=fun Y Z id x=>s ▸ bQ [_,_,_] Y Z id _ (by show 3<=zw;decide) x
 have j:ZO ⟨a,b,c,p⟩ ⟨k,l,m,e⟩=if o=0 then(if p.length=0 then(if e.length=0 then 0 else 1)else if e.length=0 then -1 else yv wK p e)else o:=by rw[<-s];rfl
 rw[j];by_cases q:o=0
 ·subst q;by_cases h:p.length=0<;>by_cases i:e.length=0
  ·simp[yf.V,d,zr,zJ,zp,h,i,f207]
  ·have f:((e.length:Int)==0)=false:=by simpa using i
   simp[yf.V,d,zr,zJ,zp,h,i,f,f207]
  ·have g:((p.length:Int)==0)=false:=by simpa using h
   simp[yf.V,d,zr,zJ,zp,h,i,g,f207]
  ·have g:((p.length:Int)==0)=false:=by simpa using h
   have f:((e.length:Int)==0)=false:=by simpa using i
   simp[yf.V,d,zr,zJ,zp,h,i,g,f,n,f207]
 ·have r:=xN q;simp[yf.V,d,zr,zJ,zp,q,r,f207]
noncomputable def MD (f:yf->yf->O):zb->Option O:=qf (α:=yf×yf) (fun a=>[.agg a.1.V,.agg a.2.V]) (fun a=>a.1.small/\a.2.small) (fun a=>f a.1 a.2)
theorem zaw:∀a b:yf×yf,[O.agg a.1.V,.agg a.2.V]=[.agg b.1.V,.agg b.2.V]->a=b:=by rintro⟨f,g⟩ ⟨h,i⟩ e;simp only[zh,zA]at e;obtain⟨c,d⟩:=e;injection c with c;injection d with d;rw[Jq c,Jq d]
theorem K1:zf prog 207 (qy [.g va,.g va] (MD fun v w=>int (ZO v w))):=
 wM (fn:=f207) zav (qN func207) _ _ fun args r h=>by obtain⟨⟨v,w⟩,rfl,⟨a,b⟩,rfl⟩:=zN h;exact⟨by simp[f207],_,Vz v w a b,qX.refl _⟩
theorem Fv(v w:yf)(Y:Hp)(Z:Nat)(b:v.small)(c:w.small):qy [.g va,.g va] (MD fun v w=>int (ZO v w)) [.agg v.V,.agg w.V] Y Z=some (int (ZO v w),Y,Z):=
 vK (show zD Y [.agg v.V,.agg w.V]=some ([.agg v.V,.agg w.V],Y) by simp[yf.V]) (qM (V:=fun a:yf×yf=>[O.agg a.1.V,.agg a.2.V]) (a:=(v,w)) zaw ⟨b,c⟩) (.inl rfl)
structure Cut where
 v:yf
 after:Bool
def Cut.V(c:Cut):zb:=[int c.v.a,int c.v.b,int c.v.c,.sl 1 (zx c.v.pre),wo c.after]
abbrev jK:List (Option Nat):=[none,none,none,some 1,none]
theorem QH{a b:Cut}(h:a.V=b.V):a=b:=by obtain⟨⟨i,j,k,l⟩,m⟩:=a;obtain⟨⟨n,o,p,q⟩,r⟩:=b;simp only[Cut.V,zh,zA]at h;obtain⟨d,e,f,c,g⟩:=h;injection c with _ c;rw[qI d,qI e,qI f,jd c,QD g]
noncomputable def wv (a b:Cut):Int:=if ZO a.v b.v=0 then(if a.after=b.after then 0 else if b.after=true then -1 else 1)else ZO a.v b.v
noncomputable def Ac (f:Cut->Cut->O):zb->Option O:=qf (α:=Cut×Cut) (fun a=>[.agg a.1.V,.agg a.2.V]) (fun a=>a.1.v.small/\a.2.v.small) (fun a=>f a.1 a.2)
theorem ME:∀a b:Cut×Cut,[O.agg a.1.V,.agg a.2.V]=[.agg b.1.V,.agg b.2.V]->a=b:=by rintro⟨f,g⟩ ⟨h,i⟩ e;simp only[zh,zA]at e;obtain⟨c,d⟩:=e;injection c with c;injection d with d;rw[QH c,QH d]
noncomputable abbrev Ccu:Ctx:=zR prog [(207,qy [.g va,.g va] (MD fun v w=>int (ZO v w)))]
theorem zax:Gd Ccu:=zS mixed ⟨K1,trivial⟩
theorem dD(x y:Cut)(l:x.v.small)(m:y.v.small):zo Ccu f184 [.agg x.V,.agg y.V]=some (int (wv x y)):=by
 obtain⟨⟨a,b,c,p⟩,f⟩:=x;obtain⟨⟨h,i,j,k⟩,f'⟩:=y;refine zm rfl ?_;have d:=fun Y Z=>Fv ⟨a,b,c,p⟩ ⟨h,i,j,k⟩ Y Z l m
 simp only[yf.V]at d;by_cases e:ZO ⟨a,b,c,p⟩ ⟨h,i,j,k⟩=0
 ·cases f<;>cases f'<;>simp[Cut.V,d,e,wv,f184]
 ·have g:=xN e;simp[Cut.V,d,e,g,wv,f184]
theorem Z9:zf prog 184 (qy [.g jK,.g jK] (Ac fun v w=>int (wv v w))):=
 wM (fn:=f184) zax (qN func184) _ _ fun args r h=>by obtain⟨⟨v,w⟩,rfl,⟨a,b⟩,rfl⟩:=zN h;exact⟨by simp[f184],_,dD v w a b,qX.refl _⟩
theorem r7(x y:Cut)(u v:O)(Y:Hp)(Z:Nat)(b:(Sh.g jK).fix u=.agg x.V)(c:(Sh.g jK).fix v=.agg y.V)(d:zD Y [u,v]=some ([u,v],Y))(e:x.v.small)(f:y.v.small):qy [.g jK,.g jK] (Ac fun v w=>int (wv v w)) [u,v] Y Z=some (int (wv x y),Y,Z):=
 vK d (by show Ac _ [(Sh.g jK).fix u,(Sh.g jK).fix v]=_;rw[b,c];exact qM (V:=fun a:Cut×Cut=>[O.agg a.1.V,.agg a.2.V]) (a:=(x,y)) ME ⟨e,f⟩) (.inl rfl)
mutual
noncomputable def wz:qu->qu->Int
 | .mk k n s a b,w=>if k=w.kind then(if k=1\/k=2 then wD n w.n else if k=3 then yJ s w.s else if k=4 then gV a w.items else if k=5 then gW b w.fields else 0)else wD k w.kind
noncomputable def gV:List qu->List qu->Int
 |[],[]=>0
 |[],_::_=>-1
 |_::_,[]=>1
 |a::xs,b::ys=>if wz a b=0 then gV xs ys else wz a b
noncomputable def gW:List (za×qu)->List (za×qu)->Int
 |[],[]=>0
 |[],_::_=>-1
 |_::_,[]=>1
 |(x,a)::xs,g::ys=>if K0 [yJ x g.1,wz a g.2]=0 then gW xs ys else K0 [yJ x g.1,wz a g.2]
end
noncomputable def kR (f g:za×qu):Int:=K0 [yJ f.1 g.1,wz f.2 g.2]
theorem ly:∀a b:List qu,gV a b=yv wz a b
 |[],[]=>rfl
 |[],_::_=>rfl
 |_::_,[]=>rfl
 |a::xs,b::ys=>by simp only[gV,yv,ly xs ys]
theorem lz:∀a b:List (za×qu),gW a b=yv kR a b
 |[],[]=>rfl
 |[],_::_=>rfl
 |_::_,[]=>rfl
 |(x,a)::xs,g::ys=>by simp only[gW,yv,lz xs ys,kR];rfl
theorem Xf(a b:qu):wz a b=if a.kind=b.kind then(if a.kind=1\/a.kind=2 then wD a.n b.n else if a.kind=3 then yJ a.s b.s else if a.kind=4 then yv wz a.items b.items else if a.kind=5 then yv kR a.fields b.fields else 0)else wD a.kind b.kind:=by
 cases a with
 |mk k n s e f=>
  cases b with
  |mk g h i c d=>simp only[wz,ly,lz,qu.kind,qu.n,qu.s,qu.items,qu.fields];rfl
noncomputable def Lp (n:Nat):zb->Option O:=qf (α:=qu×qu) (fun a=>[.agg a.1.V,.agg a.2.V]) (fun a=>a.1.vb<=zw/\a.1.vb<=n/\a.2.vb<=zw) (fun a=>int (wz a.1 a.2))
theorem Wd(n:Nat)(a b:qu)(Y:Hp)(Z:Nat)(h:a.vb<=zw/\a.vb<=n/\b.vb<=zw):zg false [] (Lp n) [.agg a.V,.agg b.V] Y Z=some (int (wz a b),Y,Z):=
 yP (Y1:=Y) (show zD Y [.agg a.V,.agg b.V]=some ([.agg a.V,.agg b.V],Y) by simp only[zD,J9])
  (qM (V:=fun a:qu×qu=>[.agg a.1.V,.agg a.2.V]) (a:=(a,b)) (fun x y e=>by obtain⟨c,d⟩:=x;obtain⟨f,g⟩:=y;simp only[zh,zA,O.agg.injEq]at e;rw[J8 e.1,J8 e.2]) h) (.inl rfl)
theorem Js{f:FuncId}{F:zb->Option O}(b:∃fn,prog.funcs[f]?=some fn/\(fn.name== "runtime.NumGoroutine")=false/\fn.body.isNone=false)(h:∀args r,F args=some r->False):zf prog f (zg false [] F):=by
 refine⟨b,fun args Y Z r c d a=>?_⟩;unfold zg at a;split at a
 ·split at a
  ·rename_i e hF;exact(h _ _ hF).elim
  ·cases a
 ·cases a
theorem dE{a b:za×qu}(h:kj a=kj b):a=b:=by obtain⟨c,d⟩:=a;obtain⟨e,f⟩:=b;simp only[kj,zh]at h;rw[wb h.1,J8 h.2]
theorem oK{a b:List (za×qu)}(h:a.map kj=b.map kj):a=b:=yX (fun _ _=>dE) h
theorem dF{a b:List qu}(h:a.map qu.V=b.map qu.V):a=b:=yX (fun _ _=>J8) h
noncomputable abbrev Ccfv (n:Nat):Ctx:=zR prog [(68,zg false []<|Lp n)]
theorem bS(n:Nat)(a b:List (qu))(p:Ys a<=zw/\Ys a<=n)(t:Ys b<=zw):zo (Ccfv n) f109 [.sl 5 (a.map qu.V),.sl 5 (b.map qu.V),.fn (.func 68) [] []]=some (int (yv wz a b)):=by
 refine zm rfl ?_;obtain⟨p,u⟩:=p;have y:=ja a;have z:=ja b;unfold zw at p t;simp;refine zF (fun k U Y Z=>U 0=.sl 5 (a.map qu.V)/\U 1=.sl 5 (b.map qu.V)/\U 2=.fn (.func 68) [] []/\U 11=.sl 5 (a.map qu.V)/\U 12=int a.length/\U 13=int k/\k<=b.length/\yv wz a b=yv wz (a.drop k) (b.drop k)) a.length
  ⟨by simp,by simp,by simp,by simp,by simp,by simp,by simp,by simp⟩ ?_
 rintro k U Y Z A ⟨j,l,m,f,g,h,v,c⟩;by_cases d:k<a.length
 ·have w:=ql k;by_cases e:k<b.length
  ·have i:¬b.length<=k:=by omega
   have B:=ko (zj d);have C:=ko (zj e);have s:=fun Y Z=>Wd n a[k] b[k] Y Z ⟨by unfold zw;omega,by omega,by unfold zw;omega⟩
   skip
   rw[zc d,zc e]at c;simp only[yv]at c;by_cases o:wz a[k] b[k]=0
   ·rw[ze o]at c;simp[j,l,m,f,g,h,d,e,i,s,o,w];exact⟨d,by omega,c⟩
   ·rw[zd o]at c;have q:=xN o;simp[j,l,m,f,g,h,d,e,i,s,q,c,f109]
  ·obtain rfl:k=b.length:=by omega
   rw[zc d,zn]at c;simp only[yv]at c;simp[j,l,m,f,g,h,d,c,f109]
 ·obtain rfl:k=a.length:=by omega
  rw[zn]at c;by_cases r:a.length<b.length
  ·rw[zc r]at c;simp only[yv]at c;simp[j,l,m,f,g,h,r,c,f109]
  ·rw[wF (by omega)]at c;simp only[yv]at c;have x:¬((a.length:Int)<b.length):=by omega
   simp[j,l,m,f,g,h,r,c,f109]
noncomputable def FLV (n:Nat):zb->Option O:=qf (α:=List (qu)×List (qu)) (fun a=>[.sl 5 (a.1.map qu.V),.sl 5 (a.2.map qu.V),.fn (.func 68) [] []]) (fun a=>(Ys a.1<=zw/\Ys a.1<=n)/\Ys a.2<=zw) (fun a=>int (yv wz a.1 a.2))
theorem MF(n:Nat)(a b:List (qu))(Y:Hp)(Z:Nat)(h:(Ys a<=zw/\Ys a<=n)/\Ys b<=zw):zg false [] (FLV n) [.sl 5 (a.map qu.V),.sl 5 (b.map qu.V),.fn (.func 68) [] []] Y Z=some (int (yv wz a b),Y,Z):=
 yP (Y1:=Y) (by simp) (qM (V:=fun a:List (qu)×List (qu)=>[O.sl 5 (a.1.map qu.V),.sl 5 (a.2.map qu.V),.fn (.func 68) [] []]) (a:=(a,b)) (fun x y e=>by obtain⟨f,g⟩:=x;obtain⟨i,j⟩:=y;simp only[zh,zA]at e;obtain⟨c,d⟩:=e;injection c with _ c;injection d with _ d;rw[dF c,dF d]) h) (.inl rfl)
noncomputable def FFF (n:Nat):zb->Option O:=qf (α:=(za×qu)×(za×qu)) (fun a=>[.agg (kj a.1),.agg (kj a.2)]) (fun a=>(a.1.2.vb<=zw/\a.1.2.vb<=n/\a.2.2.vb<=zw)) (fun a=>int (kR a.1 a.2))
theorem MG(n:Nat)(a b:za×qu)(Y:Hp)(Z:Nat)(h:a.2.vb<=zw/\a.2.vb<=n/\b.2.vb<=zw):zg false [] (FFF n) [.agg (kj a),.agg (kj b)] Y Z=some (int (kR a b),Y,Z):=
 yP (Y1:=Y) (show zD Y [.agg (kj a),.agg (kj b)]=some ([.agg (kj a),.agg (kj b)],Y) by simp[kj])
  (qM (V:=fun a:(za×qu)×(za×qu)=>[.agg (kj a.1),.agg (kj a.2)]) (a:=(a,b)) (fun x y e=>by
   obtain⟨d,f⟩:=x;obtain⟨g,i⟩:=y;have c:kj d=kj g/\kj f=kj i:=by simp only[zh,zA,O.agg.injEq]at e;exact⟨zh .. ▸ e.1,zh .. ▸ e.2⟩
   rw[dE c.1,dE c.2]) h) (.inl rfl)
noncomputable abbrev Ccfl (n:Nat):Ctx:=zR prog [(27,zg false [] (Hq yJ)),(68,zg false [] (Lp n)),(141,zg false [] Lo)]
theorem aB(n:Nat)(a b:za×qu)(h:a.2.vb<=zw/\a.2.vb<=n/\b.2.vb<=zw):zo (Ccfl n) f111 [.agg (kj a),.agg (kj b)]=some (int (kR a b)):=by
 refine zm rfl ?_;have c:=fun Y Z=>Wd n a.2 b.2 Y Z h
 have d:∀(Y:Hp) (Z id:Nat),Y id=some ⟨3,1,true,[[int (yJ a.1 b.1)],[int (wz a.2 b.2)]]⟩->zg false [] Lo [.own id 0 2] Y Z=some (int (kR a b),Y,Z):=fun Y Z id e=>bQ [_,_] Y Z id _ (by show 2<=zw;decide) e
 simp[kj,c,d,zr,zJ,zp,f111]
noncomputable abbrev Ccff (n:Nat):Ctx:=zR prog [(111,zg false []<|FFF n)]
theorem bT(n:Nat)(a b:List (za×qu))(p:mS a<=zw/\mS a<=n)(t:mS b<=zw):zo (Ccff n) f110 [.sl 6 (a.map kj),.sl 6 (b.map kj),.fn (.func 111) [] []]=some (int (yv kR a b)):=by
 refine zm rfl ?_;obtain⟨p,u⟩:=p;have y:=vr a;have z:=vr b;unfold zw at p t;simp;refine zF (fun k U Y Z=>U 0=.sl 6 (a.map kj)/\U 1=.sl 6 (b.map kj)/\U 2=.fn (.func 111) [] []/\U 11=.sl 6 (a.map kj)/\U 12=int a.length/\U 13=int k/\k<=b.length/\yv kR a b=yv kR (a.drop k) (b.drop k)) a.length
  ⟨by simp,by simp,by simp,by simp,by simp,by simp,by simp,by simp⟩ ?_
 rintro k U Y Z A ⟨j,l,m,f,g,h,v,c⟩;by_cases d:k<a.length
 ·have w:=ql k;by_cases e:k<b.length
  ·have i:¬b.length<=k:=by omega
   have B:=Z4 (zj d);have C:=Z4 (zj e);have q:=fun Y Z=>MG n a[k] b[k] Y Z ⟨by unfold zw;omega,by omega,by unfold zw;omega⟩
   simp only[kj]at q;rw[zc d,zc e]at c;simp only[yv]at c;by_cases o:kR a[k] b[k]=0
   ·rw[ze o]at c;simp[j,l,m,f,g,h,d,e,i,q,o,w];exact⟨d,by omega,c⟩
   ·rw[zd o]at c;have r:=xN o;simp[j,l,m,f,g,h,d,e,i,q,r,c,f110]
  ·obtain rfl:k=b.length:=by omega
   rw[zc d,zn]at c;simp only[yv]at c;simp[j,l,m,f,g,h,d,c,f110]
 ·obtain rfl:k=a.length:=by omega
  rw[zn]at c;by_cases s:a.length<b.length
  ·rw[zc s]at c;simp only[yv]at c;simp[j,l,m,f,g,h,s,c,f110]
  ·rw[wF (by omega)]at c;simp only[yv]at c;have x:¬((a.length:Int)<b.length):=by omega
   simp[j,l,m,f,g,h,s,c,f110]
noncomputable def FLF (n:Nat):zb->Option O:=qf (α:=List (za×qu)×List (za×qu)) (fun a=>[.sl 6 (a.1.map kj),.sl 6 (a.2.map kj),.fn (.func 111) [] []]) (fun a=>(mS a.1<=zw/\mS a.1<=n)/\mS a.2<=zw) (fun a=>int (yv kR a.1 a.2))
theorem MH(n:Nat)(a b:List (za×qu))(Y:Hp)(Z:Nat)(h:(mS a<=zw/\mS a<=n)/\mS b<=zw):zg false [] (FLF n) [.sl 6 (a.map kj),.sl 6 (b.map kj),.fn (.func 111) [] []] Y Z=some (int (yv kR a b),Y,Z):=
 yP (Y1:=Y) (by simp) (qM (V:=fun a:List (za×qu)×List (za×qu)=>[O.sl 6 (a.1.map kj),.sl 6 (a.2.map kj),.fn (.func 111) [] []]) (a:=(a,b)) (fun x y e=>by obtain⟨f,g⟩:=x;obtain⟨i,j⟩:=y;simp only[zh,zA]at e;obtain⟨c,d⟩:=e;injection c with _ c;injection d with _ d;rw[oK c,oK d]) h) (.inl rfl)
noncomputable abbrev Ccmv (n:Nat):Ctx:=zR prog [(108,zg false [] (PD wD)),(27,zg false [] (Hq yJ)),(109,zg false [] (FLV n)),(110,zg false [] (FLF n))]
theorem nh(n:Nat)(a b:qu)(h:a.vb<=zw/\a.vb<=n+1/\b.vb<=zw):zo (Ccmv n) f68 [.agg a.V,.agg b.V]=some (int (wz a b)):=by
 obtain⟨u,v,w⟩:=h;have x:=Ya a;have y:=Ya b;have m:=fun Y Z=>MF n a.items b.items Y Z ⟨⟨by omega,by omega⟩,by omega⟩
 have o:=fun Y Z=>MH n a.fields b.fields Y Z ⟨⟨by omega,by omega⟩,by omega⟩
 refine zm rfl ?_;have c:=Xf a b;by_cases e:a.kind=b.kind
 ·rw[ze e]at c;by_cases j:a.kind=1
  ·rw[ze (.inl j)]at c;have d:b.kind=1:=by omega
   simp[j,d,c,f68]
  by_cases k:a.kind=2
  ·rw[ze (.inr k)]at c;have d:b.kind=2:=by omega
   simp[k,d,c,f68]
  rw[zd (by omega)]at c;by_cases f:a.kind=3
  ·rw[ze f]at c;have d:b.kind=3:=by omega
   simp[f,d,c,f68]
  rw[zd f]at c;by_cases g:a.kind=4
  ·rw[ze g]at c;have d:b.kind=4:=by omega
   simp[g,d,c,m,f68]
  rw[zd g]at c;by_cases i:a.kind=5
  ·rw[ze i]at c;have d:b.kind=5:=by omega
   simp[i,d,c,o,f68]
  rw[zd i]at c;have l:(a.kind != b.kind)=false:=by simpa using e
  have p:=jD j;have q:=jD k;have r:=jD f;have s:=jD g;have t:=jD i;simp[l,p,q,r,s,t,c,f68]
 ·rw[zd e]at c;have l:(a.kind != b.kind)=true:=by simpa using e
  simp[l,c,f68]
theorem gF{n:Nat}{args:zb}{r:O}(h:Lp n args=some r):∃a b:qu,args=[.agg a.V,.agg b.V]/\(a.vb<=zw/\a.vb<=n/\b.vb<=zw)/\r=int (wz a b):=by obtain⟨⟨a,b⟩,c,d,e⟩:=zN h;exact⟨a,b,c,d,e⟩
theorem VA:∀n,zf prog 68 (zg false [] (Lp n)):=by
 intro n
 induction n with
 |zero=>
  exact Js ⟨_,func68,by kernel_rfl,by kernel_rfl⟩ fun args r h=>by obtain⟨a,b,_,d,_⟩:=gF h;have:=Vq a;omega
 |succ n e=>
  have f:Gd (Ccfv n):=zS mixed ⟨e,trivial⟩;have i:zf prog 109 (zg false [] (FLV n)):=
   vX f func109 false [] fun⟨a,b⟩ ⟨c,d⟩=>by exact⟨zG (zk 3) (by decide),_,bS n a b c d,qc _⟩
  have j:AM.Good (Ccfl n) (fun g=>[27,68,141].contains g):=qq mixed ⟨kC,fun _=>zu _ _,e,fun _=>zu _ _,Vy,fun _=>zu _ _,trivial⟩;have k:zf prog 111 (zg false [] (FFF n)):=
   vX j func111 false [] fun⟨a,b⟩ c=>by exact⟨zG (zk 2) (by decide),_,aB n a b c,qc _⟩
  have l:Gd (Ccff n):=zS mixed ⟨k,trivial⟩;have m:zf prog 110 (zg false [] (FLF n)):=
   vX l func110 false [] fun⟨a,b⟩ ⟨c,d⟩=>by exact⟨zG (zk 3) (by decide),_,bT n a b c d,qc _⟩
  have o:Gd (Ccmv n):=zS mixed ⟨QG,kC,i,m,trivial⟩;exact yt (fn:=f68) o (qN func68) false [] _ fun args r h=>by obtain⟨a,b,rfl,c,rfl⟩:=gF h;exact⟨zG (zk 2) (by decide),_,nh n a b c,qc _⟩
end Go.Q
namespace Go.AM
def Ye(a:List Sh)(F:zb->Option O):AM.Spec:=zg true [] fun args=>F (bH a args)
theorem Ad{C:Ctx}{pf:FuncId->Bool}{f:FuncId}{fn:Func}(c:AM.Good C pf)(d:J6 C pf f fn)(a:List Sh)(F:zb->Option O)
  (hF:∀args r,F args=some r->args.length<=fn.ntmps/\∃b,zo C fn args=some b/\qX b r):zf C.P f (Ye a F):=
 Qu c d true [] _ fun args r h w S vs e=>by obtain⟨g,b,i,j⟩:=hF _ _ h;exact⟨bH a args,b,Jn e,g,i,j⟩
theorem MI{a:List Sh}{F:zb->Option O}{args:zb}{Y Y1:Hp}{Z:Nat}{ys:zb}{r:O}(b:zD Y args=some (ys,Y1))(c:F (bH a ys)=some r)(d:(r.flat=true\/args.all O.noOwn=true)->Y1=Y) :
  Ye a F args Y Z=some (r,Y1,Z):=by
 have e:yj [] ys=ys:=by cases ys<;>rfl
 unfold Ye zg;simp only[b,e,c];split
 ·rename_i h;rw[d h]
 ·simp
theorem DA(c:List Sh)(F:zb->Option O):QU (Ye c F):=by
 intro args Y Z r e f h;unfold Ye zg at h;split at h
 ·rename_i ys Y1 d;split at h
  ·split at h
   ·injection h with h;injection h with _ h;injection h with a b;subst a;subst b;exact⟨zk _,fun id blk _ a _=>a⟩
   ·split at h
    ·injection h with h;injection h with _ h;injection h with a b;subst a;subst b;exact⟨zk _,fun id blk _ a b=>Vp d a b⟩
    ·cases h
  ·cases h
 ·cases h
def xF(P:Program)(l:Zu)(k:Nat)(D:List (Tmp×Tmp))(L:List Tmp)(b:List Nat):Ctx:=⟨P,lookup l,fun i=>if i=k then D else[],fun i=>if i=k then L else[],fun g=>b.contains g,fun _=>[],fun _=>none⟩
@[simp]theorem zb4(P:Program)(l:Zu)(k:Nat)(D:List (Tmp×Tmp))(L:List Tmp)(b:List Nat):(xF P l k D L b).P=P:=rfl
@[simp]theorem zb5(P:Program)(l:Zu)(k:Nat)(D:List (Tmp×Tmp))(L:List Tmp)(b:List Nat)(Y:Hp)(Z g:Nat)(x y xs:zb):jH (xF P l k D L b) Y Z (some (.fn (.func g) x y)) xs=(lookup l g).bind fun s=>s (x++xs++y) Y Z:=by unfold jH xF;simp only;cases lookup l g<;>rfl
@[simp]theorem Lq(P:Program)(l:Zu)(k:Nat)(D:List (Tmp×Tmp))(L:List Tmp)(b:List Nat)(i:Nat)(a:Array Oper)(d:Bool)(st:St)(K:Exit->St->Prop)(h:¬i=k):Zy (xF P l k D L b) (.region i a d) st K=rk (xF P l k D L b) a a.toList st (KU K):=
 J1 _ i a d st K (by simp[xF,h]) (by simp[xF,h])
theorem j6{P:Program}{l:Zu}{k:Nat}{D:List (Tmp×Tmp)}{L:List Tmp}{b:List Nat}{a:Array Oper}{d:Bool}{st:St}{K:Exit->St->Prop}(h:Ws D st)(c:Q6 L st):Zy (xF P l k D L b) (.region k a d) st K=rk (xF P l k D L b) a a.toList st (KU K):=
 YA _ k a d st K (by simpa[xF]using h) (by simpa[xF]using c)
theorem oL{P:Program}{l:Zu}{q:List Nat}{k:Nat}{D:List (Tmp×Tmp)}{L:List Tmp}{b:List Nat}(a:P.follows .mixedOrders=true)(h:XA True P q l)(c:rJ b l):AM.Good (xF P l k D L b) (fun g=>q.contains g):=
 let g:=Mg (k:=k) (L:=L) a h c
 ⟨g.spec,g.quiet,g.mixed,g.box,fun _ _ h=>by cases h⟩
end Go.AM
namespace Go.Q
def ua(a b c:Int):O:=.agg [int a,int b,int c]
noncomputable def DB:zb->Option O:=qf (α:=Int×Int×Int×List za) (fun a=>[ua a.1 a.2.1 a.2.2.1,.sl 1 (zx a.2.2.2)]) (fun _=>True) (fun a=>.agg (⟨a.1,a.2.1,a.2.2.1,a.2.2.2⟩:yf).V)
theorem Ru:∀a b:Int×Int×Int×List za,[ua a.1 a.2.1 a.2.2.1,.sl 1 (zx a.2.2.2)]=[ua b.1 b.2.1 b.2.2.1,.sl 1 (zx b.2.2.2)]->a=b:=by rintro⟨h,i,j,k⟩ ⟨l,m,n,o⟩ e;simp only[ua,zh,zA]at e;obtain⟨c,d⟩:=e;injection c with c;simp only[zh,zA]at c;obtain⟨c,f,g⟩:=c;injection d with _ d;rw[qI c,qI f,qI g,jd d]
theorem r8(a b c:Int)(p:List za):zo C0 f205 [ua a b c,.sl 1 (zx p)]=some (.agg (⟨a,b,c,p⟩:yf).V):=by refine zm rfl ?_;simp[ua,yf.V,qb,qE,zI,f205]
theorem Y4:zf prog 205 (Ye [.a,.s 1 []] DB):=
 Ad (fn:=f205) jS (qN func205) _ _ fun args r h=>by obtain⟨⟨a,b,c,p⟩,rfl,_,rfl⟩:=zN h;exact⟨by simp[f205],_,r8 a b c p,qX.refl _⟩
theorem Kf(a b c:Int)(p:List za)(y z:O)(Y Y1:Hp)(Z:Nat)(e:qD Y y=some (z,Y1))(d:n1 1 z=.sl 1 (zx p))(f:y.noOwn=true->Y1=Y):Ye [.a,.s 1 []] DB [ua a b c,y] Y Z=some (.agg (⟨a,b,c,p⟩:yf).V,Y1,Z):=
 MI (ys:=[ua a b c,z]) (by
  have g:qD Y (ua a b c)=some (ua a b c,Y):=by simp[ua]
  simp only[zD,g,e]) (by
  have:(Sh.s 1 []).fix z=.sl 1 (zx p):=by
   cases z with
   |sl m es=>simp only[n1]at d;simp only[Sh.fix];rw[<-d];congr 1;exact(pQ (fun c _=>by cases c<;>rfl)).trans (List.map_id _)
   |_=>exact d
  show DB [ua a b c,(Sh.s 1 []).fix z]=_;rw[this];exact qM (V:=fun a:Int×Int×Int×List za=>[ua a.1 a.2.1 a.2.2.1,.sl 1 (zx a.2.2.2)]) (a:=(a,b,c,p)) Ru trivial) (by simpa[ua,yf.V]using f)
def qU:Cut:=⟨⟨0,0,0,[[48]]⟩,false⟩
noncomputable def Yf (r:O):zb->Option O:=qf (α:=Unit) (fun _=>[]) (fun _=>True) (fun _=>r)
theorem QI(r:O)(Y:Hp)(Z:Nat):qy [] (Yf r) [] Y Z=some (r,Y,Z):=vK (show zD Y []=some ([],Y)from rfl) (qM (V:=fun _:Unit=>[]) (a:=()) (fun _ _ _=>rfl) trivial) (.inr rfl)
theorem DC:zo C0 f178 []=some (.agg qU.V):=by refine zm rfl ?_;simp[qU,Cut.V,zx,str,qb,qE,zr,zJ,zp,zI,f178]
theorem fc:zf prog 178 (qy [] (Yf (.agg qU.V))):=
 wM (fn:=f178) jS (qN func178) _ _ fun args r h=>by obtain⟨_,rfl,_,rfl⟩:=zN h;exact⟨by simp[f178],_,DC,qX.refl _⟩
structure q8 where
 lo:Cut
 hi:Cut
 kc:Bool
def q8.V(s:q8):zb:=s.lo.V++s.hi.V++[wo s.kc]
def Qt:Cut:=⟨⟨0,0,0,[]⟩,false⟩
abbrev jn:List (Option Nat):=[none,none,none,some 1,none,none,none,none,some 1,none,none]
def wZ(c:Cut):q8:=⟨c,Qt,true⟩
def aC(a b:Cut):q8:=⟨a,b,false⟩
def qa(l:List q8):List zb:=l.map q8.V
def aD:O:=.sl 11 (qa [wZ qU])
noncomputable abbrev Cev:Ctx:=zR prog [(178,qy [] (Yf (.agg qU.V)))]
theorem zay:Gd Cev:=zS mixed ⟨fc,trivial⟩
theorem fY:∃a,zo Cev f163 []=some a/\qX a aD:=by refine WQ (sh:=.s 11 jn) rfl ?_;simp[QI,qU,Cut.V,zx,str,qb,qE,zr,zJ,zp,bI,aD,qa,wZ,q8.V,Qt,f163]
theorem Jt:zf prog 163 (qy [] (Yf aD)):=
 wM (fn:=f163) zay (qN func163) _ _ fun args r h=>by obtain⟨_,rfl,_,rfl⟩:=zN h;obtain⟨a,b,c⟩:=fY;exact⟨by simp[f163],a,b,c⟩
theorem lA{a b:Part}(h:a.V=b.V):a=b:=by obtain⟨i,j,k,l,m⟩:=a;obtain⟨n,o,p,q,r⟩:=b;simp only[Part.V,zh,zA]at h;obtain⟨d,e,f,g,c⟩:=h;injection c with _ c;rw[qI d,qI e,qI f,qI g,jd c]
def Part.ok(p:Part):Prop:=(0<=p.n0/\p.n0<=999999)/\(0<=p.n1/\p.n1<=999999)/\(0<=p.n2/\p.n2<=999999)/\(1<=p.has/\p.has<=3)/\vt p.pre
noncomputable def FPa (f:Part->O):zb->Option O:=qf (α:=Part) (fun p=>[.agg p.V]) Part.ok f
theorem Ae(f:Part->O)(p:Part)(u:O)(Y:Hp)(Z:Nat)(h:p.ok)(c:(Sh.g Vw).fix u=.agg p.V)(d:qD Y u=some (u,Y))(i:u.noOwn=true):qy [.g Vw] (FPa f) [u] Y Z=some (f p,Y,Z):=
 vK (show zD Y [u]=some ([u],Y) by simp only[zD,d]) (by show FPa f [(Sh.g Vw).fix u]=_;rw[c];exact qM (V:=fun p:Part=>[O.agg p.V]) (a:=p) (fun a b e=>by simp only[zh,zA]at e;injection e with e;exact lA e) h) (.inr (by rw[wO,i];rfl))
noncomputable def FPt (f:Part->O):zb->Option O:=qf (α:=Part) (fun p=>[.agg p.V]) (fun _=>True) f
theorem MJ(f:Part->O)(p:Part)(Y:Hp)(Z:Nat):qy [.g Vw] (FPt f) [.agg p.V] Y Z=some (f p,Y,Z):=
 vK (show zD Y [.agg p.V]=some ([.agg p.V],Y) by simp[Part.V]) (by show FPt f [(Sh.g Vw).fix (.agg p.V)]=_;rw[show(Sh.g Vw).fix (.agg p.V)=.agg p.V by simp[Part.V]];exact qM (V:=fun p:Part=>[O.agg p.V]) (a:=p) (fun a b e=>by simp only[zh,zA]at e;injection e with e;exact lA e) trivial) (.inr (by simp[Part.V]))
def Zl(p:Part):Cut:=⟨⟨p.n0,p.n1,p.n2,p.pre⟩,false⟩
noncomputable abbrev Clo:Ctx:=zR prog [(205,Ye [.a,.s 1 []] DB)]
theorem zaz:Gd Clo:=zS mixed ⟨Y4,trivial⟩
theorem MK(p:Part):zo Clo f179 [.agg p.V]=some (.agg (Zl p).V):=by
 obtain⟨a,b,c,d,e⟩:=p;refine zm rfl ?_;have f:=fun Y Z=>Kf a b c e (.sl 1 (zx e)) (.sl 1 (zx e)) Y Y Z (by simp) rfl (fun _=>rfl)
 simp[ua]at f;simp[Part.V,f,Zl,Cut.V,yf.V,qb,qE,zI,f179]
theorem Hr:zf prog 179 (qy [.g Vw] (FPt fun p=>.agg (Zl p).V)):=
 wM (fn:=f179) zaz (qN func179) _ _ fun args r h=>by obtain⟨p,rfl,_,rfl⟩:=zN h;exact⟨by simp[f179],_,MK p,qX.refl _⟩
def jf(p:Part):Nat->Cut
 | 0=>⟨⟨p.n0+1,0,0,[[48]]⟩,false⟩
 | 1=>⟨⟨p.n0,p.n1+1,0,[[48]]⟩,false⟩
 |_=>⟨⟨p.n0,p.n1,p.n2+1,[[48]]⟩,false⟩
def vD(p:Part):Nat->Bool
 | 0=>decide (p.n0+1<=999999)
 | 1=>decide (p.n1+1<=999999)
 |_=>decide (p.n2+1<=999999)
def ve(p:Part)(i:Nat):O:=.wP [.agg (jf p i).V,wo (vD p i)]
noncomputable abbrev Crsd:Ctx:=xF prog [(205,Ye [.a,.s 1 []] DB)] 7 [(6,4),(28,4)] [4,6,28] [205]
theorem Rv:Gd Crsd:=oL mixed ⟨Y4,by simp,trivial⟩ ⟨fun _=>DA _ _,trivial⟩
theorem WZ(st:St):Ws [] st:=fun _ h=>by cases h
theorem yb{a b:Tmp}{D:List (Tmp×Tmp)}{st:St}(h:pV st a b)(c:Ws D st):Ws ((a,b)::D) st:=fun p Y=>by
 rcases zv.1 Y with rfl|Y
 ·exact h
 ·exact c p Y
theorem Ju(st:St):Q6 [] st:=fun _ h=>by cases h
theorem xp{s:Tmp}{L:List Tmp}{st:St}{id i j:Nat}{blk:kN}(h:st.U s=.ref id i j)(b:id<st.Z)(c:st.Y id=some blk)(d:blk.arr=false)(f:Q6 L st)(hs:s<zB:=by decide):Q6 (s::L) st:=fun t a=>by
 rcases zv.1 a with rfl|a
 ·refine⟨⟨fun id' o n e=>(by rw[h]at e;cases e),fun id' i' j' e=>?_⟩,fun g=>absurd hs (Nat.not_lt.2 g)⟩;rw[h]at e;injection e with e _ _
  subst e;exact⟨b,blk,c,d⟩
 ·exact f t a
theorem kG{s:Tmp}{L:List Tmp}{st:St}{x:zb}(h:st.U s=.wP x)(b:Q6 L st)(hs:s<zB:=by decide):Q6 (s::L) st:=fun t a=>by
 rcases zv.1 a with rfl|a
 ·exact⟨⟨fun id' o n e=>(by rw[h]at e;cases e),fun id' i' j' e=>(by rw[h]at e;cases e)⟩,fun c=>absurd hs (Nat.not_lt.2 c)⟩
 ·exact b t a
theorem W0{a b:Tmp}{st:St}{id i j id' i' j':Nat}{blk:kN}(d:st.U a=.ref id i j)(e:st.U b=.ref id' i' j')(f:id≠id')(g:st.Y id'=some blk)(h:blk.arr=false):pV st a b:=by
 intro k l m c;rw[d]at c;injection c with c _ _
 subst c;exact⟨id',i',j',blk,e,f,g,h⟩
theorem jO{a b:Tmp}{st:St}{x:zb}(d:st.U a=.wP x):pV st a b:=by intro e f g c;rw[d]at c;cases c
theorem Af(p:Part)(i:Nat)(hi:i<3)(Y:p.ok):∃j,zo Crsd f182 [.agg p.V,int i]=some j/\qX j (ve p i):=by
 obtain⟨a,b,c,d,e⟩:=p;obtain⟨⟨k,l⟩,⟨m,n⟩,⟨o,q⟩,_⟩:=Y;simp only at k l m n o q;refine yB (sh:=.g jK) rfl ?_;have r:=wu (a+1);have t:=wu (b+1);have u:=wu (c+1);have f:∀(a b c:Int) (Y:Hp) (Z id:Nat),Y id=some ⟨9,1,true,[[str [48]]]⟩->Ye [.a,.s 1 []] DB [ua a b c,.own id 0 1] Y Z=some (.agg (⟨a,b,c,[[48]]⟩:yf).V,qR Y id none,Z):=fun a b c Y Z id v=>Kf a b c [[48]] (.own id 0 1) (.sl 1 [[str [48]]]) Y (qR Y id none) Z (by simp[v]) rfl (fun h=>by cases h)
 simp[ua,str]at f;rcases(by omega:i=0\/i=1\/i=2)with rfl|rfl|rfl
 ·simp[Part.V,r];rw[zE];simp;rw[zE];simp;rw[zE];simp;rw[j6 (yb (W0 (by simp;exact⟨rfl,rfl,rfl⟩) (by simp;exact⟨rfl,rfl,rfl⟩) (by omega) (by simp;rfl) rfl) (yb (jO (by simp;rfl)) (WZ _)))
   (xp (by simp;exact⟨rfl,rfl,rfl⟩) (by simp) (by simp;rfl) rfl (xp (by simp;exact⟨rfl,rfl,rfl⟩) (by simp) (by simp;rfl) rfl (kG (by simp;rfl) (Ju _))))]
  simp[f,qb,qE,zr,zJ,zp,qi,ve,jf,vD,Cut.V,yf.V,f182]
 ·simp[Part.V,t];rw[zE];simp;rw[zE];simp;rw[j6 (yb (W0 (by simp;exact⟨rfl,rfl,rfl⟩) (by simp;exact⟨rfl,rfl,rfl⟩) (by omega) (by simp;rfl) rfl) (yb (jO (by simp;rfl)) (WZ _)))
   (xp (by simp;exact⟨rfl,rfl,rfl⟩) (by simp) (by simp;rfl) rfl (xp (by simp;exact⟨rfl,rfl,rfl⟩) (by simp) (by simp;rfl) rfl (kG (by simp;rfl) (Ju _))))]
  simp[f,qb,qE,zr,zJ,zp,qi,ve,jf,vD,Cut.V,yf.V,f182]
 ·simp[Part.V,u];rw[zE];simp;rw[j6 (yb (W0 (by simp;exact⟨rfl,rfl,rfl⟩) (by simp;exact⟨rfl,rfl,rfl⟩) (by omega) (by simp;rfl) rfl) (yb (jO (by simp;rfl)) (WZ _)))
   (xp (by simp;exact⟨rfl,rfl,rfl⟩) (by simp) (by simp;rfl) rfl (xp (by simp;exact⟨rfl,rfl,rfl⟩) (by simp) (by simp;rfl) rfl (kG (by simp;rfl) (Ju _))))]
  simp[f,qb,qE,zr,zJ,zp,qi,ve,jf,vD,Cut.V,yf.V,f182]
noncomputable def FPi (f:Part->Nat->O):zb->Option O:=qf (α:=Part×Nat) (fun a=>[.agg a.1.V,int a.2]) (fun a=>a.1.ok/\a.2<3) (fun a=>f a.1 a.2)
theorem zaA:∀a b:Part×Nat,[O.agg a.1.V,int a.2]=[O.agg b.1.V,int b.2]->a=b:=by rintro⟨h,d⟩ ⟨i,f⟩ e;simp only[zh,zA]at e;obtain⟨c,g⟩:=e;injection c with c;have:=qI g;rw[lA c,show d=f by omega]
theorem Ag(f:Part->Nat->O)(p:Part)(i:Nat)(u:O)(Y:Hp)(Z:Nat)(h:p.ok)(hi:i<3)(b:(Sh.g Vw).fix u=.agg p.V)(c:qD Y u=some (u,Y))(d:u.noOwn=true):qy [.g Vw] (FPi f) [u,int i] Y Z=some (f p i,Y,Z):=
 vK (show zD Y [u,int i]=some ([u,int i],Y) by simp only[zD,c];rfl) (by show FPi f [(Sh.g Vw).fix u,int i]=_;rw[b];exact qM (V:=fun a:Part×Nat=>[O.agg a.1.V,int a.2]) (a:=(p,i)) zaA ⟨h,hi⟩) (.inr (by rw[wO,d];rfl))
theorem bU:zf prog 182 (qy [.g Vw] (FPi ve)):=
 wM (fn:=f182) Rv (qN func182) _ _ fun args r h=>by obtain⟨⟨p,i⟩,rfl,⟨a,b⟩,rfl⟩:=zN h;obtain⟨c,d,e⟩:=Af p i b a;exact⟨by simp[f182],c,d,e⟩
def vw(p:Part):Cut:=if p.has<3 then jf p (p.has-1).toNat else⟨⟨p.n0,p.n1,p.n2,p.pre⟩,true⟩
def Qa(p:Part):Bool:=if p.has<3 then vD p (p.has-1).toNat else true
def YH(p:Part):O:=.wP [.agg (vw p).V,wo (Qa p)]
noncomputable abbrev Chi:Ctx:=zR prog [(205,Ye [.a,.s 1 []] DB),(182,qy [.g Vw] (FPi ve))]
theorem zaB:Gd Chi:=zS mixed ⟨Y4,bU,trivial⟩
@[simp]theorem gG(p:Part)(Y:Hp):qD Y (.agg p.V)=some (.agg p.V,Y):=by simp[Part.V]
theorem Hs(p:Part)(Y:p.ok):zo Chi f181 [.agg p.V]=some (YH p):=by
 have a:=Y;obtain⟨_,_,_,⟨g,h⟩,_⟩:=Y;refine zm rfl ?_;have b:=fun Y Z=>Ag ve p (p.has-1).toNat (.agg p.V) Y Z a (by omega) (by simp[Part.V]) (gG p Y) (by simp[Part.V])
 have e:(((p.has-1).toNat:Nat):Int)=p.has-1:=by omega
 have f:=wu (p.has-1);rw[e]at b;have c:=fun Y Z=>Kf p.n0 p.n1 p.n2 p.pre (.sl 1 (zx p.pre)) (.sl 1 (zx p.pre)) Y Y Z (by simp) rfl (fun _=>rfl)
 simp[ua]at c;simp only[Part.V]at b;by_cases d:p.has<3
 ·simp[Part.V,d,b,f,YH,vw,Qa,ve,Cut.V,zI,f181]
 ·simp[Part.V,d,c,YH,vw,Qa,Cut.V,yf.V,qb,qE,zI,f181]
theorem DD:zf prog 181 (qy [.g Vw] (FPa YH)):=
 wM (fn:=f181) zaB (qN func181) _ _ fun args r h=>by obtain⟨p,rfl,a,rfl⟩:=zN h;exact⟨by simp[f181],_,Hs p a,qX.refl _⟩
noncomputable def dG (a b:Cut):List q8:=if 0<=wv a b then[]else[aC a b]
noncomputable def Kg (a b:Cut):O:=.sl 11 (qa (dG a b))
noncomputable abbrev Cbt:Ctx:=zR prog [(184,qy [.g jK,.g jK] (Ac fun v w=>int (wv v w)))]
theorem zaC:Gd Cbt:=zS mixed ⟨Z9,trivial⟩
theorem r9(x y:Cut)(c:x.v.small)(d:y.v.small):∃b,zo Cbt f180 [.agg x.V,.agg y.V]=some b/\qX b (Kg x y):=by
 refine WQ (sh:=.s 11 jn) rfl ?_;have a:=fun Y Z=>r7 x y (.agg x.V) (.agg y.V) Y Z (by simp[Cut.V]) (by simp[Cut.V]) (by simp[Cut.V]) c d
 simp only[Cut.V]at a;by_cases h:0<=wv x y
 ·simp[Cut.V,a,h,bI,Kg,dG,qa,f180]
 ·simp[Cut.V,a,h,qb,qE,zr,zJ,zp,bI,Kg,dG,qa,aC,q8.V,f180]
theorem nj:zf prog 180 (qy [.g jK,.g jK] (Ac Kg)):=
 wM (fn:=f180) zaC (qN func180) _ _ fun args r h=>by obtain⟨⟨v,w⟩,rfl,⟨a,b⟩,rfl⟩:=zN h;obtain⟨c,d,e⟩:=r9 v w a b;exact⟨by simp[f180],c,d,e⟩
structure xM where
 sign:List UInt8
 p:Part
 tu:Part
def xM.V(c:xM):zb:=[str c.sign,int c.p.n0,int c.p.n1,int c.p.n2,int c.p.has,.sl 1 (zx c.p.pre),int c.tu.n0,int c.tu.n1,int c.tu.n2,int c.tu.has,.sl 1 (zx c.tu.pre)]
abbrev sa:List (Option Nat):=[none,none,none,none,none,some 1,none,none,none,none,some 1]
theorem Ht{a b:xM}(h:a.V=b.V):a=b:=by obtain⟨q,⟨r,s,t,u,v⟩,⟨w,x,y,z,e⟩⟩:=a;obtain⟨A,⟨B,C,D,E,F⟩,⟨G,H,I,J,f⟩⟩:=b;simp only[xM.V,zh,zA]at h;obtain⟨g,i,j,k,l,d,m,n,o,p,c⟩:=h;injection d with _ d;injection c with _ c;rw[wb g,qI i,qI j,qI k,qI l,jd d,qI m,qI n,qI o,qI p,jd c]
def ji:za:=[97,108,108]
def xM.ok(c:xM):Prop:=c.sign.length<=zw/\(c.sign=ji\/(c.p.ok/\(c.sign=[45]->c.tu.ok)))
def jF(p:Part):Nat:=if 1<p.has/\p.n0=0 then(if 2<p.has/\p.n1=0 then 2 else 1)else 0
theorem Hu(p:Part):jF p<3:=by unfold jF;split<;>(try split)<;>omega
noncomputable def vB (c:xM):List q8×Bool:=
 if c.sign=ji then([wZ qU],true)
 else if c.sign=[62,61]then([wZ (Zl c.p)],true)
 else if c.sign=[60]then(dG qU (Zl c.p),true)
 else if c.sign=[62]then([wZ (vw c.p)],Qa c.p)
 else if c.sign=[60,61]then(dG qU (vw c.p),Qa c.p)
 else if c.sign=[45]then(dG (Zl c.p) (vw c.tu),Qa c.tu)
 else if c.sign=[126]then(dG (Zl c.p) (jf c.p (min (c.p.has-1) 1).toNat),vD c.p (min (c.p.has-1) 1).toNat)
 else if c.sign=[94]then(dG (Zl c.p) (jf c.p (jF c.p)),vD c.p (jF c.p))
 else(dG (Zl c.p) (vw c.p),Qa c.p)
noncomputable def Y5 (c:xM):O:=.wP [.sl 11 (qa (vB c).1),wo (vB c).2]
def lowP(p:Part):O:=.agg (Zl p).V
def dH:O:=.agg qU.V
noncomputable abbrev Cstt:Ctx:=zR prog [(179,qy [.g Vw] (FPt lowP)),(181,qy [.g Vw] (FPa YH)),(182,qy [.g Vw] (FPi ve)),(178,qy [] (Yf dH)),(163,qy [] (Yf aD)),(180,qy [.g jK,.g jK] (Ac Kg))]
theorem Rw:AM.Good Cstt (fun g=>[178,180].contains g):=qq mixed ⟨Hr,by simp,DD,by simp,bU,by simp,fc,fun _=>yY _ _,Jt,by simp,nj,fun _=>yY _ _,trivial⟩
theorem sb:qU.v.small:=⟨by decide,fun p Y=>by simp[qU]at Y;subst Y;decide⟩
theorem Kh(p:Part)(i:Nat):(jf p i).v.small:=by
 have h:(jf p i).v.pre=[[48]]:=by unfold jf;split<;>rfl
 exact⟨by rw[h];decide,fun q a=>by rw[h]at a;simp at a;subst a;decide⟩
theorem ZJ{p:Part}(h:vt p.pre):(Zl p).v.small:=h
theorem QJ{p:Part}(h:vt p.pre):(vw p).v.small:=by
 unfold vw;split
 ·exact Kh _ _
 ·exact h
theorem sd(c:Cut):(Sh.g jK).fix (.agg c.V)=.agg c.V:=by simp[Cut.V]
theorem ML(c:Cut)(Y:Hp):qD Y (.agg c.V)=some (.agg c.V,Y):=by simp[Cut.V]
theorem QY(x y:Cut)(Y:Hp)(Z:Nat)(b:x.v.small)(c:y.v.small):qy [.g jK,.g jK] (Ac Kg) [.agg x.V,.agg y.V] Y Z=some (Kg x y,Y,Z):=
 vK (show zD Y [.agg x.V,.agg y.V]=some ([.agg x.V,.agg y.V],Y) by simp only[zD,ML]) (by show Ac _ [(Sh.g jK).fix (.agg x.V),(Sh.g jK).fix (.agg y.V)]=_;rw[sd,sd];exact qM (V:=fun a:Cut×Cut=>[O.agg a.1.V,.agg a.2.V]) (a:=(x,y)) ME ⟨b,c⟩) (.inr (by simp[Cut.V]))
theorem lB(c:xM)(S:c.ok):∃r0,zo Cstt f164 [.agg c.V]=some r0/\qX r0 (Y5 c):=by
 obtain⟨h,p,T⟩:=c;obtain⟨_,S⟩:=S;simp only at S;refine yB (sh:=.s 11 jn) rfl ?_;have e:=fun Y Z=>MJ lowP p Y Z
 have J:∀(Y:Hp) (Z:Nat),qy [] (Yf dH) [] Y Z=some (.agg [int qU.v.a,int qU.v.b,int qU.v.c,.sl 1 (zx qU.v.pre),wo qU.after],Y,Z):=fun Y Z=>QI _ Y Z
 have X:∀(Y:Hp) (Z:Nat),qy [] (Yf aD) [] Y Z=some (.sl 11 (qa [wZ qU]),Y,Z):=fun Y Z=>QI _ Y Z
 simp only[lowP,Part.V,Cut.V]at e;by_cases K:h=ji
 ·subst K;simp[xM.V,e,X,ji,qi,Y5,vB,qa,wZ,q8.V,Cut.V,Qt,f164]
 obtain⟨Y,ht⟩:=S.resolve_left K;have B:vt p.pre:=Y.2.2.2.2;have k:(h==[97,108,108])=false:=by simpa[ji]using K
 by_cases W:h=[62,61]
 ·subst W;simp[xM.V,e,k,qb,qE,zr,zJ,zp,ji,qi,Y5,vB,qa,wZ,q8.V,Cut.V,Qt,f164]
 have l:=jD W;have L:=fun Y Z=>QY qU (Zl p) Y Z sb (ZJ B)
 have M:=fun Y Z=>QY qU (vw p) Y Z sb (QJ B)
 have G:=fun I Z=>Ae YH p (.agg p.V) I Z Y (by simp[Part.V]) (gG p I) (by simp[Part.V])
 simp only[Kg,YH,Part.V,Cut.V]at L M G;by_cases s2:h=[60]
 ·subst s2;simp[xM.V,e,J,L,k,l,ji,qi,Y5,vB,qa,q8.V,Cut.V,f164]
 have m:=jD s2;by_cases s3:h=[62]
 ·subst s3;simp[xM.V,e,G,k,l,m,qb,qE,zr,zJ,zp,ji,qi,Y5,vB,qa,wZ,q8.V,Cut.V,Qt,f164]
 have q:=jD s3;by_cases s4:h=[60,61]
 ·subst s4;simp[xM.V,e,G,J,M,k,l,m,q,qb,qE,zr,zJ,zp,ji,qi,Y5,vB,qa,wZ,q8.V,Cut.V,Qt,f164]
 have r:=jD s4;by_cases s5:h=[45]
 ·subst s5;have N:=ht rfl;have P:=fun Y Z=>QY (Zl p) (vw T) Y Z (ZJ B) (QJ N.2.2.2.2)
  have Q:=fun I Z=>Ae YH T (.agg T.V) I Z N (by simp[Part.V]) (gG T I) (by simp[Part.V])
  simp only[Kg,YH,Part.V,Cut.V]at P Q;simp[xM.V,e,Q,P,k,l,m,q,r,qb,qE,zr,zJ,zp,ji,qi,Y5,vB,qa,wZ,q8.V,Cut.V,Qt,f164]
 have t:=jD s5;have u:=fun i (hi:i<3) I Z=>Ag ve p i (.agg p.V) I Z Y hi (by simp[Part.V]) (gG p I) (by simp[Part.V])
 have w:=fun i Y Z=>QY (Zl p) (jf p i) Y Z (ZJ B) (Kh p i)
 simp only[Kg,ve,Part.V,Cut.V]at u w;have x:IntKind.i64.wrap (p.has-1)=p.has-1:=wR (by have:=Y.2.2.2.1;omega) (by have:=Y.2.2.2.1;omega);by_cases s6:h=[126]
 ·subst s6;have hm:(if 1<p.has-1 then 1 else p.has-1)=(((min (p.has-1) 1).toNat:Nat):Int):=by have:=Y.2.2.2.1;split<;>omega
  have d:=u (min (p.has-1) 1).toNat (by omega);rw[<-hm]at d;simp[xM.V,e,d,w,x,k,l,m,q,r,t,qb,qE,zr,zJ,zp,ji,qi,Y5,vB,qa,wZ,q8.V,Cut.V,Qt,f164]
 have y:=jD s6;by_cases s7:h=[94]
 ·subst s7;have hs3:(2:Int)<p.has->p.has=3:=by have:=Y.2.2.2.1;omega
  by_cases n:1<p.has
  ·have f:(0:Int)<p.has-1:=by omega
   by_cases C:p.n0=0
   ·have g:(p.n0==0)=true:=by simpa using C
    by_cases D:2<p.has
    ·have j:(1:Int)<p.has-1:=by omega
     have E:¬(2:Int)<p.has-1:=by have:=Y.2.2.2.1;omega
     by_cases H:p.n1=0
     ·have z:(p.n1==0)=true:=by simpa using H
      have o:jF p=2:=by simp[jF,n,f,D,j,E,C,H]
      have d:=u 2 (by omega);rw[show((2:Nat):Int)=2 from rfl]at d;simp[xM.V,e,x,k,l,m,q,r,t,y,n,f,D,j,E,g,z,ji];rw[zE];simp[xM.V,e,x,k,l,m,q,r,t,y,n,f,D,j,E,g,z];rw[zE];simp[xM.V,e,x,k,l,m,q,r,t,y,n,f,D,j,E,g,z];rw[zE];simp[xM.V,e,x,k,l,m,q,r,t,y,d,w,o,n,f,D,j,E,g,z,qb,qE,zr,zJ,zp,ji,qi,Y5,vB,qa,wZ,q8.V,Cut.V,Qt,f164]
     ·have A:=jD H;have o:jF p=1:=by simp[jF,n,f,D,j,C,H,A]
      have d:=u 1 (by omega);rw[show((1:Nat):Int)=1 from rfl]at d;simp[xM.V,e,x,k,l,m,q,r,t,y,n,f,D,j,g,A,ji];rw[zE];simp[xM.V,e,x,k,l,m,q,r,t,y,n,f,D,j,g,A];rw[zE];simp[xM.V,e,x,k,l,m,q,r,t,y,d,w,o,n,f,D,j,g,A,qb,qE,zr,zJ,zp,ji,qi,Y5,vB,qa,wZ,q8.V,Cut.V,Qt,f164]
    ·have j:¬(1:Int)<p.has-1:=by omega
     have o:jF p=1:=by simp[jF,n,f,D,j,C]
     have d:=u 1 (by omega);rw[show((1:Nat):Int)=1 from rfl]at d;simp[xM.V,e,x,k,l,m,q,r,t,y,n,f,D,j,g,ji];rw[zE];simp[xM.V,e,x,k,l,m,q,r,t,y,n,f,D,j,g];rw[zE];simp[xM.V,e,x,k,l,m,q,r,t,y,d,w,o,n,f,D,j,g,qb,qE,zr,zJ,zp,ji,qi,Y5,vB,qa,wZ,q8.V,Cut.V,Qt,f164]
   ·have F:=jD C;have o:jF p=0:=by simp[jF,n,f,C,F]
    have d:=u 0 (by omega);rw[show((0:Nat):Int)=0 from rfl]at d;simp[xM.V,e,x,k,l,m,q,r,t,y,n,f,F,ji];rw[zE];simp[xM.V,e,x,k,l,m,q,r,t,y,d,w,o,n,f,F,qb,qE,zr,zJ,zp,ji,qi,Y5,vB,qa,wZ,q8.V,Cut.V,Qt,f164]
  ·have f:¬(0:Int)<p.has-1:=by omega
   have o:jF p=0:=by simp[jF,n,f]
   have d:=u 0 (by omega);rw[show((0:Nat):Int)=0 from rfl]at d;simp[xM.V,e,x,k,l,m,q,r,t,y,n,f,ji];rw[zE];simp[xM.V,e,x,k,l,m,q,r,t,y,d,w,o,n,f,qb,qE,zr,zJ,zp,ji,qi,Y5,vB,qa,wZ,q8.V,Cut.V,Qt,f164]
 have e7:=jD s7;have R:=fun Y Z=>QY (Zl p) (vw p) Y Z (ZJ B) (QJ B)
 simp only[Kg,Cut.V]at R;simp only[ji]at K;have e1':=W;simp[xM.V,e,G,R,k,l,m,q,r,t,y,e7,K,W,s2,s3,s4,s5,s6,s7,qb,qE,zr,zJ,zp,ji,qi,Y5,vB,qa,wZ,q8.V,Cut.V,Qt,f164]
noncomputable def FCm (f:xM->O):zb->Option O:=qf (α:=xM) (fun c=>[.agg c.V]) xM.ok f
theorem fZ:zf prog 164 (qy [.g sa] (FCm Y5)):=
 wM (fn:=f164) Rw (qN func164) _ _ fun args r h=>by obtain⟨c,rfl,a,rfl⟩:=zN h;obtain⟨b,d,e⟩:=lB c a;exact⟨by simp[f164],b,d,e⟩
def q9:List za:=[[62,61],[60,61],[62],[60],[61],[126],[94]]
def wy:List za->za->za×za
 |[],s=>([],s)
 |g::l,s=>if g.isPrefixOf s=true then(g,s.drop g.length)else wy l s
def Rx(s:za):O:=.wP [str (wy q9 s).1,str (wy q9 s).2]
noncomputable abbrev Cop:Ctx:=zR prog [(204,zg false [] (Yc Rn fun _ _=>True))]
theorem zaD:Gd Cop:=zS mixed ⟨fT,trivial⟩
theorem nk(s:za)(h:s.length<=zw):zo Cop f176 [str s]=some (Rx s):=by
 refine zm rfl ?_;have l:∀Y Z,zr prog Y Z 26 7 [(0,str [62,61]),(1,str [60,61]),(2,str [62]),(3,str [60]),(4,str [61]),(5,str [126]),(6,str [94])]=some (.own Z 0 7,qR Y Z (some ⟨9,1,true,zx q9⟩),Z+1):=fun Y Z=>by simp[zr,zJ,zp,q9,str]
 simp[str]at l;simp[l];refine zF (fun k U Y Z=>U 0=str s/\U 8=.own 0 0 7/\U 9=int 7/\U 10=int k/\Y 0=some ⟨9,1,true,zx q9⟩/\wy q9 s=wy (q9.drop k) s) 7 ⟨by simp,by simp,by simp,by simp,by simp,by simp⟩ ?_;rintro k U Y Z r ⟨f,g,i,b,m,a⟩;by_cases c:k<7
 ·have e:k<q9.length:=c;have j:q9[k].length<=zw:=by
   have:∀q∈q9,q.length<=zw:=by decide
   exact this _ (zj e)
  have n:=fun Y Z=>Fq s q9[k] Y Z h j
  have o:=ql k;have d:(k:Int)<7:=by omega
  rw[zc e]at a;simp only[wy]at a;by_cases Y:(q9[k]).isPrefixOf s=true
  ·rw[ze Y]at a;simp[f,g,i,b,m,d,c,e,n,Y,o,Rx,a,zI,f176]
  ·rw[zd Y]at a;have p:(q9[k]).isPrefixOf s=false:=Bool.eq_false_iff.2 Y;simp[f,g,i,b,m,d,c,e,n,p,o];exact⟨by omega,a⟩
 ·obtain rfl:k=7:=by omega
  rw[show q9.drop 7=[]from rfl]at a;simp only[wy]at a;simp[f,g,i,b,Rx,a,zI, f176]
theorem lC:zf prog 176 (zg false [] (Ln Rx)):=
 vX zaD func176 false [] fun l Y=>⟨by simp[f176],_,nk l Y,qc _⟩
def mP(l:za):Bool:=l.isEmpty
theorem lD:zf prog 174 (zg false [] (FS mP)):=
 vX jS func174 false [] fun l Y=>⟨by simp[f174],_,zm rfl (by simp[zI,mP,f174]),qc _⟩
def dI:Nat->List za->Int
 |_,[]=>-1
 |k,x::l=>if x=[]then k else dI (k+1) l
def gH:O:=.fn (.func 174) [] []
noncomputable def FIx:zb->Option O:=qf (α:=List za) (fun l=>[.sl 1 (zx l),gH]) vt (fun l=>int (dI 0 l))
noncomputable abbrev Cixf:Ctx:=zR prog [(174,zg false [] (FS mP))]
theorem Ry:Gd Cixf:=zS mixed ⟨lD,trivial⟩
theorem ga(l:List za)(h:vt l):zo Cixf f99 [.sl 1 (zx l),gH]=some (int (dI 0 l)):=by
 refine zm rfl ?_;obtain⟨o,e⟩:=h;unfold zw at o;simp[gH];refine zF (fun k U Y Z=>U 0=.sl 1 (zx l)/\U 1=gH/\U 7=int l.length/\U 8=int k/\dI 0 l=dI k (l.drop k)) l.length ⟨by simp,by simp[gH],by simp,by simp,by simp⟩ ?_;rintro k U Y Z q ⟨f,g,i,j,b⟩;by_cases a:k<l.length
 ·have m:=ql k;have n:=fun p Z=>kM mP l[k] p Z (e _ (zj a))
  rw[zc a]at b;simp only[dI]at b;by_cases d:l[k]=[]
  ·rw[ze d]at b;have c:mP l[k]=true:=by simpa[mP]using d
   simp[f,g,i,j,gH,a,n,c,m,b,zI,f99]
  ·rw[zd d]at b;have c:mP l[k]=false:=by simpa[mP]using d
   simp[f,g,i,j,gH,a,n,c,m];exact⟨a,b⟩
 ·obtain rfl:k=l.length:=by omega
  rw[zn]at b;simp only[dI]at b;simp[f,g,i,j,b,zI,f99]
theorem MM:∀a b:List za,[O.sl 1 (zx a),gH]=[O.sl 1 (zx b),gH]->a=b:=fun a b e=>by
 simp only[zh,zA]at e;injection e with _ e
 exact jd e
theorem dJ:zf prog 99 (zg false [] FIx):=
 vX Ry func99 false [] fun l Y=>⟨by simp[f99],_,ga l Y,qc _⟩
theorem MN(l:List za)(Y:Hp)(Z id:Nat)(h:vt l)(b:Y id=some (Kc l)):zg false [] FIx [.own id 0 l.length,gH] Y Z=some (int (dI 0 l),Y,Z):=by
 have c:(zx l).take l.length=zx l:=qL (by simp);refine yP (show zD Y [.own id 0 l.length,gH]=some ([.sl 1 (zx l),gH],qR Y id none) by have:Y id=some ⟨9,1,true,zx l⟩:=b;simp[gH,this,c]) (qM (V:=fun l:List za=>[O.sl 1 (zx l),gH]) (a:=l) MM h) (.inl rfl)
def wq(l:List za):List za:=l.filter fun x=>!mP x
theorem oM:∀(l:List za) (k:Nat),(dI k l=-1/\wq l=l)\/∃i,∃h:i<l.length,dI k l=((k+i:Nat):Int)/\mP l[i]=true/\wq (l.take i)=l.take i
 |[],k=>.inl ⟨rfl,rfl⟩
 |x::l,k=>by
  by_cases a:x=[]
  ·exact .inr ⟨0,by simp,by simp[dI,a],by simp[mP,a],by simp[wq]⟩
  ·have b:mP x=false:=by simpa[mP]using a
   rcases oM l (k+1)with⟨c,d⟩|⟨i,h,c,d,e⟩
   ·exact .inl ⟨by simp[dI,a,c],by simp only[wq,List.filter_cons,b];simpa[wq]using d⟩
   ·refine .inr ⟨i+1,by simpa using h,by simp only[dI,zd a,c];congr 1;omega,by simpa using d,?_⟩;simp only[yd,wq,List.filter_cons,b];simpa[wq]using e
theorem Ki{l:List za}{j:Nat}(h:j<l.length):wq (l.take (j+1))=if mP l[j]=true then wq (l.take j)else wq (l.take j)++[l[j]]:=by rw[zX h];simp only[wq,List.filter_append,List.filter_cons,List.filter_nil];cases mP l[j]<;>simp
theorem fe(a b:List za):zx (a++b)=zx a++zx b:=by simp[zx]
theorem Hv{l:List za}{i:Nat}(h:i<l.length):zx l=zx (l.take i)++[str l[i]]::zx (l.drop (i+1)):=by rw[<-Xd,<-fe,<-zc h,vU]
noncomputable abbrev Cdf:Ctx:=zR prog [(174,zg false [] (FS mP)),(99,zg false [] FIx)]
theorem zaE:Gd Cdf:=zS mixed ⟨lD,dJ,trivial⟩
theorem dK:zf prog 173 (yq Cdf f173):=kQ zaE func173
def DelQ(l:List za)(id:Nat)(Y:Hp)(Z:Nat)(x:O)(b:Hp)(c:Nat):Prop:=x=.own id 0 (wq l).length/\c=Z/\(∃a,b id=some ⟨9,1,true,zx (wq l)++a⟩)/\∀j,j≠id->b j=Y j
theorem DE(l:List za)(E:Hp)(Z0 id:Nat)(h:vt l)(F:E id=some (Kc l)):∃x R Z',yq Cdf f173 [.own id 0 l.length,gH] E Z0=some (x,R,Z')/\DelQ l id E Z0 x R Z':=by
 unfold yq;rw[ze (by simp[f173])];refine qF rfl ?_;have n:=MN l E Z0 id h F;obtain⟨hl,T⟩:=h;unfold zw at hl;simp only[gH]at n;have G:E id=some ⟨9,1,true,zx l⟩:=F;rcases oM l 0 with⟨W,H⟩|⟨i,hi,W,H,X⟩
 ·rw[W]at n;simp[gH,n,DelQ,H,f173];exact⟨[],by simpa using G⟩
 ·rw[W]at n;have hi1:((i:Int)==-1)=false:=by simp
  have w:=ql i;simp[gH,n,hi1,w];refine zF (fun k U Y Z=>U 0=.own id 0 l.length/\U 1=gH/\U 5=int (wq (l.take (i+1+k))).length/\U 6=int ((i:Int)+1+k)/\Z=Z0/\(∀j,j≠id->Y j=E j) /\
    ∃a,Y id=some ⟨9,1,true,zx (wq (l.take (i+1+k)))++a++zx (l.drop (i+1+k))⟩/\(wq (l.take (i+1+k))).length+a.length=i+1+k/\0<a.length/\∀c∈a,c.length=1) (l.length-(i+1))
   ⟨by simp,by simp[gH],by simp[Ki hi,H,X];omega,by simp,rfl,fun _ _=>rfl,[[str l[i]]],by simp[Ki hi,H,X,G];exact Hv hi,by simp[Ki hi,H,X];omega,by simp,by simp⟩ ?_
  rintro k U Y Z hk ⟨h0,h1,I,h6,rfl,z,a,s,A,J,B⟩;obtain⟨j,hj⟩:=yx (i+1+k);have C:U 6=int j:=by rw[h6];congr 2;omega
  rw[hj]at I s A;by_cases g:j<l.length
  ·have hc:=fun R Z=>kM mP l[j] R Z (T _ (zj g))
   have K:=ql j;have hww:=wu (((wq (l.take j)).length:Int)+1);have u:(zx (wq (l.take j))++a++zx (l.drop j))[j]?=some [str l[j]]:=by rw[zQ (by simp;omega),zc g,Xd];rw[show j-(zx (wq (l.take j))++a).length=0 by simp;omega];rfl
   have o:(zx (wq (l.take j))++a++zx (l.drop j)).length=l.length:=by simp;omega
   obtain⟨d,f⟩:=yx (zx (wq (l.take j))++a++zx (l.drop j));rw[f]at s u o;have p:∀h:j<d.length,d[j]=[str l[j]]:=fun h=>(zi.1 u).2
   have t:=Ki g;have L:i+1+(k+1)=j+1:=by omega
   have w:(wq (l.take j)).length<l.length:=by omega
   cases S:mP l[j]
   ·rw[S,zd (by simp)]at t;obtain⟨y,b,rfl,D⟩:∃y b,a=[y]::b/\∀c∈b,c.length=1:=by
     cases a with
     |nil=>simp at J
     |cons x b=>
      have:=B x (by simp)
      match x,this with
      |[y],_=>exact⟨y,b,rfl,fun c hc=>B c (by simp[hc])⟩
    have hg3:∀h:(wq (l.take j)).length<d.length,d[(wq (l.take j)).length]=[y]:=fun h=>by
     have:d[(wq (l.take j)).length]?=some [y]:=by rw[<-f,q5,zQ (by simp)];simp
     exact(zi.1 this).2
    have M:d.set (wq (l.take j)).length [str l[j]]=zx (wq (l.take j))++([str l[j]]::b++zx (l.drop j)):=by rw[<-f,q5,List.set_append_right _ _ (by simp)];simp
    simp only[zP]at A;simp[h0,h1,I,C,gH,g,s,p,hc,S,K,hww,w,o,hg3,M,L,t];refine⟨by omega,by omega,fun q N=>by rw[zM _ _ _ _ N];exact z q N,b++[[str l[j]]],?_,by simp;omega,by simp,?_⟩
    ·rw[fe];simp;rw[zc g,Xd]
    ·intro c hc;rcases zK.1 hc with hc|hc
     ·exact D c hc
     ·simp at hc;subst hc;rfl
   ·rw[S,ze rfl]at t;simp[h0,h1,I,C,gH,g,s,p,hc,S,K,L,t,o];refine⟨by omega,by omega,z,a++[[str l[j]]],?_,by simp;omega,by simp,?_⟩
    ·rw[<-f];simp;rw[zc g,Xd]
    ·intro c hc;rcases zK.1 hc with hc|hc
     ·exact B c hc
     ·simp at hc;subst hc;rfl
  ·obtain rfl:j=l.length:=by omega
   rw[wJ]at I s A;rw[zn,Mr,jL]at s;have hn1:¬(l.length:Int)<l.length:=by omega
   have v:(wq l).length<=l.length:=by omega
   have m:l.length-(wq l).length=a.length:=by omega
   have hcl:db prog Y Z 26 (.own id (wq l).length a.length)=some (.wP [],qR Y id (some ⟨9,1,true,zx (wq l)++List.replicate a.length [str []]⟩),Z):=by
    have ht:(zx (wq l)++a).take (wq l).length=zx (wq l):=by rw[List.take_append_of_le_length (by simp),Hm]
    have hd:(zx (wq l)++a).drop ((wq l).length+a.length)=[]:=wF (by simp);simp[db,s,ht,hd,J,str]
   have hs1:∀Y:Hp,Y id=some ⟨9,1,true,zx (wq l)++a⟩->yG prog Y 26 (.own id 0 l.length) (some (some (int (wq l).length))) none=some (.own id (wq l).length a.length):=fun Y F=>by
    have:¬l.length=(wq l).length:=by omega
    simp[yG,F,kD,v,m,this];intro e;rw[e]at m⊢;simp at m;simp[m]
   have hs2:∀(Y:Hp) (r:List zb),Y id=some ⟨9,1,true,r⟩->yG prog Y 26 (.own id 0 l.length) none (some (some (int (wq l).length)))=some (.own id 0 (wq l).length):=fun Y r F=>by simp[yG,F,kD,v]
   have P:=hs1 Y s;have Q:=hs2 (qR Y id (some ⟨9,1,true,zx (wq l)++List.replicate a.length [str []]⟩)) _ (by simp;rfl);simp[h0,h1,I,C,gH,s,P,Q,hcl,f173];exact⟨rfl,rfl,⟨_,by simp;rfl⟩,fun q N=>by rw[zM _ _ _ _ N];exact z q N⟩
def dL:xM:=⟨ji,wg,wg⟩
def Jv(a:za)(p:Part):xM:=⟨a,p,wg⟩
def kp(w:za)(l:List za):Option (xM×List za):=
 if(wy q9 w).1=[]/\yk (wy q9 w).2=true then some (dL,l)
 else if(wy q9 w).1≠[]/\(wy q9 w).2=[]/\l≠[]then(match l with
  |r::l'=>if(zO r).2=true then some (Jv (wy q9 w).1 (zO r).1,l')else none
  |[]=>none)
 else if(zO (wy q9 w).2).2=true then some (Jv (wy q9 w).1 (zO (wy q9 w).2).1,l)else none
def yo:Nat->List za->Option (List xM)
 | 0,_=>some []
 |_+1,[]=>some []
 |n+1,w::l=>match kp w l with
  |some (c,l')=>(yo n l').map (c::·)
  |none=>none
theorem MO{w:za}{l l':List za}{c:xM}(h:kp w l=some (c,l')):l'.length<=l.length:=by
 unfold kp at h;split at h
 ·injection h with h;injection h with _ h;subst h;exact zk _
 ·split at h
  ·split at h
   ·split at h
    ·injection h with h;injection h with _ h;subst h;simp
    ·cases h
   ·cases h
  ·split at h
   ·injection h with h;injection h with _ h;subst h;exact zk _
   ·cases h
def Qs(t:za):List xM×Bool:=
 match wq (qg t [32])with
 |[a,b,c]=>if b=[45]then([⟨[45],(zO a).1,(zO c).1⟩],(zO a).2&&(zO c).2)else(match yo 3 [a,b,c]with
  |some l=>(l,!l.isEmpty)
  |none=>([],false))
 |ws=>match yo ws.length ws with
  |some l=>(l,!l.isEmpty)
  |none=>([],false)
def Zm(l:List xM):List zb:=l.map xM.V
def se(t:za):O:=.wP [.sl 11 (Zm (Qs t).1),wo (Qs t).2]
theorem Kj:∀(a:List za) (s:za),(wy a s).2.length<=s.length
 |[],s=>zk _
 |g::l,s=>by
  simp only[wy];split
  ·simp
  ·exact Kj l s
noncomputable abbrev Calt:Ctx:=zR prog [(169,yI [] T1),(173,yq Cdf f173),(175,zg false [] (XB jT)),(176,zg false [] (Ln Rx)),(177,zg false [] (FS yk))]
theorem Rz:AM.Good Calt (fun g=>[177].contains g):=qq mixed ⟨Wc,by simp,dK,by simp,bN,by simp,lC,by simp,lk,fun _=>zu _ _,trivial⟩
def Jw:O->Nat
 | .own _ _ n=>n
 |_=>0
def MP(b:List za)(c:List zb)(st:St):Prop:=∃f a l xs,a.length<=f/\xs.length+a.length<=b.length/\b.drop (b.length-a.length)=a/\(a=[]/\st.U 4=.sl 1 []\/st.U 4=.own 0 (b.length-a.length) a.length) /\
 wa st.Y st.Z 185 11 (st.U 9) xs/\(∀n,st.U 9≠.own 0 0 n)/\xs.map (Qq sa)=Zm l/\1<=st.Z/\st.Y 0=some ⟨9,1,true,c⟩/\yo b.length b=(yo f a).map (l++·)
theorem sl1(Y:Hp)(a:List zb)(o n:Nat)(b:Y 0=some ⟨9,1,true,a⟩):yG prog Y 26 (.own 0 o (n+1)) (some (some (int 1))) none=some (if n=0 then .sl 1 []else .own 0 (o+1) n):=by simp[yG,b,kD]
theorem Zn{b a}{f':Nat}{l':List za}{l:List xM}{c:xM}{xs:List zb}{d:zb}{st:St}{v4:O}(k:l'.length<=f')(r:xs.length+1+l'.length<=b.length)(f:b.drop (b.length-l'.length)=l')(m:st.U 4=v4)(g:l'=[]/\v4=.sl 1 []\/v4=.own 0 (b.length-l'.length) l'.length)
  (o:wa st.Y st.Z 185 11 (st.U 9) (xs++[d])) (h:∀n,st.U 9≠.own 0 0 n) (e:Qq sa d=c.V) (i:xs.map (Qq sa)=Zm l) (j:1<=st.Z) (p:st.Y 0=some ⟨9,1,true,a⟩) (q:yo b.length b=(yo f' l').map ((l++[c])++·)):MP b a st:=
 ⟨f',l',l++[c],xs++[d],k,by simp;omega,f,by rw[m];exact g,o,h,by simp[i,e,Zm],j,p,q⟩
theorem Ah(f:Nat):yo f []=some []:=by cases f<;>rfl
theorem dM(t:za)(ht:t.length+1<=zw):∃r0,zo Calt f162 [str t]=some r0/\qX r0 (se t):=by
 refine yB (sh:=.s 11 sa) rfl ?_;have hsp:=fun Y Z=>ZB t [32] Y Z (by omega) (by decide) (by decide)
 have hpl:∀p∈qg t [32],p.length+1<=zw:=fun p Y=>by have:=xh Y;omega
 have E4:vt (qg t [32]):=⟨by have:=xT (s:=t) (sep:=[32]) (by simp);omega,fun p Y=>by have:=hpl p Y;omega⟩;obtain⟨x,Y1,nx1,O8,hx,hnx,⟨pad,hb⟩,Ts⟩:=DE (qg t [32]) (qR (fun _=>none) 0 (some ⟨9,1,true,zx (qg t [32])⟩)) 1 0 E4 (by simp);subst hx;subst hnx;obtain⟨g,hws⟩:=yx (wq (qg t [32]));have hwl:∀p∈g,p.length+1<=zw:=fun p Y=>hpl p (by rw[<-hws]at Y;exact(UB.1 Y).1)
 rw[hws]at O8 hb;simp only[gH]at O8;have E:g.length<=zw:=by
  have h1:=zbf (fun x=>!mP x) (qg t [32]);have h2:=xT (s:=t) (sep:=[32]) (by simp);have h3:g.length=(wq (qg t [32])).length:=by rw[hws]
  unfold wq at h3;omega
 have PJ:=fun(p:za) (Y:p.length+1<=zw) B Z=>Za jT p B Z Y
 simp[hsp,O8];by_cases hc:∃a c,g=[a,[45],c]
 ·obtain⟨a,c,rfl⟩:=hc;have ha:=fun B Z=>PJ a (hwl a (by simp)) B Z
  have hcc:=fun B Z=>PJ c (hwl c (by simp)) B Z
  simp only[jT,Part.V]at ha hcc;have m:se t=.wP [.sl 11 (Zm [⟨[45],(zO a).1,(zO c).1⟩]),wo ((zO a).2&&(zO c).2)]:=by simp only[se,Qs,hws,qB]
  rw[m];have hn:∀k,0<k->Y1 k=none:=fun k hk=>by rw[Ts k (by omega),zM _ _ _ _ (by omega)]
  simp[hb,ha,hcc,qb,qE,zr,zJ,zp,qi,Zm,xM.V,f162]
 ·have m:se t=(match yo g.length g with
   |some l=>.wP [.sl 11 (Zm l),wo (!l.isEmpty)]
   |none=>.wP [.sl 11 [],wo false]):=by
   have hR:Qs t=(match yo g.length g with
    |some l=>(l,!l.isEmpty)
    |none=>([],false)):=by
    unfold Qs;rw[hws]
    match g,hc with
    |[],_=>rfl
    |[_],_=>rfl
    |[_,_],_=>rfl
    |[a,b,c],hc=>
     have:¬b=[45]:=fun e=>hc ⟨a,c,by rw[e]⟩
     simp only[zd this];rfl
    |_::_::_::_::_,_=>rfl
   unfold se;rw[hR];cases yo g.length g<;>rfl
  obtain⟨z,Gq⟩:=yx (zx g++pad);have hrl:g.length<=z.length:=by rw[<-Gq];simp
  have hat:∀k (h:k<g.length) (h':k<z.length),z[k]=[str g[k]]:=fun k h h'=>by subst Gq;rw[List.getElem_append_left (by simpa using h)];simp[zx]
  rw[Gq]at hb;clear Gq;by_cases h3:g.length=3
  ·have h31:=hat 1 (by omega) (by omega);have hne:(g[1]==[45])=false:=by
    match g,h3,hc with
    |[a,b,c],_,hc=>simpa using fun e=>hc ⟨a,c,by rw[e]⟩
   have h3l:1<z.length:=by omega
   have h33:((g.length:Int)==3)=true:=by simp[h3]
   simp[hb,h33,h3,h31,hne,h3l];refine W8 (MP g z) (fun st=>Jw (st.U 4)) ⟨g.length,g,[],[],zk _,by simp,by simp,.inr (by simp;try omega),.inl ⟨by simp,rfl⟩,by simp,rfl,by simp,by simpa using hb,by simp⟩ ?_;clear O8 Ts hsp;rintro⟨U,Y,Z⟩ ⟨f,rest,l,xs,hf,Tt,pT,h4,S,hO0,F,hnx,J,R⟩;simp only at h4 S hO0 hnx J;cases rest with
   |nil=>
    rw[Ah]at R;simp only[zy,jL]at R;rw[R]at m;rw[m];have O9:xs.length=l.length:=by have:=zt List.length F;simpa[Zm]using this
    have hb1:(decide ((0:Int)<(xs.length:Int)))=!l.isEmpty:=by rw[O9];cases l<;>simp
    have hb2:(decide (0<xs.length))=!l.isEmpty:=by rw[O9];cases l<;>simp
    have KM:U 4=.sl 1 []\/U 4=.own 0 g.length 0:=by
     rcases h4 with⟨_,h4⟩|h4
     ·exact .inl h4
     ·exact .inr (by simpa using h4)
    rcases S with⟨h9,rfl⟩|⟨id,hid,h9,hb9⟩
    ·simp[Zm]at F;subst F;rcases KM with KM|KM<;>simp[KM,h9,qi,Zm,f162]
    ·rcases KM with KM|KM<;>simp[KM,h9,hb9,hb1,hb2,F,qi,f162]
   |cons w l'=>
    obtain⟨f',rfl⟩:∃f',f=f'+1:=⟨f-1,by simp at hf;omega⟩;simp only[zP]at hf Tt pT h4;obtain⟨o,ho⟩:=yx (g.length-(l'.length+1));rw[ho]at pT h4;have KM:U 4=.own 0 o (l'.length+1):=by
     rcases h4 with⟨h,_⟩|h
     ·cases h
     ·exact h
    have hol:o<g.length:=by omega
    have C:o<z.length:=by omega
    rw[zc hol]at pT;injection pT with hdw K
    have u:z[o]=[str w]:=by rw[hat o hol C,hdw]
    have hww:w.length+1<=zw:=hwl w (by rw[<-hdw];exact zj hol);have D:=fun B T=>bK Rx w B T (by omega) rfl
    simp only[Rx]at D;have W:(wy q9 w).2.length+1<=zw:=by have:=Kj q9 w;omega
    have y:=fun B T=>kM yk (wy q9 w).2 B T (by omega)
    obtain⟨v4,hv4⟩:=yx (if l'.length=0 then O.sl 1 []else .own 0 (o+1) l'.length);have hs1:=fun B (hh:B 0=some _)=>sl1 B z o l'.length hh
    rw[hv4]at hs1;have n:=hs1 Y J;have X:o+1=g.length-l'.length:=by omega
    have A:l'=[]/\v4=.sl 1 []\/v4=.own 0 (g.length-l'.length) l'.length:=by
     rw[<-hv4,<-X];by_cases h:l'.length=0
     ·exact .inl ⟨zT.1 h,ze h⟩
     ·exact .inr (zd h)
    have Pb:Jw v4<l'.length+1:=by rcases A with⟨_,h⟩|h<;>rw[h]<;>simp[Jw]
    have hl4:JT prog 26 v4=some (int l'.length):=by
     rcases A with⟨h1,h⟩|h
     ·subst h1;rw[h];simp
     ·rw[h];simp
    rw[X]at K;have nS:=fun c S=>wa.y8 (Y:=Y) (Z:=Z) (v:=U 9) (xs:=xs) (P:=prog) (t:=177) (c:=c) S XZ X0 X1 X2 rfl (by omega) (by unfold maxLen;unfold zw at E;omega) (by unfold zw at E;omega)
    by_cases hA:(wy q9 w).1=[]/\yk (wy q9 w).2=true
    ·have L:kp w l'=some (dL,l'):=by unfold kp;rw[ze hA]
     have i:yo g.length g=(yo f' l').map ((l++[dL])++·):=by rw[R];simp only[yo,L];cases yo f' l'<;>simp
     have Pc:=nS [str ji,int 0,int 0,int 0,int 0,.nil,int 0,int 0,int 0,int 0,.nil] S;obtain⟨hA1,hA2⟩:=hA;simp only[ji]at Pc;simp[KM,J,C,u,D,y,n,hA1,hA2,Pc,qb,qE,zr,zJ,zp];have n0:¬0=Z:=by omega
     have n1:¬0=Z+1:=by omega
     have n2:¬0=Z+2:=by omega
     have Q:=fun B=>yO S B 0 hO0
     exact⟨Zn (v4:=v4) (c:=dL) (f':=f') (l':=l') (l:=l) (xs:=xs) (by omega) (by omega) K (by simp) A (by simpa using wa.after) (by simp<;>omega) rfl F (by simp) (by simp[Q,n0,n1,n2,J]) i,by simpa[Jw]using Pb⟩
    have n0:¬0=Z:=by omega
    have n1:¬0=Z+1:=by omega
    have n2:¬0=Z+2:=by omega
    have Q:=fun B=>yO S B 0 hO0
    by_cases hE:(wy q9 w).1=[]
    ·have G:((wy q9 w).1==[])=true:=by simpa using hE
     have H:(wy q9 w).1.isEmpty=true:=by simpa using hE
     have I:((wy q9 w).1 != [])=false:=by simpa using hE
     have hOp:yk (wy q9 w).2=false:=by
      cases h:yk (wy q9 w).2
      ·rfl
      ·exact absurd ⟨hE,h⟩ hA
     have q:=fun B T=>PJ (wy q9 w).2 W B T
     simp only[jT,Part.V]at q;cases d:(zO (wy q9 w).2).2
     ·have L:kp w l'=none:=by unfold kp;rw[zd hA,zd (fun h=>h.1 hE),zd (by rw[d];simp)]
      have i:yo g.length g=none:=by rw[R];simp only[yo,L];rfl
      rw[i]at m;simp[KM,J,C,u,D,y,n,G,H,I,hOp,q,d,qb,qE,m,Zm,qi,f162]
     ·have L:kp w l'=some (Jv (wy q9 w).1 (zO (wy q9 w).2).1,l'):=by unfold kp;rw[zd hA,zd (fun h=>h.1 hE),ze d]
      have i:yo g.length g=(yo f' l').map ((l++[Jv (wy q9 w).1 (zO (wy q9 w).2).1])++·):=by rw[R];simp only[yo,L];cases yo f' l'<;>simp
      have j:=wa.y8 (P:=prog) (t:=177) (c:=[str (wy q9 w).1,int (zO (wy q9 w).2).1.n0,int (zO (wy q9 w).2).1.n1,int (zO (wy q9 w).2).1.n2,int (zO (wy q9 w).2).1.has,.sl 1 (zx (zO (wy q9 w).2).1.pre),int 0,int 0,int 0,int 0,.nil]) (S.more (some ⟨183,5,false,[(zO (wy q9 w).2).1.V]⟩)) XZ X0 X1 X2 rfl (by omega) (by unfold maxLen;unfold zw at E;omega) (by unfold zw at E;omega);simp only[Part.V]at j;simp[KM,J,C,u,D,y,n,G,H,I,hOp,q,d,j,qb,qE,zr,zJ,zp];exact⟨Zn (v4:=v4) (c:=Jv (wy q9 w).1 (zO (wy q9 w).2).1) (f':=f') (l':=l') (l:=l) (xs:=xs) (by omega) (by omega) K (by simp) A (by simpa using wa.after) (by simp<;>omega) rfl F (by simp) (by simp[Q,n0,n1,n2,J]) i,by simpa[Jw]using Pb⟩
    have G:=jD hE;have H:(wy q9 w).1.isEmpty=false:=by simpa using hE
    have I:((wy q9 w).1 != [])=true:=by simpa using hE
    by_cases hR:(wy q9 w).2=[]
    ·have M:((wy q9 w).2==[])=true:=by simpa using hR
     have N:(wy q9 w).2.isEmpty=true:=by simpa using hR
     by_cases hL:l'=[]
     ·have hLz:l'.length=0:=by rw[hL];rfl
      have hLp:¬0<l'.length:=by omega
      have hLq:¬(0:Int)<(l'.length:Int):=by omega
      have q:=fun B T=>PJ (wy q9 w).2 W B T
      simp only[jT,Part.V]at q;cases d:(zO (wy q9 w).2).2
      ·have L:kp w l'=none:=by unfold kp;rw[zd hA,zd (fun h=>h.2.2 hL),zd (by rw[d];simp)]
       have i:yo g.length g=none:=by rw[R];simp only[yo,L];rfl
       rw[i]at m;simp[KM,J,C,u,D,y,n,G,H,I,M,N,hl4,hLp,hLq,q,d,qb,qE,m,Zm,qi,f162]
      ·have L:kp w l'=some (Jv (wy q9 w).1 (zO (wy q9 w).2).1,l'):=by unfold kp;rw[zd hA,zd (fun h=>h.2.2 hL),ze d]
       have i:yo g.length g=(yo f' l').map ((l++[Jv (wy q9 w).1 (zO (wy q9 w).2).1])++·):=by rw[R];simp only[yo,L];cases yo f' l'<;>simp
       have j:=wa.y8 (P:=prog) (t:=177) (c:=[str (wy q9 w).1,int (zO (wy q9 w).2).1.n0,int (zO (wy q9 w).2).1.n1,int (zO (wy q9 w).2).1.n2,int (zO (wy q9 w).2).1.has,.sl 1 (zx (zO (wy q9 w).2).1.pre),int 0,int 0,int 0,int 0,.nil]) (S.more (some ⟨183,5,false,[(zO (wy q9 w).2).1.V]⟩)) XZ X0 X1 X2 rfl (by omega) (by unfold maxLen;unfold zw at E;omega) (by unfold zw at E;omega);simp only[Part.V]at j;simp[KM,J,C,u,D,y,n,G,H,I,M,N,hl4,hLp,hLq,q,d,j,qb,qE,zr,zJ,zp];exact⟨Zn (v4:=v4) (c:=Jv (wy q9 w).1 (zO (wy q9 w).2).1) (f':=f') (l':=l') (l:=l) (xs:=xs) (by omega) (by omega) K (by simp) A (by simpa using wa.after) (by simp<;>omega) rfl F (by simp) (by simp[Q,n0,n1,n2,J]) i,by simpa[Jw]using Pb⟩
     ·obtain⟨r,l2,rfl⟩:∃r l2,l'=r::l2:=by
       cases l' with
       |nil=>exact absurd rfl hL
       |cons r l2=>exact⟨r,l2,rfl⟩
      have hv:v4=.own 0 (o+1) (l2.length+1):=by
       rcases A with⟨h,_⟩|h
       ·cases h
       ·rw[h,<-X];rfl
      subst hv;simp only[zP]at hf Tt ho KM n X K Pb;have tU:o+1<g.length:=by omega
      have E5:o+1<z.length:=by omega
      rw[<-X,zc tU]at K;injection K with Pd Pe
      have Cx:z[o+1]=[str r]:=by rw[hat (o+1) tU E5,Pd]
      have ho2:o+1+1=g.length-l2.length:=by omega
      obtain⟨v5,hv5⟩:=yx (if l2.length=0 then O.sl 1 []else .own 0 (o+1+1) l2.length);have E6:=sl1 Y z (o+1) l2.length J;rw[hv5]at E6;have Pf:l2=[]/\v5=.sl 1 []\/v5=.own 0 (g.length-l2.length) l2.length:=by
       rw[<-hv5,<-ho2];by_cases h:l2.length=0
       ·exact .inl ⟨zT.1 h,ze h⟩
       ·exact .inr (zd h)
      have hmu5:Jw v5<l2.length+1+1:=by rcases Pf with⟨_,h⟩|h<;>rw[h]<;>simp[Jw];omega
      rw[ho2]at Pe;have Pg:(0:Int)<(l2.length:Int)+1:=by omega
      have Cy:(0:Int)<(l2.length:Int)+1+1:=by omega
      have q:=fun B T=>PJ r (hwl r (by rw[<-Pd];exact zj tU)) B T
      simp only[jT,Part.V]at q;cases d:(zO r).2
      ·have L:kp w (r::l2)=none:=by unfold kp;rw[zd hA,ze ⟨hE,hR,by simp⟩];simp only[d];rfl
       have i:yo g.length g=none:=by rw[R];simp only[yo,L];rfl
       rw[i]at m;simp[KM,J,C,u,D,y,n,E6,E5,Cx,G,H,I,M,N,Pg,Cy,q,d,qb,qE,m,Zm,qi,f162]
      ·have L:kp w (r::l2)=some (Jv (wy q9 w).1 (zO r).1,l2):=by unfold kp;rw[zd hA,ze ⟨hE,hR,by simp⟩];simp only[d,qB]
       have i:yo g.length g=(yo f' l2).map ((l++[Jv (wy q9 w).1 (zO r).1])++·):=by rw[R];simp only[yo,L];cases yo f' l2<;>simp
       have j:=wa.y8 (P:=prog) (t:=177) (c:=[str (wy q9 w).1,int (zO r).1.n0,int (zO r).1.n1,int (zO r).1.n2,int (zO r).1.has,.sl 1 (zx (zO r).1.pre),int 0,int 0,int 0,int 0,.nil]) (S.more (some ⟨183,5,false,[(zO r).1.V]⟩)) XZ X0 X1 X2 rfl (by omega) (by unfold maxLen;unfold zw at E;omega) (by unfold zw at E;omega);simp only[Part.V]at j;simp[KM,J,C,u,D,y,n,E6,E5,Cx,G,H,I,M,N,Pg,Cy,q,d,j,qb,qE,zr,zJ,zp];exact⟨Zn (v4:=v5) (c:=Jv (wy q9 w).1 (zO r).1) (f':=f') (l':=l2) (l:=l) (xs:=xs) (by omega) (by omega) Pe (by simp) Pf (by simpa using wa.after) (by simp<;>omega) rfl F (by simp) (by simp[Q,n0,n1,n2,J]) i,by simpa[Jw]using hmu5⟩
    ·have M:=jD hR;have N:(wy q9 w).2.isEmpty=false:=by simpa using hR
     have q:=fun B T=>PJ (wy q9 w).2 W B T
     simp only[jT,Part.V]at q;cases d:(zO (wy q9 w).2).2
     ·have L:kp w l'=none:=by unfold kp;rw[zd hA,zd (fun h=>hR h.2.1),zd (by rw[d];simp)]
      have i:yo g.length g=none:=by rw[R];simp only[yo,L];rfl
      rw[i]at m;simp[KM,J,C,u,D,y,n,G,H,I,M,N,q,d,qb,qE,m,Zm,qi,f162]
     ·have L:kp w l'=some (Jv (wy q9 w).1 (zO (wy q9 w).2).1,l'):=by unfold kp;rw[zd hA,zd (fun h=>hR h.2.1),ze d]
      have i:yo g.length g=(yo f' l').map ((l++[Jv (wy q9 w).1 (zO (wy q9 w).2).1])++·):=by rw[R];simp only[yo,L];cases yo f' l'<;>simp
      have j:=wa.y8 (P:=prog) (t:=177) (c:=[str (wy q9 w).1,int (zO (wy q9 w).2).1.n0,int (zO (wy q9 w).2).1.n1,int (zO (wy q9 w).2).1.n2,int (zO (wy q9 w).2).1.has,.sl 1 (zx (zO (wy q9 w).2).1.pre),int 0,int 0,int 0,int 0,.nil]) (S.more (some ⟨183,5,false,[(zO (wy q9 w).2).1.V]⟩)) XZ X0 X1 X2 rfl (by omega) (by unfold maxLen;unfold zw at E;omega) (by unfold zw at E;omega);simp only[Part.V]at j;simp[KM,J,C,u,D,y,n,G,H,I,M,N,q,d,j,qb,qE,zr,zJ,zp];exact⟨Zn (v4:=v4) (c:=Jv (wy q9 w).1 (zO (wy q9 w).2).1) (f':=f') (l':=l') (l:=l) (xs:=xs) (by omega) (by omega) K (by simp) A (by simpa using wa.after) (by simp<;>omega) rfl F (by simp) (by simp[Q,n0,n1,n2,J]) i,by simpa[Jw]using Pb⟩
  ·have h33:((g.length:Int)==3)=false:=by simp;omega
   simp[hb,h33];refine W8 (MP g z) (fun st=>Jw (st.U 4)) ⟨g.length,g,[],[],zk _,by simp,by simp,.inr (by simp;try omega),.inl ⟨by simp,rfl⟩,by simp,rfl,by simp,by simpa using hb,by simp⟩ ?_;clear O8 Ts hsp;rintro⟨U,Y,Z⟩ ⟨f,rest,l,xs,hf,Tt,pT,h4,S,hO0,F,hnx,J,R⟩;simp only at h4 S hO0 hnx J;cases rest with
   |nil=>
    rw[Ah]at R;simp only[zy,jL]at R;rw[R]at m;rw[m];have O9:xs.length=l.length:=by have:=zt List.length F;simpa[Zm]using this
    have hb1:(decide ((0:Int)<(xs.length:Int)))=!l.isEmpty:=by rw[O9];cases l<;>simp
    have hb2:(decide (0<xs.length))=!l.isEmpty:=by rw[O9];cases l<;>simp
    have KM:U 4=.sl 1 []\/U 4=.own 0 g.length 0:=by
     rcases h4 with⟨_,h4⟩|h4
     ·exact .inl h4
     ·exact .inr (by simpa using h4)
    rcases S with⟨h9,rfl⟩|⟨id,hid,h9,hb9⟩
    ·simp[Zm]at F;subst F;rcases KM with KM|KM<;>simp[KM,h9,qi,Zm,f162]
    ·rcases KM with KM|KM<;>simp[KM,h9,hb9,hb1,hb2,F,qi,f162]
   |cons w l'=>
    obtain⟨f',rfl⟩:∃f',f=f'+1:=⟨f-1,by simp at hf;omega⟩;simp only[zP]at hf Tt pT h4;obtain⟨o,ho⟩:=yx (g.length-(l'.length+1));rw[ho]at pT h4;have KM:U 4=.own 0 o (l'.length+1):=by
     rcases h4 with⟨h,_⟩|h
     ·cases h
     ·exact h
    have hol:o<g.length:=by omega
    have C:o<z.length:=by omega
    rw[zc hol]at pT;injection pT with hdw K
    have u:z[o]=[str w]:=by rw[hat o hol C,hdw]
    have hww:w.length+1<=zw:=hwl w (by rw[<-hdw];exact zj hol);have D:=fun B T=>bK Rx w B T (by omega) rfl
    simp only[Rx]at D;have W:(wy q9 w).2.length+1<=zw:=by have:=Kj q9 w;omega
    have y:=fun B T=>kM yk (wy q9 w).2 B T (by omega)
    obtain⟨v4,hv4⟩:=yx (if l'.length=0 then O.sl 1 []else .own 0 (o+1) l'.length);have hs1:=fun B (hh:B 0=some _)=>sl1 B z o l'.length hh
    rw[hv4]at hs1;have n:=hs1 Y J;have X:o+1=g.length-l'.length:=by omega
    have A:l'=[]/\v4=.sl 1 []\/v4=.own 0 (g.length-l'.length) l'.length:=by
     rw[<-hv4,<-X];by_cases h:l'.length=0
     ·exact .inl ⟨zT.1 h,ze h⟩
     ·exact .inr (zd h)
    have Pb:Jw v4<l'.length+1:=by rcases A with⟨_,h⟩|h<;>rw[h]<;>simp[Jw]
    have hl4:JT prog 26 v4=some (int l'.length):=by
     rcases A with⟨h1,h⟩|h
     ·subst h1;rw[h];simp
     ·rw[h];simp
    rw[X]at K;have nS:=fun c S=>wa.y8 (Y:=Y) (Z:=Z) (v:=U 9) (xs:=xs) (P:=prog) (t:=177) (c:=c) S XZ X0 X1 X2 rfl (by omega) (by unfold maxLen;unfold zw at E;omega) (by unfold zw at E;omega)
    by_cases hA:(wy q9 w).1=[]/\yk (wy q9 w).2=true
    ·have L:kp w l'=some (dL,l'):=by unfold kp;rw[ze hA]
     have i:yo g.length g=(yo f' l').map ((l++[dL])++·):=by rw[R];simp only[yo,L];cases yo f' l'<;>simp
     have Pc:=nS [str ji,int 0,int 0,int 0,int 0,.nil,int 0,int 0,int 0,int 0,.nil] S;obtain⟨hA1,hA2⟩:=hA;simp only[ji]at Pc;simp[KM,J,C,u,D,y,n,hA1,hA2,Pc,qb,qE,zr,zJ,zp];have n0:¬0=Z:=by omega
     have n1:¬0=Z+1:=by omega
     have n2:¬0=Z+2:=by omega
     have Q:=fun B=>yO S B 0 hO0
     exact⟨Zn (v4:=v4) (c:=dL) (f':=f') (l':=l') (l:=l) (xs:=xs) (by omega) (by omega) K (by simp) A (by simpa using wa.after) (by simp<;>omega) rfl F (by simp) (by simp[Q,n0,n1,n2,J]) i,by simpa[Jw]using Pb⟩
    have n0:¬0=Z:=by omega
    have n1:¬0=Z+1:=by omega
    have n2:¬0=Z+2:=by omega
    have Q:=fun B=>yO S B 0 hO0
    by_cases hE:(wy q9 w).1=[]
    ·have G:((wy q9 w).1==[])=true:=by simpa using hE
     have H:(wy q9 w).1.isEmpty=true:=by simpa using hE
     have I:((wy q9 w).1 != [])=false:=by simpa using hE
     have hOp:yk (wy q9 w).2=false:=by
      cases h:yk (wy q9 w).2
      ·rfl
      ·exact absurd ⟨hE,h⟩ hA
     have q:=fun B T=>PJ (wy q9 w).2 W B T
     simp only[jT,Part.V]at q;cases d:(zO (wy q9 w).2).2
     ·have L:kp w l'=none:=by unfold kp;rw[zd hA,zd (fun h=>h.1 hE),zd (by rw[d];simp)]
      have i:yo g.length g=none:=by rw[R];simp only[yo,L];rfl
      rw[i]at m;simp[KM,J,C,u,D,y,n,G,H,I,hOp,q,d,qb,qE,m,Zm,qi,f162]
     ·have L:kp w l'=some (Jv (wy q9 w).1 (zO (wy q9 w).2).1,l'):=by unfold kp;rw[zd hA,zd (fun h=>h.1 hE),ze d]
      have i:yo g.length g=(yo f' l').map ((l++[Jv (wy q9 w).1 (zO (wy q9 w).2).1])++·):=by rw[R];simp only[yo,L];cases yo f' l'<;>simp
      have j:=wa.y8 (P:=prog) (t:=177) (c:=[str (wy q9 w).1,int (zO (wy q9 w).2).1.n0,int (zO (wy q9 w).2).1.n1,int (zO (wy q9 w).2).1.n2,int (zO (wy q9 w).2).1.has,.sl 1 (zx (zO (wy q9 w).2).1.pre),int 0,int 0,int 0,int 0,.nil]) (S.more (some ⟨183,5,false,[(zO (wy q9 w).2).1.V]⟩)) XZ X0 X1 X2 rfl (by omega) (by unfold maxLen;unfold zw at E;omega) (by unfold zw at E;omega);simp only[Part.V]at j;simp[KM,J,C,u,D,y,n,G,H,I,hOp,q,d,j,qb,qE,zr,zJ,zp];exact⟨Zn (v4:=v4) (c:=Jv (wy q9 w).1 (zO (wy q9 w).2).1) (f':=f') (l':=l') (l:=l) (xs:=xs) (by omega) (by omega) K (by simp) A (by simpa using wa.after) (by simp<;>omega) rfl F (by simp) (by simp[Q,n0,n1,n2,J]) i,by simpa[Jw]using Pb⟩
    have G:=jD hE;have H:(wy q9 w).1.isEmpty=false:=by simpa using hE
    have I:((wy q9 w).1 != [])=true:=by simpa using hE
    by_cases hR:(wy q9 w).2=[]
    ·have M:((wy q9 w).2==[])=true:=by simpa using hR
     have N:(wy q9 w).2.isEmpty=true:=by simpa using hR
     by_cases hL:l'=[]
     ·have hLz:l'.length=0:=by rw[hL];rfl
      have hLp:¬0<l'.length:=by omega
      have hLq:¬(0:Int)<(l'.length:Int):=by omega
      have q:=fun B T=>PJ (wy q9 w).2 W B T
      simp only[jT,Part.V]at q;cases d:(zO (wy q9 w).2).2
      ·have L:kp w l'=none:=by unfold kp;rw[zd hA,zd (fun h=>h.2.2 hL),zd (by rw[d];simp)]
       have i:yo g.length g=none:=by rw[R];simp only[yo,L];rfl
       rw[i]at m;simp[KM,J,C,u,D,y,n,G,H,I,M,N,hl4,hLp,hLq,q,d,qb,qE,m,Zm,qi,f162]
      ·have L:kp w l'=some (Jv (wy q9 w).1 (zO (wy q9 w).2).1,l'):=by unfold kp;rw[zd hA,zd (fun h=>h.2.2 hL),ze d]
       have i:yo g.length g=(yo f' l').map ((l++[Jv (wy q9 w).1 (zO (wy q9 w).2).1])++·):=by rw[R];simp only[yo,L];cases yo f' l'<;>simp
       have j:=wa.y8 (P:=prog) (t:=177) (c:=[str (wy q9 w).1,int (zO (wy q9 w).2).1.n0,int (zO (wy q9 w).2).1.n1,int (zO (wy q9 w).2).1.n2,int (zO (wy q9 w).2).1.has,.sl 1 (zx (zO (wy q9 w).2).1.pre),int 0,int 0,int 0,int 0,.nil]) (S.more (some ⟨183,5,false,[(zO (wy q9 w).2).1.V]⟩)) XZ X0 X1 X2 rfl (by omega) (by unfold maxLen;unfold zw at E;omega) (by unfold zw at E;omega);simp only[Part.V]at j;simp[KM,J,C,u,D,y,n,G,H,I,M,N,hl4,hLp,hLq,q,d,j,qb,qE,zr,zJ,zp];exact⟨Zn (v4:=v4) (c:=Jv (wy q9 w).1 (zO (wy q9 w).2).1) (f':=f') (l':=l') (l:=l) (xs:=xs) (by omega) (by omega) K (by simp) A (by simpa using wa.after) (by simp<;>omega) rfl F (by simp) (by simp[Q,n0,n1,n2,J]) i,by simpa[Jw]using Pb⟩
     ·obtain⟨r,l2,rfl⟩:∃r l2,l'=r::l2:=by
       cases l' with
       |nil=>exact absurd rfl hL
       |cons r l2=>exact⟨r,l2,rfl⟩
      have hv:v4=.own 0 (o+1) (l2.length+1):=by
       rcases A with⟨h,_⟩|h
       ·cases h
       ·rw[h,<-X];rfl
      subst hv;simp only[zP]at hf Tt ho KM n X K Pb;have tU:o+1<g.length:=by omega
      have E5:o+1<z.length:=by omega
      rw[<-X,zc tU]at K;injection K with Pd Pe
      have Cx:z[o+1]=[str r]:=by rw[hat (o+1) tU E5,Pd]
      have ho2:o+1+1=g.length-l2.length:=by omega
      obtain⟨v5,hv5⟩:=yx (if l2.length=0 then O.sl 1 []else .own 0 (o+1+1) l2.length);have E6:=sl1 Y z (o+1) l2.length J;rw[hv5]at E6;have Pf:l2=[]/\v5=.sl 1 []\/v5=.own 0 (g.length-l2.length) l2.length:=by
       rw[<-hv5,<-ho2];by_cases h:l2.length=0
       ·exact .inl ⟨zT.1 h,ze h⟩
       ·exact .inr (zd h)
      have hmu5:Jw v5<l2.length+1+1:=by rcases Pf with⟨_,h⟩|h<;>rw[h]<;>simp[Jw];omega
      rw[ho2]at Pe;have Pg:(0:Int)<(l2.length:Int)+1:=by omega
      have Cy:(0:Int)<(l2.length:Int)+1+1:=by omega
      have q:=fun B T=>PJ r (hwl r (by rw[<-Pd];exact zj tU)) B T
      simp only[jT,Part.V]at q;cases d:(zO r).2
      ·have L:kp w (r::l2)=none:=by unfold kp;rw[zd hA,ze ⟨hE,hR,by simp⟩];simp only[d];rfl
       have i:yo g.length g=none:=by rw[R];simp only[yo,L];rfl
       rw[i]at m;simp[KM,J,C,u,D,y,n,E6,E5,Cx,G,H,I,M,N,Pg,Cy,q,d,qb,qE,m,Zm,qi,f162]
      ·have L:kp w (r::l2)=some (Jv (wy q9 w).1 (zO r).1,l2):=by unfold kp;rw[zd hA,ze ⟨hE,hR,by simp⟩];simp only[d,qB]
       have i:yo g.length g=(yo f' l2).map ((l++[Jv (wy q9 w).1 (zO r).1])++·):=by rw[R];simp only[yo,L];cases yo f' l2<;>simp
       have j:=wa.y8 (P:=prog) (t:=177) (c:=[str (wy q9 w).1,int (zO r).1.n0,int (zO r).1.n1,int (zO r).1.n2,int (zO r).1.has,.sl 1 (zx (zO r).1.pre),int 0,int 0,int 0,int 0,.nil]) (S.more (some ⟨183,5,false,[(zO r).1.V]⟩)) XZ X0 X1 X2 rfl (by omega) (by unfold maxLen;unfold zw at E;omega) (by unfold zw at E;omega);simp only[Part.V]at j;simp[KM,J,C,u,D,y,n,E6,E5,Cx,G,H,I,M,N,Pg,Cy,q,d,j,qb,qE,zr,zJ,zp];exact⟨Zn (v4:=v5) (c:=Jv (wy q9 w).1 (zO r).1) (f':=f') (l':=l2) (l:=l) (xs:=xs) (by omega) (by omega) Pe (by simp) Pf (by simpa using wa.after) (by simp<;>omega) rfl F (by simp) (by simp[Q,n0,n1,n2,J]) i,by simpa[Jw]using hmu5⟩
    ·have M:=jD hR;have N:(wy q9 w).2.isEmpty=false:=by simpa using hR
     have q:=fun B T=>PJ (wy q9 w).2 W B T
     simp only[jT,Part.V]at q;cases d:(zO (wy q9 w).2).2
     ·have L:kp w l'=none:=by unfold kp;rw[zd hA,zd (fun h=>hR h.2.1),zd (by rw[d];simp)]
      have i:yo g.length g=none:=by rw[R];simp only[yo,L];rfl
      rw[i]at m;simp[KM,J,C,u,D,y,n,G,H,I,M,N,q,d,qb,qE,m,Zm,qi,f162]
     ·have L:kp w l'=some (Jv (wy q9 w).1 (zO (wy q9 w).2).1,l'):=by unfold kp;rw[zd hA,zd (fun h=>hR h.2.1),ze d]
      have i:yo g.length g=(yo f' l').map ((l++[Jv (wy q9 w).1 (zO (wy q9 w).2).1])++·):=by rw[R];simp only[yo,L];cases yo f' l'<;>simp
      have j:=wa.y8 (P:=prog) (t:=177) (c:=[str (wy q9 w).1,int (zO (wy q9 w).2).1.n0,int (zO (wy q9 w).2).1.n1,int (zO (wy q9 w).2).1.n2,int (zO (wy q9 w).2).1.has,.sl 1 (zx (zO (wy q9 w).2).1.pre),int 0,int 0,int 0,int 0,.nil]) (S.more (some ⟨183,5,false,[(zO (wy q9 w).2).1.V]⟩)) XZ X0 X1 X2 rfl (by omega) (by unfold maxLen;unfold zw at E;omega) (by unfold zw at E;omega);simp only[Part.V]at j;simp[KM,J,C,u,D,y,n,G,H,I,M,N,q,d,j,qb,qE,zr,zJ,zp];exact⟨Zn (v4:=v4) (c:=Jv (wy q9 w).1 (zO (wy q9 w).2).1) (f':=f') (l':=l') (l:=l) (xs:=xs) (by omega) (by omega) K (by simp) A (by simpa using wa.after) (by simp<;>omega) rfl F (by simp) (by simp[Q,n0,n1,n2,J]) i,by simpa[Jw]using Pb⟩
theorem bV:zf prog 162 (zg false [] (XB se)):=
 Qu (fn:=f162) Rz (qN func162) false [] _ fun args r h w S vs a=>by obtain⟨l,rfl,Y,rfl⟩:=zN h;obtain⟨b,c,d⟩:=dM l Y;exact⟨_,b,a,by simp[f162],c,d⟩
noncomputable def vC (s:q8) (c:Cut):Bool:=decide (wv s.lo c<=0)&&(s.kc||decide (wv c s.hi<0))
def q8.small(s:q8):Prop:=s.lo.v.small/\s.hi.v.small
theorem Jy(x y:Cut)(Y:Hp)(Z:Nat)(a:x.v.small)(b:y.v.small):qy [.g jK,.g jK] (Ac fun v w=>int (wv v w)) [.agg x.V,.agg y.V] Y Z=some (int (wv x y),Y,Z):=r7 x y (.agg x.V) (.agg y.V) Y Z (sd x) (sd y) (by simp only[zD,ML]) a b
noncomputable abbrev Fw:Ctx:=zR prog [(184,qy [.g jK,.g jK] (Ac fun v w=>int (wv v w)))]
theorem MQ:AM.Good Fw (fun g=>[184].contains g):=qq mixed ⟨Z9,fun _=>yY _ _,trivial⟩
theorem DF:zf prog 209 (yq Fw f209):=kQ MQ func209
theorem MR(s:q8)(c:Cut)(hs:s.small)(a:c.v.small)(Y:Hp)(Z id:Nat)(hid:id<Z)(b:Y id=some ⟨193,5,false,[c.V]⟩) :
  yq Fw f209 [.agg s.V,.ref id 0 0] Y Z=some (wo (vC s c),qR Y Z (some ⟨195,11,false,[s.V]⟩),Z+1):=by
 unfold yq;rw[ze (by simp[f209])];refine yQ rfl ?_;have d:=fun Y Z=>Jy s.lo c Y Z hs.1 a
 have e:=fun Y Z=>Jy c s.hi Y Z a hs.2
 have f:¬id=Z:=by omega
 simp only[Cut.V]at d e b;by_cases g:wv s.lo c<=0<;>cases h:s.kc <;>
  simp[q8.V,Cut.V,d,e,b,f,g,h,vC,f209]
noncomputable def dN (c:Cut):Nat->List q8->Int
 |_,[]=>-1
 |k,s::l=>if vC s c=true then k else dN c (k+1) l
theorem Ai(c:Cut):∀(l:List q8) (k:Nat),decide (0<=dN c k l)=l.any (vC · c)
 |[],k=>by simp[dN]
 |s::l,k=>by
  by_cases h:vC s c=true
  ·have e:dN c k (s::l)=k:=by simp only[dN,ze h]
   rw[e,yr,h];simp
  ·have e:dN c k (s::l)=dN c (k+1) l:=by simp only[dN,zd h]
   rw[e,Ai c l (k+1),yr,Bool.eq_false_iff.2 h];rfl
noncomputable abbrev RA:Ctx:=zR prog [(209,yq Fw f209)]
theorem RB:Gd RA:=zS mixed ⟨DF,trivial⟩
theorem Hw:zf prog 242 (yq RA f242):=kQ RB func242
def PE(id:Nat):O:=.fn (.func 209) [] [.ref id 0 0]
def MS(r:O)(Y:Hp)(Z:Nat)(x:O)(a:Hp)(b:Nat):Prop:=x=r/\Z<=b/\∀j,j<Z->a j=Y j
theorem RC(l:List q8)(c:Cut)(z:l.length<=zw)(hs:∀s∈l,s.small)(A:c.v.small)(i:Hp)(Z0 id:Nat)(hid:id<Z0)(B:i id=some ⟨193,5,false,[c.V]⟩) :
  ∃x u w,yq RA f242 [.sl 11 (qa l),PE id] i Z0=some (x,u,w)/\MS (int (dN c 0 l)) i Z0 x u w:=by
 unfold yq;rw[ze (by simp[f242])];refine qF rfl ?_;unfold zw at z;have f:(qa l).length=l.length:=by simp[qa]
 simp[PE,f];refine zF (fun k U Y Z=>U 0=.sl 11 (qa l)/\U 1=PE id/\U 7=int l.length/\U 8=int k/\Z0<=Z/\(∀j,j<Z0->Y j=i j)/\dN c 0 l=dN c k (l.drop k)) l.length ⟨by simp,by simp[PE],by simp,by simp,zk _,fun _ _=>rfl,by simp⟩ ?_;rintro k U Y Z C ⟨n,o,p,q,r,d,e⟩;by_cases b:k<l.length
 ·have y:=ql k;have a:=MR l[k] c (hs _ (zj b)) A Y Z id (by omega) (by rw[d id hid];exact B);have g:∀h:k<(qa l).length,(qa l)[k]=l[k].V:=fun h=>by simp[qa]
  simp only[q8.V,Cut.V,q7,ku]at a g;rw[zc b]at e;simp only[dN]at e;cases m:vC l[k] c
  ·rw[m,zd (by simp)]at e;rw[m]at a;simp[n,o,p,q,PE,b,f,g,a,y];exact⟨b,by omega,fun j t=>by rw[zM _ _ _ _ (by omega)];exact d j t,e⟩
  ·rw[m,ze rfl]at e;rw[m]at a;simp[n,o,p,q,PE,b,f,g,a,y,f242];exact⟨by rw[e],by omega,fun j t=>by rw[zM _ _ _ _ (by omega)];exact d j t⟩
 ·obtain rfl:k=l.length:=by omega
  rw[zn]at e;simp only[dN]at e;simp[n,o,p,q,f242];exact⟨by rw[e],r,d⟩
noncomputable abbrev RD:Ctx:=zR prog [(242,yq RA f242)]
theorem RE:Gd RD:=zS mixed ⟨Hw,trivial⟩
theorem Hy:zf prog 208 (yq RD f208):=kQ RE func208
noncomputable def yl (l:List q8) (c:Cut):Bool:=l.any (vC · c)
theorem RF(l:List q8)(c:Cut)(f:l.length<=zw)(hs:∀s∈l,s.small)(g:c.v.small)(a:Hp)(Z0 id:Nat)(hid:id<Z0)(h:a id=some ⟨193,5,false,[c.V]⟩) :
  ∃x b d,yq RD f208 [.sl 11 (qa l),PE id] a Z0=some (x,b,d)/\MS (wo (yl l c)) a Z0 x b d:=by
 unfold yq;rw[ze (by simp[f208])];refine qF rfl ?_;obtain⟨x,b,d,e,i,j,k⟩:=RC l c f hs g a Z0 id hid h;subst i;have m:=Ai c l 0;simp only[PE]at e;simp[PE,e,m,MS,yl,j,f208];exact k
noncomputable abbrev Ccov:Ctx:=zR prog [(208,yq RD f208)]
theorem RG:Gd Ccov:=zS mixed ⟨Hy,trivial⟩
def jP(l:List q8):Prop:=l.length<=zw/\∀s∈l,s.small
theorem lE{a b:q8}(h:a.V=b.V):a=b:=by obtain⟨⟨⟨s,t,u,v⟩,w⟩,⟨⟨x,y,z,A⟩,g⟩,i⟩:=a;obtain⟨⟨⟨B,C,D,E⟩,F⟩,⟨⟨G,H,I,J⟩,j⟩,k⟩:=b;simp only[q8.V,Cut.V,q7,ku,zh,zA]at h;obtain⟨l,m,n,c,o,p,q,r,d,e,f⟩:=h;injection c with _ c;injection d with _ d;rw[qI l,qI m,qI n,jd c,QD o,qI p,qI q,qI r,jd d,QD e,QD f]
theorem ZC{a b:List q8}(h:qa a=qa b):a=b:=yX (fun _ _ e=>lE e) h
noncomputable def FRC (f:List q8->Cut->O):zb->Option O:=qf (α:=List q8×Cut) (fun a=>[.sl 11 (qa a.1),.agg a.2.V]) (fun a=>jP a.1/\a.2.v.small) (fun a=>f a.1 a.2)
theorem zaF:∀a b:List q8×Cut,[O.sl 11 (qa a.1),.agg a.2.V]=[O.sl 11 (qa b.1),.agg b.2.V]->a=b:=by rintro⟨f,g⟩ ⟨h,i⟩ e;simp only[zh,zA]at e;obtain⟨c,d⟩:=e;injection c with _ c;injection d with d;rw[ZC c,QH d]
theorem Aj(l:List q8)(c:Cut)(a:jP l)(d:c.v.small):zo Ccov f185 [.sl 11 (qa l),.agg c.V]=some (wo (yl l c)):=by refine zm rfl ?_;obtain⟨x,f,g,b,e,h,i⟩:=RF l c a.1 a.2 d (qR (fun _=>none) 0 (some ⟨193,5,false,[c.V]⟩)) 1 0 (by omega) (by simp);subst e;simp only[PE,Cut.V]at b;simp[Cut.V,b,zI,f185]
theorem sf:zf prog 185 (qy [.s 11 jn,.g jK] (FRC fun l c=>wo (yl l c))):=
 wM (fn:=f185) RG (qN func185) _ _ fun args r h=>by obtain⟨⟨l,c⟩,rfl,⟨a,b⟩,rfl⟩:=zN h;exact⟨by simp[f185],_,Aj l c a b,qX.refl _⟩
structure TO {α:Type} (c:α->α->Int):Prop where
 refl:∀x,c x x=0
 flip:∀x y,c x y<0↔0<c y x
 tr:∀x y z,c x y<=0->c y z<=0->c x z<=0
theorem TO.le{α:Type}{c:α->α->Int}(h:TO c)(x y:α):c x y<=0↔0<=c y x:=by have:=h.flip y x;omega
theorem TO.eq{α:Type}{c:α->α->Int}(h:TO c)(x y:α):c x y=0↔c y x=0:=by have a:=h.flip y x;have b:=h.flip x y;omega
theorem TO.trans{α:Type}{c:α->α->Int}(h:TO c){x y z:α}(e:c x y<0)(b:c y z<0):c x z<0:=by
 have d:=h.tr x y z (by omega) (by omega);rcases XP d with a|a
 ·exact a
 ·have f:=(h.eq x z).1 a;have g:=h.tr z x y (by omega) (by omega);have:=(h.flip y z).1 b;omega
theorem TO.ntrans{α:Type}{c:α->α->Int}(h:TO c){x y z:α}(a:0<=c x y)(b:0<=c y z):0<=c x z:=
 (h.le z x).1 (h.tr z y x ((h.le z y).2 b) ((h.le y x).2 a))
theorem TO.pull{α a:Type}{c:a->a->Int}(h:TO c)(f:α->a):TO fun x y=>c (f x) (f y):=⟨fun _=>h.refl _,fun _ _=>h.flip _ _,fun _ _ _=>h.tr _ _ _⟩
def Yg{α:Type}(c d:α->α->Int)(x y:α):Int:=if c x y=0 then d x y else c x y
theorem TO.lex{α:Type}{c d:α->α->Int}(f:TO c)(hd:TO d):TO (Yg c d) where
 refl x:=by simp[Yg,f.refl,hd.refl]
 flip x y:=by
  unfold Yg;have g:=f.flip x y;have i:=f.flip y x;have l:=hd.flip x y;by_cases h:c x y=0
  ·rw[ze h,ze ((f.eq x y).1 h)];exact l
  ·rw[zd h,zd (fun e=>h ((f.eq x y).2 e))];exact g
 tr x y z:=by
  unfold Yg;intro g i;by_cases a:c x y=0<;>by_cases b:c y z=0
  ·rw[ze a]at g;rw[ze b]at i;have j:=f.tr x y z (by omega) (by omega);have k:=f.tr z y x (by have:=(f.eq y z).1 b;omega) (by have:=(f.eq x y).1 a;omega);have m:=(f.le z x).1 k;rw[ze (by omega)];exact hd.tr x y z g i
  ·rw[zd b]at i;have j:=f.tr x y z (by omega) i;by_cases e:c x z=0
   ·exfalso;have k:=f.tr z x y (by have:=(f.eq x z).1 e;omega) (by omega);have:=(f.flip y z).1 (by omega);omega
   ·rw[zd e];exact j
  ·rw[zd a]at g;have j:=f.tr x y z g (by omega);by_cases e:c x z=0
   ·exfalso;have k:=f.tr y z x (by omega) (by have:=(f.eq x z).1 e;omega);have:=(f.flip x y).1 (by omega);omega
   ·rw[zd e];exact j
  ·rw[zd a]at g;rw[zd b]at i;have:=f.trans (x:=x) (y:=y) (z:=z) (by omega) (by omega);rw[zd (by omega)];omega
theorem Fx{α:Type}{c:α->α->Int}(h:TO c):TO (yv c) where
 refl l:=by
  induction l with
  |nil=>rfl
  |cons x l f=>simp[yv,h.refl,f]
 flip a b:=by
  induction a generalizing b with
  |nil=>cases b<;>simp[yv]
  |cons x a f=>
   cases b with
   |nil=>simp[yv]
   |cons y b=>
    simp only[yv];by_cases e:c x y=0
    ·rw[ze e,ze ((h.eq x y).1 e)];exact f b
    ·rw[zd e,zd (fun m=>e ((h.eq x y).2 m))];exact h.flip x y
 tr a b d:=by
  induction a generalizing b d with
  |nil=>cases d<;>simp[yv]
  |cons x a f=>
   cases b with
   |nil=>simp[yv]
   |cons y b=>
    cases d with
    |nil=>simp[yv]
    |cons z d=>
     simp only[yv];intro g i;by_cases p:c x y=0<;>by_cases q:c y z=0
     ·rw[ze p]at g;rw[ze q]at i;have j:=h.tr x y z (by omega) (by omega);have k:=h.tr z y x (by have:=(h.eq y z).1 q;omega) (by have:=(h.eq x y).1 p;omega);have n:=(h.le z x).1 k;rw[ze (by omega)];exact f b d g i
     ·rw[zd q]at i;have j:=h.tr x y z (by omega) i;by_cases e:c x z=0
      ·exfalso;have k:=h.tr z x y (by have:=(h.eq x z).1 e;omega) (by omega);have:=(h.flip y z).1 (by omega);omega
      ·rw[zd e];exact j
     ·rw[zd p]at g;have j:=h.tr x y z g (by omega);by_cases e:c x z=0
      ·exfalso;have k:=h.tr y z x (by omega) (by have:=(h.eq x z).1 e;omega);have:=(h.flip x y).1 (by omega);omega
      ·rw[zd e];exact j
     ·rw[zd p]at g;rw[zd q]at i;have:=h.trans (x:=x) (y:=y) (z:=z) (by omega) (by omega);rw[zd (by omega)];omega
theorem YT:TO wD:=⟨fun x=>by simp[wD],fun x y=>by unfold wD;split<;>split<;>(try split)<;>omega,fun x y z=>by unfold wD;repeat' split<;>omega⟩
theorem Ak:∀a b:za,yJ a b=yv (fun x y:UInt8=>wD x.toNat y.toNat) a b
 |[],[]=>rfl
 |[],_::_=>rfl
 |_::_,[]=>rfl
 |x::a,y::b=>by
  have f:=Ak a b;simp only[yv];unfold yJ at f⊢;simp only[Lib.compareBytes];rcases Nat.lt_trichotomy x.toNat y.toNat with h|h|h
  ·have c:x<y:=h;have e:wD x.toNat y.toNat=-1:=by unfold wD;rw[ze (by omega)]
   simp[c,e]
  ·have e:wD x.toNat y.toNat=0:=by unfold wD;rw[zd (by omega),zd (by omega)]
   have c:¬x<y:=by show¬x.toNat<y.toNat;omega
   have d:¬y<x:=by show¬y.toNat<x.toNat;omega
   simp[c,d,e,f]
  ·have c:¬x<y:=by show¬x.toNat<y.toNat;omega
   have d:y<x:=h;have e:wD x.toNat y.toNat=1:=by unfold wD;rw[zd (by omega),ze (by omega)]
   simp[c,d,e]
theorem tV:TO yJ:=by
 have:yJ=yv (fun x y:UInt8=>wD x.toNat y.toNat):=by funext a b;exact Ak a b
 rw[this];exact Fx (YT.pull fun x:UInt8=>(x.toNat:Int))
noncomputable def dO (a:za):Int×Int×za×za:=if xE a=true then(0,(Lib.trimLeftB a 48).length,Lib.trimLeftB a 48,[])else(1,0,[],a)
theorem Al(a b:za):wK a b=Yg (fun x y=>wD x.1 y.1) (Yg (fun x y=>wD x.2.1 y.2.1) (Yg (fun x y=>yJ x.2.2.1 y.2.2.1) fun x y=>yJ x.2.2.2 y.2.2.2)) (dO a) (dO b):=by
 unfold wK dO Yg;have r:=tV.refl [];have e:wD 0 0=0:=rfl;have f:wD 1 1=0:=rfl;by_cases c:xE a=true<;>by_cases d:xE b=true
 ·simp only[c,d,qB,e,r,K0]
 ·simp[c,d,wD]
 ·simp[c,d,wD]
 ·simp[c,d,e,f,r]
theorem DG:TO wK:=by
 have:wK=fun a b=>Yg (fun x y=>wD x.1 y.1) (Yg (fun x y=>wD x.2.1 y.2.1) (Yg (fun x y=>yJ x.2.2.1 y.2.2.1) fun x y=>yJ x.2.2.2 y.2.2.2)) (dO a) (dO b):=by funext a b;exact Al a b
 rw[this];exact TO.pull (TO.lex (YT.pull fun x:Int×Int×za×za=>x.1) (TO.lex (YT.pull fun x:Int×Int×za×za=>x.2.1) (TO.lex (tV.pull fun x:Int×Int×za×za=>x.2.2.1) (tV.pull fun x:Int×Int×za×za=>x.2.2.2)))) dO
def bW(v:yf):Int:=if v.pre.length=0 then 1 else 0
theorem MT(v w:yf):ZO v w=Yg (fun x y=>wD x.a y.a) (Yg (fun x y=>wD x.b y.b) (Yg (fun x y=>wD x.c y.c) (Yg (fun x y=>wD (bW x) (bW y)) fun x y=>yv wK x.pre y.pre))) v w:=by
 unfold ZO Yg;by_cases d:wD v.a w.a=0
 ·by_cases e:wD v.b w.b=0
  ·by_cases f:wD v.c w.c=0
   ·simp only[K0,d,e,f,qB];by_cases p:v.pre.length=0<;>by_cases q:w.pre.length=0
    ·have g:v.pre=[]:=zT.1 p;have h:w.pre=[]:=zT.1 q;simp[bW,p,q,wD,g,h,yv]
    ·simp[bW,p,q,wD]
    ·simp[bW,p,q,wD]
    ·simp[bW,p,q,wD]
   ·simp[K0,d,e,f]
  ·simp[K0,d,e]
 ·simp[K0,d]
theorem Tu:TO ZO:=by
 have:ZO=Yg (fun x y=>wD x.a y.a) (Yg (fun x y=>wD x.b y.b) (Yg (fun x y=>wD x.c y.c) (Yg (fun x y=>wD (bW x) (bW y)) fun x y=>yv wK x.pre y.pre))):=by funext a b;exact MT a b
 rw[this];exact TO.lex (YT.pull fun x:yf=>x.a) (TO.lex (YT.pull fun x:yf=>x.b) (TO.lex (YT.pull fun x:yf=>x.c) (TO.lex (YT.pull bW) ((Fx DG).pull fun x:yf=>x.pre))))
def Hz(c:Cut):Int:=if c.after=true then 1 else 0
theorem MU(a b:Cut):wv a b=Yg (fun x y=>ZO x.v y.v) (fun x y=>wD (Hz x) (Hz y)) a b:=by
 unfold wv Yg;by_cases h:ZO a.v b.v=0
 ·simp only[h,qB];cases c:a.after<;>cases d:b.after<;>simp[Hz,c,d,wD]
 ·simp[h]
theorem we:TO wv:=by
 have:wv=Yg (fun x y=>ZO x.v y.v) (fun x y=>wD (Hz x) (Hz y)):=by funext a b;exact MU a b
 rw[this];exact TO.lex (Tu.pull fun x:Cut=>x.v) (YT.pull Hz)
end Go.Q
