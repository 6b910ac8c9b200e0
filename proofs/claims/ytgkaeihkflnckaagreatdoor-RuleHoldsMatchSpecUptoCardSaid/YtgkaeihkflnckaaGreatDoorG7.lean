/- Lemmas. -/
import Derived.Lib.Bytealg
import Derived.Test.YtgkaeihkflnckaaGreatDoorG6
set_option maxRecDepth 100000
set_option maxHeartbeats 4000000
open Go Proofs Proofs.YtgkaeihkflnckaaGreatDoor Proofs.Tryz RowKit AM SpanLaw Q Zz
namespace Go.Q
def JS(s:Int×Bool):Bool:=s.2||decide (1000<s.1)
def mH(s r:Int×Bool):Int×Bool:=if JS s then s else(s.1+r.1,s.2||r.2)
mutual
def qa.rp:qa->Int->Int×Bool
 | .mk _ _ _ a b,l=>rpF b l (rpV a l (1,decide (8<l)))
def rpV:List qa->Int->Int×Bool->Int×Bool
 |[],_,s=>s
 |v::vs,l,s=>rpV vs l (mH s (v.rp (l+1)))
def rpF:List (za×qa)->Int->Int×Bool->Int×Bool
 |[],_,s=>s
 |(_,v)::vs,l,s=>rpF vs l (mH s (v.rp (l+1)))
end
def r7(xs:List qa)(l:Int)(s:Int×Bool):Int×Bool:=xs.foldl (fun s x=>mH s (x.rp (l+1))) s
theorem Oo:∀(xs:List qa) (l:Int) (s:Int×Bool),rpV xs l s=r7 xs l s
 |[],_,_=>rfl
 |v::vs,l,s=>by simp only[rpV,r7,xK];exact Oo vs l _
theorem Oq:∀(xs:List (za×qa)) (l:Int) (s:Int×Bool),rpF xs l s=r7 (xs.map (·.2)) l s
 |[],_,_=>rfl
 |(a,v)::vs,l,s=>by simp only[rpF,r7,we,xK];exact Oq vs l _
theorem zba(v:qa)(l:Int):v.rp l=r7 v.inner l (1,decide (8<l)):=by
 cases v with
 |mk k n s a b=>simp only[qa.rp,Oo,Oq,qa.inner,qa.items,qa.fields,r7,List.foldl_append]
theorem mI{xs:List qa}{l:Int}{s:Int×Bool}(h:JS s=true):r7 xs l s=s:=by
 induction xs with
 |nil=>rfl
 |cons x xs a=>simp only[r7,xK,mH,h,qH];exact a
theorem Ot{xs:List qa}{l:Int}{s:Int×Bool}{k:Nat}(h:k<xs.length):r7 (xs.drop k) l s=r7 (xs.drop (k+1)) l (mH s (xs[k].rp (l+1))):=by rw[ze h];rfl
def Q1(xs:List qa):Nat:=(xs.map qa.parts).sum
def kW:List qa->Nat
 |[]=>0
 |v::l=>max v.levels (kW l)
theorem Ly(v:qa):v.parts=1+Q1 v.inner:=by
 rw[BH];have c:∀l:List qa,kE l=Q1 l:=by
  intro l;induction l with
  |nil=>rfl
  |cons v l b=>simp[kE,Q1,b]
 have d:∀l:List (za×qa),kL l=Q1 (l.map (·.2)):=by
  intro l;induction l with
  |nil=>rfl
  |cons v l b=>obtain⟨a,v⟩:=v;simp[kL,Q1]at b⊢;rw[b]
 rw[c,d];simp[Q1,qa.inner,lv]
theorem FE(v:qa):v.levels=kW v.inner+1:=by
 rw[rU];have d:∀l:List qa,j8 l=kW l:=by
  intro l;induction l with
  |nil=>rfl
  |cons v l c=>simp[j8,kW,c]
 have e:∀l:List (za×qa),kn l=kW (l.map (·.2)):=by
  intro l;induction l with
  |nil=>rfl
  |cons v l c=>obtain⟨a,v⟩:=v;simp[kn,kW,c]
 have f:∀a b:List qa,kW (a++b)=max (kW a) (kW b):=by
  intro a b;induction a with
  |nil=>simp[kW]
  |cons v a c=>simp only[q6,kW,c];omega
 rw[d,e,qa.inner,f]
theorem r8{v x:qa}(h:x∈v.inner):x.vb<v.vb:=by
 have a:=xz v;rcases zM.1 h with h|h
 ·have:=jR h;omega
 ·obtain⟨f,b,rfl⟩:=qj.1 h;have:=vC b;omega
structure RP (xs:List qa) (l:Int) (s r:Int×Bool):Prop where
 lo:s.1<=r.1
 hi:r.1<=s.1+Q1 xs
 deep:r.2=true->s.2=true\/8<l+(kW xs:Int)
 all:JS r=false->r.1=s.1+Q1 xs/\(xs≠[]->l+(kW xs:Int)<=8)
theorem HP:∀(b:Nat) (v:qa),v.vb<=b->∀l,0<=(v.rp l).1/\(v.rp l).1<=v.parts/\((v.rp l).2=true->8<l+(v.levels:Int)-1)/\(JS (v.rp l)=false->(v.rp l).1=v.parts/\l+(v.levels:Int)-1<=8):=by
 intro b
 induction b with
 |zero=>intro v t;have:=YG v;omega
 |succ b u=>
  intro v t l;have i:∀(xs:List qa) (s:Int×Bool),0<=s.1->(∀x∈xs,x.vb<=b)->RP xs l s (r7 xs l s):=by
   intro xs
   induction xs with
   |nil=>intro s _ _;exact⟨by simp[r7],by simp[r7,Q1],fun h=>.inl (by simpa[r7]using h),fun _=>⟨by simp[r7,Q1],fun h=>absurd rfl h⟩⟩
   |cons x xs j=>
    intro s D r;by_cases d:JS s=true
    ·rw[mI d];exact⟨by omega,by omega,fun h=>.inl h,fun h=>by rw[d]at h;cases h⟩
    ·have e:r7 (x::xs) l s=r7 xs l (s.1+(x.rp (l+1)).1,s.2||(x.rp (l+1)).2):=by simp only[r7,xK,mH,d];rfl
     rw[e];obtain⟨E,F,w,z⟩:=u x (r x (by simp)) (l+1);have f:=j (s.1+(x.rp (l+1)).1,s.2||(x.rp (l+1)).2) (by simp only;omega) (fun y A=>r y (by simp[A]));have a:Q1 (x::xs)=x.parts+Q1 xs:=by simp[Q1]
     have k:=f.lo;have m:=f.hi;simp only at k m;refine⟨by omega,by rw[a];omega,fun h=>?_,fun h=>?_⟩
     ·simp only[kW];rcases f.deep h with h|h
      ·simp only[qp]at h;rcases h with h|h
       ·exact .inl h
       ·right;have:=w h;omega
      ·right;omega
     ·obtain⟨n,o⟩:=f.all h;have p:JS (x.rp (l+1))=false:=by
       simp only[JS,wE,yw]at h d⊢;refine⟨?_,by omega⟩;cases hd:(x.rp (l+1)).2 with
       |false=>rfl
       |true=>
        exfalso;have q:JS (s.1+(x.rp (l+1)).1,s.2||(x.rp (l+1)).2)=true:=by simp[JS,hd]
        rw[mI q]at h;simp[hd]at h
      obtain⟨G,H⟩:=z p;simp only at n;refine⟨by rw[a];omega,fun _=>?_⟩;simp only[kW];by_cases c:xs=[]
      ·subst c;simp only[kW];omega
      ·have:=o c;omega
  have g:=i v.inner (1,decide (8<l)) (by simp) fun x p=>by have:=r8 p;omega
  rw[zba,Ly,FE];have B:=g.lo;have C:=g.hi;simp only at B C;refine⟨by omega,by omega,fun h=>?_,fun h=>?_⟩
  ·rcases g.deep h with h|h
   ·simp at h;omega
   ·omega
  ·obtain⟨n,o⟩:=g.all h;simp only at n;refine⟨by omega,?_⟩;by_cases c:v.inner=[]
   ·rw[c]at h⊢;simp[r7,JS]at h;simp only[kW];omega
   ·have:=o c;omega
theorem Ou(v:qa):JS (v.rp 1)=(decide ((1000:Int)<v.parts)||decide ((8:Int)<v.levels)):=by
 obtain⟨f,g,d,e⟩:=HP v.vb v (zf _) 1;cases c:JS (v.rp 1)with
 |false=>
  obtain⟨a,b⟩:=e c;simp only[JS,wE,yw]at c
  symm
  simp only[wE,yw];omega
 |true=>
  symm
  simp only[JS,qp,zT]at c⊢;rcases c with c|c
  ·right;have:=d c;omega
  ·left;omega
noncomputable def FV2 (out:qa->Int->O) (lo hi:Int) (n:Nat):zb->Option O:=ql (α:=qa×Int) (fun a=>[.agg a.1.V,int a.2]) (fun a=>a.1.vb<=zu/\a.1.vb<=n/\lo<=a.2/\a.2<=hi) (fun a=>out a.1 a.2)
theorem BX(out:qa->Int->O)(lo hi:Int)(n:Nat)(v:qa)(i:Int)(Y:Hp)(Z:Nat)(h:v.vb<=zu/\v.vb<=n/\lo<=i/\i<=hi):zh false [] (FV2 out lo hi n) [.agg v.V,int i] Y Z=some (out v i,Y,Z):=
 yA (Y1:=Y) (show zD Y [.agg v.V,int i]=some ([.agg v.V,int i],Y) by simp only[zD,Ku];simp)
  (qF (V:=fun a:qa×Int=>[.agg a.1.V,int a.2]) (a:=(v,i)) (fun a b e=>by obtain⟨c,d⟩:=a;obtain⟨f,g⟩:=b;simp only[zk,zI,O.agg.injEq]at e;rw[ZQ e.1,qV e.2]) h) (.inr (by simp only[wI,eE,K8];rfl))
noncomputable abbrev Crp (n:Nat):Ctx:=zR prog [(81,zh false [] (FV2 (fun v l=>.wG [int (v.rp l).1,qS (v.rp l).2]) 1 9 n)),(134,GV fun v=>.sl 5 (v.inner.map qa.V))]
theorem uf(v:qa):v.inner.length<v.vb:=by have:=xz v;have:=yY v.items;have:=jt v.fields;simp[qa.inner];omega
theorem BZ(n:Nat)(v:qa)(l:Int)(h:v.vb<=zu/\v.vb<=n+1/\1<=l/\l<=9):zq (Crp n) f81 [.agg v.V,int l]=some (.wG [int (v.rp l).1,qS (v.rp l).2]):=by
 obtain⟨r,E,t,u⟩:=h;have w:=uf v;have m:=fun Y Z=>Wg (fun v=>.sl 5 (v.inner.map qa.V)) v Y Z r
 unfold zu at r;refine zm rfl ?_;simp[m];refine zP (fun k U Y Z=>U 1=int l/\U 15=.sl 5 (v.inner.map qa.V)/\U 16=int v.inner.length/\U 17=int k/\∃s:Int×Bool,U 6=int s.1/\U 7=qS s.2/\0<=s.1/\s.1<=4000000/\(s.2=false->l<=8)/\v.rp l=r7 (v.inner.drop k) l s) v.inner.length
  ⟨by simp,by simp,by simp,by simp,(1,decide (8<l)),by simp,by simp,by simp,by simp,by simp,by rw[zba];simp⟩ ?_
 rintro k U Y Z F ⟨o,c,d,e,s,p,q,G,H,x,b⟩;by_cases a:k<v.inner.length
 ·have y:=qG k;have I:=r8 (zj a);have g:(s.2||decide (1000<s.1))=JS s:=rfl;cases i:JS s
  ·have j:s.2=false:=by cases h:s.2<;>simp_all[JS]
   have z:=x j;have A:=wz (l+1);have f:=fun Y Z=>BX (fun v l=>.wG [int (v.rp l).1,qS (v.rp l).2]) 1 9 n v.inner[k] (l+1) Y Z ⟨by unfold zu;omega,by omega,by omega,by omega⟩
   obtain⟨J,K,L,M⟩:=HP _ v.inner[k] (zf _) (l+1);have B:=mf v.inner[k];have C:s.1<=1000:=by simp[JS]at i;omega
   have D:=wz (s.1+(v.inner[k].rp (l+1)).1);rw[Ot a]at b;simp only[mH,i,zF,qR]at b;simp[o,c,d,e,p,q,a,g,i,f,A,D,y];refine⟨a,?_⟩;rw[b,j];cases hd:(v.inner[k].rp (l+1)).2<;>simp[hd]<;>omega
  ·rw[mI i]at b;simp[o,c,d,e,p,q,a,g,i,b,f81,wa]
 ·obtain rfl:k=v.inner.length:=by omega
  rw[zn]at b;have b:v.rp l=s:=b;simp[o,c,d,e,p,q,b,f81,wa]
theorem HQ{out:qa->Int->O}{lo hi:Int}{n:Nat}{args:zb}{r:O}(h:FV2 out lo hi n args=some r):∃(v:qa) (i:Int),args=[.agg v.V,int i]/\(v.vb<=zu/\v.vb<=n/\lo<=i/\i<=hi)/\r=out v i:=by obtain⟨⟨v,i⟩,a,b,c⟩:=zN h;exact⟨v,i,a,b,c⟩
theorem Ov{out:qa->Int->O}{lo hi:Int}{f:FuncId}(a:∃fn,prog.funcs[f]?=some fn/\(fn.name== "runtime.NumGoroutine")=false/\fn.body.isNone=false):zg prog f (zh false [] (FV2 out lo hi 0)):=by
 refine⟨a,fun args Y Z r b c h=>?_⟩;unfold zh at h;split at h
 ·split at h
  ·rename_i d hF;obtain⟨v,i,_,e,_⟩:=HQ hF;have:=YG v;omega
  ·cases h
 ·cases h
theorem ug:∀n,zg prog 81 (zh false [] (FV2 (fun v l=>.wG [int (v.rp l).1,qS (v.rp l).2]) 1 9 n)):=by
 intro n
 induction n with
 |zero=>exact Ov ⟨_,func81,by kernel_rfl,by kernel_rfl⟩
 |succ n a=>
  have b:Gd (Crp n):=zU mixed ⟨a,BW,trivial⟩;exact wW (fn:=f81) b (qD func81) false [] _ fun args r h=>by obtain⟨v,l,rfl,c,rfl⟩:=HQ h;exact⟨zw (zf 2) (by decide),_,BZ n v l c,qb _⟩
noncomputable abbrev Crc:Ctx:=zR prog [(136,zh false [] (F3 kI)),(137,zh false [] (FS (wg 32 126)))]
@[simp]theorem qrc1:kT Crc 136:=je (by rfl) (zt _ _)
def gA(v:qa):Int:=W4 v.kind v.n v.s v.items.length v.fields.length
theorem Ow(v:qa):gA v=if(!kI v.kind 0 5)then 4 else if(v.kind != 1&&v.kind != 2&&v.n != 0)then 3 else if(v.kind != 3&&!v.s.isEmpty)then 3 else if(v.kind != 4&&decide (0<v.items.length))then 3 else if(v.kind != 5&&decide (0<v.fields.length))then 3 else if(v.kind==1&&!kI v.n 0 1)then 1 else if(v.kind==2&&!kI v.n (-999999999999999) 999999999999999)then 1 else if(decide ((500:Int)<v.s.length))then 2 else if(!wg 32 126 v.s)then 1 else if(decide ((100:Int)<v.items.length)||decide ((100:Int)<v.fields.length))then 2 else 0:=by
 unfold gA W4;have a:BJ v.kind=!kI v.kind 0 5:=by rw[qh];simp[BJ,kI]
 have b:Kw v.kind v.n v.s v.items.length v.fields.length=((v.kind != 1&&v.kind != 2&&v.n != 0)||(v.kind != 3&&!v.s.isEmpty)||(v.kind != 4&&decide (0<v.items.length))||(v.kind != 5&&decide (0<v.fields.length))):=by
  unfold Kw;have:(v.s==[])=v.s.isEmpty:=by cases v.s<;>rfl
  rw[this];generalize (v.kind != 1)=c;generalize (v.kind != 2)=d;generalize (v.kind != 3)=e;generalize (v.kind != 4)=f;generalize (v.kind != 5)=g;generalize (v.n != 0)=h;generalize v.s.isEmpty=i;generalize decide (0<v.items.length)=j;generalize decide (0<v.fields.length)=k;cases c<;>cases d<;>cases e<;>cases f<;>cases g<;>cases h<;>cases i<;>cases j<;>cases k<;>rfl
 have l:cB v.kind v.n=(v.kind==1&&!kI v.n 0 1):=by rw[qh];simp[cB,kI];omega
 have m:cC v.kind v.n=(v.kind==2&&!kI v.n (-999999999999999) 999999999999999):=by rw[qh];simp[cC,kI];omega
 rw[a,b,l,m,HK,HJ];generalize (!kI v.kind 0 5)=o;generalize (v.kind != 1&&v.kind != 2&&v.n != 0)=p;generalize (v.kind != 3&&!v.s.isEmpty)=q;generalize (v.kind != 4&&decide (0<v.items.length))=r;generalize (v.kind != 5&&decide (0<v.fields.length))=t;generalize (v.kind==1&&!kI v.n 0 1)=u;generalize (v.kind==2&&!kI v.n (-999999999999999) 999999999999999)=w;cases o<;>cases p<;>cases q<;>cases r<;>cases t<;>cases u<;>cases w<;>cases wg 32 126 v.s<;>rfl
theorem ir(v:qa)(h:v.vb<=zu):zq Crc f135 [.agg v.V]=some (int (gA v)):=by
 have q:=xz v;have m:v.s.length<=zu:=by omega
 refine zm rfl ?_;have o:=Ow v;obtain⟨r,c⟩:∃b,(!kI v.kind 0 5)=b:=⟨_,rfl⟩;obtain⟨t,d⟩:∃b,(v.kind != 1&&v.kind != 2&&v.n != 0)=b:=⟨_,rfl⟩;obtain⟨u,e⟩:∃b,(v.kind != 3&&!v.s.isEmpty)=b:=⟨_,rfl⟩;obtain⟨w,f⟩:∃b,(v.kind != 4&&decide (0<v.items.length))=b:=⟨_,rfl⟩;obtain⟨x,g⟩:∃b,(v.kind != 5&&decide (0<v.fields.length))=b:=⟨_,rfl⟩;obtain⟨y,i⟩:∃b,(v.kind==1&&!kI v.n 0 1)=b:=⟨_,rfl⟩;obtain⟨z,j⟩:∃b,(v.kind==2&&!kI v.n (-999999999999999) 999999999999999)=b:=⟨_,rfl⟩;obtain⟨A,k⟩:∃b,(decide ((500:Int)<v.s.length))=b:=⟨_,rfl⟩;obtain⟨B,l⟩:∃b,(!wg 32 126 v.s)=b:=⟨_,rfl⟩;obtain⟨p,a⟩:∃b,(decide ((100:Int)<v.items.length)||decide ((100:Int)<v.fields.length))=b:=⟨_,rfl⟩;rw[c,d,e,f,g,i,j,k,l,a]at o;cases r
 case true=>simp[m,c,d,e,f,g,i,j,k,l,a,o,f135]
 cases t
 case true=>simp[m,c,d,e,f,g,i,j,k,l,a,o,f135]
 cases u
 case true=>simp[m,c,d,e,f,g,i,j,k,l,a,o,f135]
 cases w
 case true=>simp[m,c,d,e,f,g,i,j,k,l,a,o,f135]
 cases x
 case true=>simp[m,c,d,e,f,g,i,j,k,l,a,o,f135]
 cases y
 case true=>simp[m,c,d,e,f,g,i,j,k,l,a,o,f135]
 cases z
 case true=>simp[m,c,d,e,f,g,i,j,k,l,a,o,f135]
 cases A
 case true=>simp[m,c,d,e,f,g,i,j,k,l,a,o,f135]
 cases B
 case true=>simp[m,c,d,e,f,g,i,j,k,l,a,o,f135]
 cases p
 case true=>simp[m,c,d,e,f,g,i,j,k,l,a,o,f135]
 simp[m,c,d,e,f,g,i,j,k,l,a,o,f135]
theorem eO:zg prog 135 (GV fun v=>int (gA v)):=
 wW (fn:=f135) (qw (q:=[136,137]) mixed ⟨xr,fun _=>zt _ _,WT,fun _=>zt _ _,trivial⟩:AM.Good Crc _) (qD func135) false [] _ fun args r h=>by obtain⟨v,rfl,a,rfl⟩:=Kv h;exact⟨by simp[f135],_,ir v a.1,qb _⟩
noncomputable abbrev Cra (n:Nat):Ctx:=zR prog [(82,zh false [] (FV (fun v=>int v.fault) n)),(135,GV fun v=>int (gA v)),(136,zh false [] (F3 kI)),(137,zh false [] (FS (wg 32 126)))]
@[simp]theorem qra2(n:Nat):kT (Cra n) 137:=je (by rfl) (zt _ _)
theorem LA(a:za):(!kI a.length 1 60||!wg 32 126 a)=mj a:=by
 unfold mj kI;cases a with
 |nil=>rfl
 |cons c a=>generalize wg 32 126 (c::a)=x;rw[qh];cases x<;>simp<;>omega
theorem po(n:Nat)(v:qa)(h:v.vb<=zu/\v.vb<=n+1):zq (Cra n) f82 [.agg v.V]=some (int v.fault):=by
 have Q:=xz v;have R:=yY v.items;have S:=jt v.fields;obtain⟨M,hb⟩:=h;have y:=fun Y Z=>Wg (fun v=>int (gA v)) v Y Z M
 unfold zu at M;have c:=ml v;refine zm rfl ?_;by_cases B:gA v=0
 case neg=>
  have D:=Za B;have E:v.fault=gA v:=by rw[c];exact zc B
  simp[y,D,E,f82]
 have c:v.fault=if Zx v.items=0 then Vc none v.fields else Zx v.items:=by rw[c];exact zd B
 simp[y,B];refine zP (fun k U Y Z=>U 1=.ref 0 0 0/\U 16=.sl 5 (v.items.map qa.V)/\U 17=int v.items.length/\U 18=int k/\1<=Z/\Y 0=some ⟨57,5,false,[v.V]⟩/\Zx v.items=Zx (v.items.drop k)) v.items.length
  ⟨by simp,by simp,by simp,by simp,by simp,by simp,by simp⟩ ?_
 rintro k U Y Z N ⟨i,p,q,r,u,o,s⟩;have t:¬0=Z:=by omega
 by_cases b:k<v.items.length
 ·have T:=jR (zj b);have P:=qG k;have a:=fun Y Z=>XK (fun v=>int v.fault) n v.items[k] Y Z ⟨by unfold zu;omega,by omega⟩
  rw[gr b]at s;by_cases d:v.items[k].fault=0
  ·rw[zd d]at s;simp[i,p,q,r,b,a,d,P]
   and_intros<;>first|omega|exact s|simp[t,o]
  ·rw[zc d]at s;have m:=Za d;rw[s,zc d]at c;simp[i,p,q,r,b,a,m,c,f82]
 ·obtain rfl:k=v.items.length:=by omega
  rw[zn]at s;have s:Zx v.items=0:=by rw[s];rfl
  rw[s,zd rfl]at c;simp[i,p,q,r,o];refine zP (fun k U Y Z=>U 1=.ref 0 0 0/\U 29=.sl 6 (v.fields.map yk)/\U 30=int v.fields.length/\U 31=int k/\1<=Z/\Y 0=some ⟨57,5,false,[v.V]⟩/\v.fault=Vc (jA v.fields k) (v.fields.drop k)) v.fields.length
   ⟨by simp[i],by simp,by simp,by simp,u,o,by simp[c,jA]⟩ ?_
  clear i p q r u o b N t Z Y U c;rintro k U Y Z N ⟨i,e,f,g,u,o,c⟩;have t:¬0=Z:=by omega
  by_cases b:k<v.fields.length
  ·have T:=vC (zj b);have P:=qG k;have l:v.fields[k].1.length<=zu:=by unfold zu;omega
   have a:=fun Y Z=>XK (fun v=>int v.fault) n v.fields[k].2 Y Z ⟨by unfold zu;omega,by omega⟩
   have en:=LA v.fields[k].1;rw[gu b]at c;cases w:mj v.fields[k].1
   case true=>simp[i,e,f,g,b,l,en,w,c,f82]
   have z:jA v.fields (k+1)=some v.fields[k].1:=by simp[jA,b]
   simp only[w,zF,qR]at c;by_cases W:k=0
   ·subst W;simp only[jA,kr,qH,zF,qR]at c;by_cases d:v.fields[0].2.fault=0
    ·rw[zd d]at c;have X:=wz 1;simp[i,e,f,g,b,l,en,w,a,d,X]
     and_intros<;>first|omega|(rw[c];rw[z];simp;done)|simp[t,o]
    ·rw[zc d]at c;have m:=Za d;simp[i,e,f,g,b,l,en,w,a,m,c,f82]
   ·obtain⟨j,rfl⟩:∃j,k=j+1:=⟨k-1,by omega⟩;have C:j<v.fields.length:=by omega
    have F:IntKind.i64.wrap ((j:Int)+1-1)=(j:Int):=by rw[wu (by omega) (by omega)];omega
    have x:=wz (j:Int);have G:((j:Int)+1).toNat=j+1:=by omega
    have H:0<(j:Int)+1:=by omega
    have I:0<=(j:Int)+1:=by omega
    have J:(j:Int)+1<v.fields.length:=by omega
    have wk:=wz ((j:Int)+1+1);have K:(Op.bytesLess v.fields[j+1].1 v.fields[j].1||v.fields[j+1].1==v.fields[j].1)=cD v.fields[j+1].1 v.fields[j].1:=rfl;have L:jA v.fields (j+1)=some v.fields[j].1:=by simp[jA,C]
    simp only[L,kr]at c;cases A:cD v.fields[j+1].1 v.fields[j].1
    case true=>simp only[A,qH]at c;simp[i,e,f,g,b,C,l,en,w,a,o,t,F,x,G,H,I,J,K,A,c,f82]
    simp only[A,zF,qR]at c;by_cases d:v.fields[j+1].2.fault=0
    ·rw[zd d]at c;simp[i,e,f,g,b,C,l,en,w,a,o,t,F,x,G,H,I,J,K,A,d,wk]
     and_intros<;>first|omega|(rw[c];rw[z])|simp[t,o]
    ·rw[zc d]at c;have m:=Za d;simp[i,e,f,g,b,C,l,en,w,a,o,t,F,x,G,H,I,J,K,A,m,c,f82]
  ·obtain rfl:k=v.fields.length:=by omega
   rw[zn]at c;have c:v.fault=0:=by rw[c];rfl
   simp[i,e,f,g,c,f82]
theorem mJ:∀n,zg prog 82 (zh false [] (FV (fun v=>int v.fault) n)):=by
 intro n
 induction n with
 |zero=>exact tV ⟨_,func82,by kernel_rfl,by kernel_rfl⟩
 |succ n a=>
  have b:AM.Good (Cra n) (fun g=>[136,137].contains g):=qw mixed ⟨a,by simp,eO,by simp,xr,fun _=>zt _ _,WT,fun _=>zt _ _,trivial⟩;exact wW (fn:=f82) b (qD func82) false [] _ fun args r h=>by obtain⟨v,rfl,c,rfl⟩:=Kv h;exact⟨zw (zf 1) (by decide),_,po n v c,qb _⟩
noncomputable abbrev Crch:Ctx:=zR prog [(82,GV fun v=>int v.fault),(81,zh false [] (FV2 (fun v l=>.wG [int (v.rp l).1,qS (v.rp l).2]) 1 9 zu))]
theorem cM:zg prog 40 (GV fun v=>int v.check):=
 wW (fn:=f40) (zU mixed ⟨mJ zu,ug zu,trivial⟩:AM.Good Crch _) (qD func40) false [] _ fun args r h=>by
  obtain⟨v,rfl,b,rfl⟩:=Kv h;have c:=fun Y Z=>Wg (fun v=>int v.fault) v Y Z b.1
  have d:=fun Y Z=>BX (fun v l=>.wG [int (v.rp l).1,qS (v.rp l).2]) 1 9 zu v 1 Y Z ⟨b.1,b.1,by omega,by omega⟩
  refine⟨by simp[f40],_,zm rfl ?_,qb _⟩;have f:=Ou v;have a:((v.rp 1).2||decide (1000<(v.rp 1).1))=JS (v.rp 1):=rfl;unfold qa.check;rw[<-f];cases e:JS (v.rp 1)
  ·simp[c,d,a,e,f40]
  ·simp[c,d,a,e,f40]
def wx(a b:Int):Int:=if a<b then -1 else if b<a then 1 else 0
def uh(a b:za):Int:=if Op.bytesLess a b then -1 else if Op.bytesLess a b||a==b then 0 else 1
def SV(f:Int->Int->Int):zb->Option O
 |[.v (.int .i64 a),.v (.int .i64 b)]=>some (int (f a b))
 |_=>none
theorem TM{f:Int->Int->Int}{args:zb}{r:O}(h:SV f args=some r):∃a b,args=[int a,int b]/\r=int (f a b):=by
 unfold SV at h;split at h
 ·injection h with h;exact⟨_,_,rfl,h.symm⟩
 ·cases h
@[simp]theorem zfA(f:Int->Int->Int)(a b:Int)(Y:Hp)(Z:Nat):zh false [] (SV f) [.v (.int .i64 a),.v (.int .i64 b)] Y Z=some (int (f a b),Y,Z):=yA rfl rfl (.inl rfl)
def ui:zb->Option O
 |[.v (.int .i64 _)]=>some (qS false)
 |_=>none
def VV:zb->Option O
 |[.v (.string _)]=>some (qS false)
 |_=>none
@[simp]theorem zbb(a:Int)(Y:Hp)(Z:Nat):zh false [] ui [.v (.int .i64 a)] Y Z=some (qS false,Y,Z):=yA rfl rfl (.inl rfl)
@[simp]theorem zbc(a:ByteArray)(Y:Hp)(Z:Nat):zh false [] VV [.v (.string a)] Y Z=some (qS false,Y,Z):=yA rfl rfl (.inl rfl)
theorem uj:zg prog 187 (zh false [] ui):=
 wW (fn:=f187) jG (qD func187) false [] _ fun args r h=>by
  unfold ui at h;split at h
  ·injection h with h;subst h;exact⟨by simp[f187],_,zm rfl (by simp[f187]),qb _⟩
  ·cases h
theorem cN:zg prog 148 (zh false [] VV):=
 wW (fn:=f148) jG (qD func148) false [] _ fun args r h=>by
  unfold VV at h;split at h
  ·injection h with h;subst h;exact⟨by simp[f148],_,zm rfl (by simp[f148]),qb _⟩
  ·cases h
noncomputable abbrev Cnn:Ctx:=zR prog [(187,zh false [] ui),(148,zh false [] VV)]
theorem Ox:AM.Good Cnn (fun g=>[187,148].contains g):=qw mixed ⟨uj,fun _=>zt _ _,cN,fun _=>zt _ _,trivial⟩
theorem Q2:zg prog 153 (zh false [] (SV wx)):=
 wW (fn:=f153) Ox (qD func153) false [] _ fun args r h=>by
  obtain⟨a,b,rfl,rfl⟩:=TM h;refine⟨by simp[f153],_,zm rfl ?_,qb _⟩;unfold wx;by_cases c:a<b
  ·simp[c,f153]
  ·by_cases d:b<a
   ·simp[c,d,f153]
   ·simp[c,d,f153]
noncomputable def Np (f:za->za->Int):zb->Option O:=ql (α:=za×za) (fun a=>[str a.1,str a.2]) (fun _=>True) (fun a=>int (f a.1 a.2))
@[simp]theorem zfB(f:za->za->Int)(a b:za)(Y:Hp)(Z:Nat):zh false [] (Np f) [str a,str b] Y Z=some (int (f a b),Y,Z):=
 Ja (a,b) _ _ rfl (fun a b e=>by obtain⟨c,d⟩:=a;obtain⟨g,h⟩:=b;simp only[zk,zI]at e;rw[wR e.1,wR e.2]) trivial (.inl rfl)
theorem mK:zg prog 179 (zh false [] (Np uh)):=
 xy Ox func179 false [] fun⟨a,b⟩ _=>by
  refine⟨by simp[f179],_,zm rfl ?_,qb _⟩;simp only[uh];cases c:Op.bytesLess a b
  ·cases d:(a==b)
   ·simp[c,d,f179]
   ·simp[c,d,f179]
  ·simp[c,f179]
theorem Qs:∀a:za,Op.bytesLess a a=false
 |[]=>rfl
 |c::a=>by simp[Op.bytesLess,Qs a]
@[simp]theorem zd4(a:Int):wx a a=0:=by simp[wx]
noncomputable abbrev yD:=Lib.compareBytes
theorem iu:zg prog 116 (zh false [] (Np yD)):=
 tP ⟨_,func116,by kernel_rfl,by kernel_rfl⟩ fun args r h=>by obtain⟨⟨a,b⟩,rfl,_,rfl⟩:=zN h;exact⟨[.string ⟨a.toArray⟩,.string ⟨b.toArray⟩],rfl,by simp[lit],_,rfl,rfl,fun w=>by simpa using Tryz.bytealg_CompareString ⟨a.toArray⟩ ⟨b.toArray⟩ w⟩
noncomputable abbrev Cstr:Ctx:=zR prog [(116,zh false [] (Np yD))]
theorem vO:zg prog 66 (zh false [] (Np yD)):=
 xy (zU mixed ⟨iu,trivial⟩:AM.Good Cstr _) func66 false [] fun⟨a,b⟩ _=>⟨by simp[f66],_,zm rfl (by simp[f66]),qb _⟩
def KC:List Int->Int
 |[]=>0
 |n::l=>if n=0 then KC l else n
def bB(l:List Int):List zb:=l.map fun n=>[int n]
@[simp]theorem zbd(l:List Int):(bB l).length=l.length:=by simp[bB]
@[simp]theorem zg0{l:List Int}{k:Nat}(h:k<(bB l).length):(bB l)[k]=[int (l[k]'(by simpa using h))]:=by simp[bB]
theorem Oy{a b:List Int}(h:bB a=bB b):a=b:=kS (fun x y e=>by simp only[zk,zI]at e;exact qV e) h
noncomputable def Nq:zb->Option O:=ql (α:=List Int) (fun l=>[.sl 1 (bB l)]) (fun l=>l.length<=zu) (fun l=>int (KC l))
theorem TN(l:List Int)(i:l.length<=zu):zq C0 f188 [.sl 1 (bB l)]=some (int (KC l)):=by
 refine zm rfl ?_;unfold zu at i;simp;refine zP (fun k U Y Z=>U 3=int 0/\U 6=.sl 1 (bB l)/\U 7=int l.length/\U 8=int k/\KC l=KC (l.drop k)) l.length ⟨by simp,by simp,by simp,by simp,by simp⟩ ?_;rintro k U Y Z m ⟨d,e,f,g,b⟩;by_cases a:k<l.length
 ·have j:=qG k;rw[ze a]at b;simp only[KC]at b;by_cases c:l[k]=0
  ·rw[zd c]at b;simp[d,e,f,g,a,c,j];exact⟨a,b⟩
  ·rw[zc c]at b;have h:=Za c;simp[d,e,f,g,a,h,b,f188]
 ·obtain rfl:k=l.length:=by omega
  rw[zn]at b;simp[d,e,f,g,b,KC,f188]
theorem VW:zg prog 188 (zh false [] Nq):=
 xy jG func188 false [] fun l Y=>⟨by simp[f188],_,TN l Y,qb _⟩
theorem cO(l:List Int)(Y:Hp)(Z id:Nat)(e:Nat)(h:l.length<=zu)(c:Y id=some ⟨e,1,true,bB l⟩):zh false [] Nq [.own id 0 l.length] Y Z=some (int (KC l),Y,Z):=by have d:(bB l).take l.length=bB l:=qx (by simp);refine yA (show zD Y [.own id 0 l.length]=some ([.sl 1 (bB l)],qv Y id none) by simp[c,d]) ?_ (.inl rfl);exact qF (V:=fun l:List Int=>[O.sl 1 (bB l)]) (a:=l) (fun a b e=>by simp only[zk,zI]at e;injection e with _ e;exact Oy e) h
def xA(l:za):Bool:=!l.isEmpty&&kV l
noncomputable def wP (a b:za):Int:=if xA a=true then(if xA b=true then KC [wx (Lib.trimLeftB a 48).length (Lib.trimLeftB b 48).length,yD (Lib.trimLeftB a 48) (Lib.trimLeftB b 48)]else -1)else if xA b=true then 1 else yD a b
noncomputable abbrev Ccp:Ctx:=zR prog [(203,zh false [] (FS kV)),(255,zh false [] (Zr tlP fun _ b=>mv b)),(153,zh false [] (SV wx)),(66,zh false [] (Np yD)),(188,zh false [] Nq)]
theorem zco:AM.Good Ccp (fun g=>[203].contains g):=qw mixed ⟨WW,fun _=>zt _ _,YI,by simp,Q2,by simp,vO,by simp,VW,by simp,trivial⟩
@[simp]theorem zg1:kT Ccp 203:=je (by rfl) (zt _ _)
theorem iW(a:za)(Y:Hp)(Z:Nat)(h:a.length<=zu):zh false [] (Zr tlP fun _ b=>mv b) [str a,str [48]] Y Z=some (str (Lib.trimLeftB a 48),Y,Z):=jV _ _ a [48] Y Z h (by decide) ⟨48,rfl,by decide⟩ rfl
theorem iv(a b:za)(i:a.length<=zu)(j:b.length<=zu):zq Ccp f252 [str a,str b]=some (int (wP a b)):=by
 refine zm rfl ?_;have c:=fun Y Z=>ki kV a Y Z i
 have d:=fun Y Z=>ki kV b Y Z j
 have k:=fun Y Z=>iW a Y Z i
 have tb:=fun Y Z=>iW b Y Z j
 have e:(!a.isEmpty&&kV a)=xA a:=rfl;have f:(!b.isEmpty&&kV b)=xA b:=rfl;cases g:xA a<;>cases h:xA b
 ·simp[c,d,e,f,g,h,wP,f252]
 ·simp[c,d,e,f,g,h,wP,f252]
 ·simp[c,d,e,f,g,h,wP,f252]
 ·have l:∀(Y:Hp) (Z id:Nat),Y id=some ⟨3,1,true,[[int (wx (Lib.trimLeftB a 48).length (Lib.trimLeftB b 48).length)],[int (yD (Lib.trimLeftB a 48) (Lib.trimLeftB b 48))]]⟩->zh false [] Nq [.own id 0 2] Y Z=some (int (KC [wx (Lib.trimLeftB a 48).length (Lib.trimLeftB b 48).length,yD (Lib.trimLeftB a 48) (Lib.trimLeftB b 48)]),Y,Z):=fun Y Z id m=>cO [_,_] Y Z id _ (by show 2<=zu;decide) m
  simp[c,d,k,tb,e,f,g,h,l,zp,zE,zo,wP,f252]
theorem eP:zg prog 252 (zh false [] (Zr (fun a b=>int (wP a b)) fun _ _=>True)):=
 wW (fn:=f252) zco (qD func252) false [] _ fun args r h=>by obtain⟨a,b,rfl,c,d,_,rfl⟩:=kl h;exact⟨by simp[f252],_,iv a b c d,qb _⟩
theorem r9(a b:za)(Y:Hp)(Z:Nat)(h:a.length<=zu)(c:b.length<=zu):zh false [] (Zr (fun a b=>int (wP a b)) fun _ _=>True) [str a,str b] Y Z=some (int (wP a b),Y,Z):=jV _ _ a b Y Z h c trivial rfl
def w9{α:Type}(c:α->α->Int):List α->List α->Int
 |[],[]=>0
 |[],_::_=>-1
 |_::_,[]=>1
 |x::a,y::b=>if c x y=0 then w9 c a b else c x y
noncomputable abbrev Ccf:Ctx:=zR prog [(252,zh false [] (Zr (fun a b=>int (wP a b)) fun _ _=>True))]
theorem zcp:Gd Ccf:=zU mixed ⟨eP,trivial⟩
def vt(l:List za):Prop:=l.length<=zu/\∀p∈l,p.length<=zu
theorem cP(a b:List za)(o:vt a)(p:vt b):zq Ccf f251 [.sl 1 (zy a),.sl 1 (zy b),.fn (.func 252) [] []]=some (int (w9 wP a b)):=by
 refine zm rfl ?_;obtain⟨o,q⟩:=o;obtain⟨p,r⟩:=p;unfold zu at o p;simp;refine zP (fun k U Y Z=>U 0=.sl 1 (zy a)/\U 1=.sl 1 (zy b)/\U 2=.fn (.func 252) [] []/\U 11=.sl 1 (zy a)/\U 12=int a.length/\U 13=int k/\k<=b.length/\w9 wP a b=w9 wP (a.drop k) (b.drop k)) a.length
  ⟨by simp,by simp,by simp,by simp,by simp,by simp,by simp,by simp⟩ ?_
 rintro k U Y Z y ⟨j,l,m,f,g,h,v,c⟩;by_cases d:k<a.length
 ·have w:=qG k;by_cases e:k<b.length
  ·have i:¬b.length<=k:=by omega
   have u:=fun Y Z=>r9 a[k] b[k] Y Z (q _ (zj d)) (r _ (zj e))
   rw[ze d,ze e]at c;simp only[w9]at c;by_cases n:wP a[k] b[k]=0
   ·rw[zd n]at c;simp[j,l,m,f,g,h,d,e,i,u,n,w];exact⟨d,by omega,c⟩
   ·rw[zc n]at c;have s:=Za n;simp[j,l,m,f,g,h,d,e,i,u,s,c,f251]
  ·obtain rfl:k=b.length:=by omega
   rw[ze d,zn]at c;simp only[w9]at c;simp[j,l,m,f,g,h,d,c,f251]
 ·obtain rfl:k=a.length:=by omega
  rw[zn]at c;by_cases t:a.length<b.length
  ·rw[ze t]at c;simp only[w9]at c;simp[j,l,m,f,g,h,t,c,f251]
  ·rw[vi (by omega)]at c;simp only[w9]at c;have x:¬((a.length:Int)<b.length):=by omega
   simp[j,l,m,f,g,h,t,c,f251]
noncomputable def FCf:zb->Option O:=ql (α:=List za×List za) (fun a=>[.sl 1 (zy a.1),.sl 1 (zy a.2),.fn (.func 252) [] []]) (fun a=>vt a.1/\vt a.2) (fun a=>int (w9 wP a.1 a.2))
theorem zcq:∀a b:List za×List za,[O.sl 1 (zy a.1),.sl 1 (zy a.2),.fn (.func 252) [] []]=[.sl 1 (zy b.1),.sl 1 (zy b.2),.fn (.func 252) [] []]->a=b:=by rintro⟨f,g⟩ ⟨h,i⟩ e;simp only[zk,zI]at e;obtain⟨c,d⟩:=e;injection c with _ c;injection d with _ d;rw[ji c,ji d]
theorem bC:zg prog 251 (zh false [] FCf):=
 xy zcp func251 false [] fun⟨a,b⟩ ⟨c,d⟩=>⟨by simp[f251],_,cP a b c d,qb _⟩
theorem TP(a b:List za)(Y:Hp)(Z:Nat)(c:vt a)(d:vt b):zh false [] FCf [.sl 1 (zy a),.sl 1 (zy b),.fn (.func 252) [] []] Y Z=some (int (w9 wP a b),Y,Z):=
 yA (Y1:=Y) (by simp) (qF (V:=fun a:List za×List za=>[O.sl 1 (zy a.1),.sl 1 (zy a.2),.fn (.func 252) [] []]) (a:=(a,b)) zcq ⟨c,d⟩) (.inl rfl)
noncomputable def xI (v w:wy):Int:=if KC [wx v.a w.a,wx v.b w.b,wx v.c w.c]=0 then(if v.pre.length=0 then(if w.pre.length=0 then 0 else 1)else if w.pre.length=0 then -1 else w9 wP v.pre w.pre)else KC [wx v.a w.a,wx v.b w.b,wx v.c w.c]
noncomputable abbrev Ccv:Ctx:=zR prog [(153,zh false [] (SV wx)),(188,zh false [] Nq),(251,zh false [] FCf)]
theorem zcr:AM.Good Ccv (fun g=>[153,188].contains g):=qw mixed ⟨Q2,fun _=>zt _ _,VW,fun _=>zt _ _,bC,by simp,trivial⟩
theorem VX(v w:wy)(t:v.small)(u:w.small):zq Ccv f221 [.agg v.V,.agg w.V]=some (int (xI v w)):=by
 obtain⟨a,b,c,p⟩:=v;obtain⟨k,l,m,e⟩:=w;refine zm rfl ?_;have n:=fun Y Z=>TP p e Y Z t u
 obtain⟨o,s⟩:=jc (KC [wx a k,wx b l,wx c m]);have d:∀(Y:Hp) (Z id:Nat),Y id=some ⟨3,1,true,[[int (wx a k)],[int (wx b l)],[int (wx c m)]]⟩->zh false [] Nq [.own id 0 3] Y Z=some (int o,Y,Z):=fun Y Z id x=>s ▸ cO [_,_,_] Y Z id _ (by show 3<=zu;decide) x
 have j:xI ⟨a,b,c,p⟩ ⟨k,l,m,e⟩=if o=0 then(if p.length=0 then(if e.length=0 then 0 else 1)else if e.length=0 then -1 else w9 wP p e)else o:=by rw[<-s];rfl
 rw[j];by_cases q:o=0
 ·subst q;by_cases h:p.length=0<;>by_cases i:e.length=0
  ·simp[wy.V,d,zp,zE,zo,h,i,f221]
  ·have f:((e.length:Int)==0)=false:=by simpa using i
   simp[wy.V,d,zp,zE,zo,h,i,f,f221]
  ·have g:((p.length:Int)==0)=false:=by simpa using h
   simp[wy.V,d,zp,zE,zo,h,i,g,f221]
  ·have g:((p.length:Int)==0)=false:=by simpa using h
   have f:((e.length:Int)==0)=false:=by simpa using i
   simp[wy.V,d,zp,zE,zo,h,i,g,f,n,f221]
 ·have r:=Za q;simp[wy.V,d,zp,zE,zo,q,r,f221]
noncomputable def Oz (f:wy->wy->O):zb->Option O:=ql (α:=wy×wy) (fun a=>[.agg a.1.V,.agg a.2.V]) (fun a=>a.1.small/\a.2.small) (fun a=>f a.1 a.2)
theorem zcs:∀a b:wy×wy,[O.agg a.1.V,.agg a.2.V]=[.agg b.1.V,.agg b.2.V]->a=b:=by rintro⟨f,g⟩ ⟨h,i⟩ e;simp only[zk,zI]at e;obtain⟨c,d⟩:=e;injection c with c;injection d with d;rw[Wx c,Wx d]
theorem Vu:zg prog 221 (qn [.g jY,.g jY] (Oz fun v w=>int (xI v w))):=
 wO (fn:=f221) zcr (qD func221) _ _ fun args r h=>by obtain⟨⟨v,w⟩,rfl,⟨a,b⟩,rfl⟩:=zN h;exact⟨by simp[f221],_,VX v w a b,qX.refl _⟩
theorem uk(v w:wy)(Y:Hp)(Z:Nat)(b:v.small)(c:w.small):qn [.g jY,.g jY] (Oz fun v w=>int (xI v w)) [.agg v.V,.agg w.V] Y Z=some (int (xI v w),Y,Z):=
 vN (show zD Y [.agg v.V,.agg w.V]=some ([.agg v.V,.agg w.V],Y) by simp[wy.V]) (qF (V:=fun a:wy×wy=>[O.agg a.1.V,.agg a.2.V]) (a:=(v,w)) zcs ⟨b,c⟩) (.inl rfl)
structure Cut where
 v:wy
 after:Bool
def Cut.V(c:Cut):zb:=[int c.v.a,int c.v.b,int c.v.c,.sl 1 (zy c.v.pre),qS c.after]
abbrev jm:List (Option Nat):=[none,none,none,some 1,none]
theorem Zf{a b:Cut}(h:a.V=b.V):a=b:=by obtain⟨⟨i,j,k,l⟩,m⟩:=a;obtain⟨⟨n,o,p,q⟩,r⟩:=b;simp only[Cut.V,zk,zI]at h;obtain⟨d,e,f,c,g⟩:=h;injection c with _ c;rw[qV d,qV e,qV f,ji c,Yu g]
noncomputable def wb (a b:Cut):Int:=if xI a.v b.v=0 then(if a.after=b.after then 0 else if b.after=true then -1 else 1)else xI a.v b.v
noncomputable def um (f:Cut->Cut->O):zb->Option O:=ql (α:=Cut×Cut) (fun a=>[.agg a.1.V,.agg a.2.V]) (fun a=>a.1.v.small/\a.2.v.small) (fun a=>f a.1 a.2)
theorem OA:∀a b:Cut×Cut,[O.agg a.1.V,.agg a.2.V]=[.agg b.1.V,.agg b.2.V]->a=b:=by rintro⟨f,g⟩ ⟨h,i⟩ e;simp only[zk,zI]at e;obtain⟨c,d⟩:=e;injection c with c;injection d with d;rw[Zf c,Zf d]
noncomputable abbrev Ccu:Ctx:=zR prog [(221,qn [.g jY,.g jY] (Oz fun v w=>int (xI v w)))]
theorem OB:Gd Ccu:=zU mixed ⟨Vu,trivial⟩
theorem eQ(x y:Cut)(l:x.v.small)(m:y.v.small):zq Ccu f216 [.agg x.V,.agg y.V]=some (int (wb x y)):=by
 obtain⟨⟨a,b,c,p⟩,f⟩:=x;obtain⟨⟨h,i,j,k⟩,f'⟩:=y;refine zm rfl ?_;have d:=fun Y Z=>uk ⟨a,b,c,p⟩ ⟨h,i,j,k⟩ Y Z l m
 simp only[wy.V]at d;by_cases e:xI ⟨a,b,c,p⟩ ⟨h,i,j,k⟩=0
 ·cases f<;>cases f'<;>simp[Cut.V,d,e,wb,f216]
 ·have g:=Za e;simp[Cut.V,d,e,g,wb,f216]
theorem xB:zg prog 216 (qn [.g jm,.g jm] (um fun v w=>int (wb v w))):=
 wO (fn:=f216) OB (qD func216) _ _ fun args r h=>by obtain⟨⟨v,w⟩,rfl,⟨a,b⟩,rfl⟩:=zN h;exact⟨by simp[f216],_,eQ v w a b,qX.refl _⟩
theorem uo(x y:Cut)(u v:O)(Y:Hp)(Z:Nat)(b:(Sh.g jm).fix u=.agg x.V)(c:(Sh.g jm).fix v=.agg y.V)(d:zD Y [u,v]=some ([u,v],Y))(e:x.v.small)(f:y.v.small):qn [.g jm,.g jm] (um fun v w=>int (wb v w)) [u,v] Y Z=some (int (wb x y),Y,Z):=
 vN d (by show um _ [(Sh.g jm).fix u,(Sh.g jm).fix v]=_;rw[b,c];exact qF (V:=fun a:Cut×Cut=>[O.agg a.1.V,.agg a.2.V]) (a:=(x,y)) OA ⟨e,f⟩) (.inl rfl)
mutual
noncomputable def qL:qa->qa->Int
 | .mk k n s a b,w=>if k=w.kind then(if k=1\/k=2 then wx n w.n else if k=3 then yD s w.s else if k=4 then lx a w.items else if k=5 then lz b w.fields else 0)else wx k w.kind
noncomputable def lx:List qa->List qa->Int
 |[],[]=>0
 |[],_::_=>-1
 |_::_,[]=>1
 |a::xs,b::ys=>if qL a b=0 then lx xs ys else qL a b
noncomputable def lz:List (za×qa)->List (za×qa)->Int
 |[],[]=>0
 |[],_::_=>-1
 |_::_,[]=>1
 |(x,a)::xs,g::ys=>if KC [yD x g.1,qL a g.2]=0 then lz xs ys else KC [yD x g.1,qL a g.2]
end
noncomputable def jM (f g:za×qa):Int:=KC [yD f.1 g.1,qL f.2 g.2]
theorem mL:∀a b:List qa,lx a b=w9 qL a b
 |[],[]=>rfl
 |[],_::_=>rfl
 |_::_,[]=>rfl
 |a::xs,b::ys=>by simp only[lx,w9,mL xs ys]
theorem mM:∀a b:List (za×qa),lz a b=w9 jM a b
 |[],[]=>rfl
 |[],_::_=>rfl
 |_::_,[]=>rfl
 |(x,a)::xs,g::ys=>by simp only[lz,w9,mM xs ys,jM];rfl
theorem JT(a b:qa):qL a b=if a.kind=b.kind then(if a.kind=1\/a.kind=2 then wx a.n b.n else if a.kind=3 then yD a.s b.s else if a.kind=4 then w9 qL a.items b.items else if a.kind=5 then w9 jM a.fields b.fields else 0)else wx a.kind b.kind:=by
 cases a with
 |mk k n s e f=>
  cases b with
  |mk g h i c d=>simp only[qL,mL,mM,qa.kind,qa.n,qa.s,qa.items,qa.fields];rfl
noncomputable def OC (n:Nat):zb->Option O:=ql (α:=qa×qa) (fun a=>[.agg a.1.V,.agg a.2.V]) (fun a=>a.1.vb<=zu/\a.1.vb<=n/\a.2.vb<=zu) (fun a=>int (qL a.1 a.2))
theorem Wy(n:Nat)(a b:qa)(Y:Hp)(Z:Nat)(h:a.vb<=zu/\a.vb<=n/\b.vb<=zu):zh false [] (OC n) [.agg a.V,.agg b.V] Y Z=some (int (qL a b),Y,Z):=
 yA (Y1:=Y) (show zD Y [.agg a.V,.agg b.V]=some ([.agg a.V,.agg b.V],Y) by simp only[zD,Ku])
  (qF (V:=fun a:qa×qa=>[.agg a.1.V,.agg a.2.V]) (a:=(a,b)) (fun x y e=>by obtain⟨c,d⟩:=x;obtain⟨f,g⟩:=y;simp only[zk,zI,O.agg.injEq]at e;rw[ZQ e.1,ZQ e.2]) h) (.inl rfl)
theorem eR{f:FuncId}{F:zb->Option O}(b:∃fn,prog.funcs[f]?=some fn/\(fn.name== "runtime.NumGoroutine")=false/\fn.body.isNone=false)(h:∀args r,F args=some r->False):zg prog f (zh false [] F):=by
 refine⟨b,fun args Y Z r c d a=>?_⟩;unfold zh at a;split at a
 ·split at a
  ·rename_i e hF;exact(h _ _ hF).elim
  ·cases a
 ·cases a
theorem eS{a b:za×qa}(h:yk a=yk b):a=b:=by obtain⟨c,d⟩:=a;obtain⟨e,f⟩:=b;simp only[yk,zk]at h;rw[wR h.1,ZQ h.2]
theorem sa{a b:List (za×qa)}(h:a.map yk=b.map yk):a=b:=kS (fun _ _=>eS) h
theorem eT{a b:List qa}(h:a.map qa.V=b.map qa.V):a=b:=kS (fun _ _=>ZQ) h
noncomputable abbrev Ccfv (n:Nat):Ctx:=zR prog [(119,zh false []<|OC n)]
theorem cQ(n:Nat)(a b:List (qa))(p:Kd a<=zu/\Kd a<=n)(t:Kd b<=zu):zq (Ccfv n) f154 [.sl 5 (a.map qa.V),.sl 5 (b.map qa.V),.fn (.func 119) [] []]=some (int (w9 qL a b)):=by
 refine zm rfl ?_;obtain⟨p,u⟩:=p;have y:=yY a;have z:=yY b;unfold zu at p t;simp;refine zP (fun k U Y Z=>U 0=.sl 5 (a.map qa.V)/\U 1=.sl 5 (b.map qa.V)/\U 2=.fn (.func 119) [] []/\U 11=.sl 5 (a.map qa.V)/\U 12=int a.length/\U 13=int k/\k<=b.length/\w9 qL a b=w9 qL (a.drop k) (b.drop k)) a.length
  ⟨by simp,by simp,by simp,by simp,by simp,by simp,by simp,by simp⟩ ?_
 rintro k U Y Z A ⟨j,l,m,f,g,h,v,c⟩;by_cases d:k<a.length
 ·have w:=qG k;by_cases e:k<b.length
  ·have i:¬b.length<=k:=by omega
   have B:=jR (zj d);have C:=jR (zj e);have s:=fun Y Z=>Wy n a[k] b[k] Y Z ⟨by unfold zu;omega,by omega,by unfold zu;omega⟩
   skip
   rw[ze d,ze e]at c;simp only[w9]at c;by_cases o:qL a[k] b[k]=0
   ·rw[zd o]at c;simp[j,l,m,f,g,h,d,e,i,s,o,w];exact⟨d,by omega,c⟩
   ·rw[zc o]at c;have q:=Za o;simp[j,l,m,f,g,h,d,e,i,s,q,c,f154]
  ·obtain rfl:k=b.length:=by omega
   rw[ze d,zn]at c;simp only[w9]at c;simp[j,l,m,f,g,h,d,c,f154]
 ·obtain rfl:k=a.length:=by omega
  rw[zn]at c;by_cases r:a.length<b.length
  ·rw[ze r]at c;simp only[w9]at c;simp[j,l,m,f,g,h,r,c,f154]
  ·rw[vi (by omega)]at c;simp only[w9]at c;have x:¬((a.length:Int)<b.length):=by omega
   simp[j,l,m,f,g,h,r,c,f154]
noncomputable def FLV (n:Nat):zb->Option O:=ql (α:=List (qa)×List (qa)) (fun a=>[.sl 5 (a.1.map qa.V),.sl 5 (a.2.map qa.V),.fn (.func 119) [] []]) (fun a=>(Kd a.1<=zu/\Kd a.1<=n)/\Kd a.2<=zu) (fun a=>int (w9 qL a.1 a.2))
theorem OD(n:Nat)(a b:List (qa))(Y:Hp)(Z:Nat)(h:(Kd a<=zu/\Kd a<=n)/\Kd b<=zu):zh false [] (FLV n) [.sl 5 (a.map qa.V),.sl 5 (b.map qa.V),.fn (.func 119) [] []] Y Z=some (int (w9 qL a b),Y,Z):=
 yA (Y1:=Y) (by simp) (qF (V:=fun a:List (qa)×List (qa)=>[O.sl 5 (a.1.map qa.V),.sl 5 (a.2.map qa.V),.fn (.func 119) [] []]) (a:=(a,b)) (fun x y e=>by obtain⟨f,g⟩:=x;obtain⟨i,j⟩:=y;simp only[zk,zI]at e;obtain⟨c,d⟩:=e;injection c with _ c;injection d with _ d;rw[eT c,eT d]) h) (.inl rfl)
noncomputable def FFF (n:Nat):zb->Option O:=ql (α:=(za×qa)×(za×qa)) (fun a=>[.agg (yk a.1),.agg (yk a.2)]) (fun a=>(a.1.2.vb<=zu/\a.1.2.vb<=n/\a.2.2.vb<=zu)) (fun a=>int (jM a.1 a.2))
theorem OE(n:Nat)(a b:za×qa)(Y:Hp)(Z:Nat)(h:a.2.vb<=zu/\a.2.vb<=n/\b.2.vb<=zu):zh false [] (FFF n) [.agg (yk a),.agg (yk b)] Y Z=some (int (jM a b),Y,Z):=
 yA (Y1:=Y) (show zD Y [.agg (yk a),.agg (yk b)]=some ([.agg (yk a),.agg (yk b)],Y) by simp[yk])
  (qF (V:=fun a:(za×qa)×(za×qa)=>[.agg (yk a.1),.agg (yk a.2)]) (a:=(a,b)) (fun x y e=>by
   obtain⟨d,f⟩:=x;obtain⟨g,i⟩:=y;have c:yk d=yk g/\yk f=yk i:=by simp only[zk,zI,O.agg.injEq]at e;exact⟨zk .. ▸ e.1,zk .. ▸ e.2⟩
   rw[eS c.1,eS c.2]) h) (.inl rfl)
noncomputable abbrev Ccfl (n:Nat):Ctx:=zR prog [(66,zh false [] (Np yD)),(119,zh false [] (OC n)),(188,zh false [] Nq)]
theorem bD(n:Nat)(a b:za×qa)(h:a.2.vb<=zu/\a.2.vb<=n/\b.2.vb<=zu):zq (Ccfl n) f156 [.agg (yk a),.agg (yk b)]=some (int (jM a b)):=by
 refine zm rfl ?_;have c:=fun Y Z=>Wy n a.2 b.2 Y Z h
 have d:∀(Y:Hp) (Z id:Nat),Y id=some ⟨3,1,true,[[int (yD a.1 b.1)],[int (qL a.2 b.2)]]⟩->zh false [] Nq [.own id 0 2] Y Z=some (int (jM a b),Y,Z):=fun Y Z id e=>cO [_,_] Y Z id _ (by show 2<=zu;decide) e
 simp[yk,c,d,zp,zE,zo,f156]
noncomputable abbrev Ccff (n:Nat):Ctx:=zR prog [(156,zh false []<|FFF n)]
theorem cR(n:Nat)(a b:List (za×qa))(p:ak a<=zu/\ak a<=n)(t:ak b<=zu):zq (Ccff n) f155 [.sl 6 (a.map yk),.sl 6 (b.map yk),.fn (.func 156) [] []]=some (int (w9 jM a b)):=by
 refine zm rfl ?_;obtain⟨p,u⟩:=p;have y:=jt a;have z:=jt b;unfold zu at p t;simp;refine zP (fun k U Y Z=>U 0=.sl 6 (a.map yk)/\U 1=.sl 6 (b.map yk)/\U 2=.fn (.func 156) [] []/\U 11=.sl 6 (a.map yk)/\U 12=int a.length/\U 13=int k/\k<=b.length/\w9 jM a b=w9 jM (a.drop k) (b.drop k)) a.length
  ⟨by simp,by simp,by simp,by simp,by simp,by simp,by simp,by simp⟩ ?_
 rintro k U Y Z A ⟨j,l,m,f,g,h,v,c⟩;by_cases d:k<a.length
 ·have w:=qG k;by_cases e:k<b.length
  ·have i:¬b.length<=k:=by omega
   have B:=vC (zj d);have C:=vC (zj e);have q:=fun Y Z=>OE n a[k] b[k] Y Z ⟨by unfold zu;omega,by omega,by unfold zu;omega⟩
   simp only[yk]at q;rw[ze d,ze e]at c;simp only[w9]at c;by_cases o:jM a[k] b[k]=0
   ·rw[zd o]at c;simp[j,l,m,f,g,h,d,e,i,q,o,w];exact⟨d,by omega,c⟩
   ·rw[zc o]at c;have r:=Za o;simp[j,l,m,f,g,h,d,e,i,q,r,c,f155]
  ·obtain rfl:k=b.length:=by omega
   rw[ze d,zn]at c;simp only[w9]at c;simp[j,l,m,f,g,h,d,c,f155]
 ·obtain rfl:k=a.length:=by omega
  rw[zn]at c;by_cases s:a.length<b.length
  ·rw[ze s]at c;simp only[w9]at c;simp[j,l,m,f,g,h,s,c,f155]
  ·rw[vi (by omega)]at c;simp only[w9]at c;have x:¬((a.length:Int)<b.length):=by omega
   simp[j,l,m,f,g,h,s,c,f155]
noncomputable def FLF (n:Nat):zb->Option O:=ql (α:=List (za×qa)×List (za×qa)) (fun a=>[.sl 6 (a.1.map yk),.sl 6 (a.2.map yk),.fn (.func 156) [] []]) (fun a=>(ak a.1<=zu/\ak a.1<=n)/\ak a.2<=zu) (fun a=>int (w9 jM a.1 a.2))
theorem OG(n:Nat)(a b:List (za×qa))(Y:Hp)(Z:Nat)(h:(ak a<=zu/\ak a<=n)/\ak b<=zu):zh false [] (FLF n) [.sl 6 (a.map yk),.sl 6 (b.map yk),.fn (.func 156) [] []] Y Z=some (int (w9 jM a b),Y,Z):=
 yA (Y1:=Y) (by simp) (qF (V:=fun a:List (za×qa)×List (za×qa)=>[O.sl 6 (a.1.map yk),.sl 6 (a.2.map yk),.fn (.func 156) [] []]) (a:=(a,b)) (fun x y e=>by obtain⟨f,g⟩:=x;obtain⟨i,j⟩:=y;simp only[zk,zI]at e;obtain⟨c,d⟩:=e;injection c with _ c;injection d with _ d;rw[sa c,sa d]) h) (.inl rfl)
noncomputable abbrev Ccmv (n:Nat):Ctx:=zR prog [(153,zh false [] (SV wx)),(66,zh false [] (Np yD)),(154,zh false [] (FLV n)),(155,zh false [] (FLF n))]
theorem pq(n:Nat)(a b:qa)(h:a.vb<=zu/\a.vb<=n+1/\b.vb<=zu):zq (Ccmv n) f119 [.agg a.V,.agg b.V]=some (int (qL a b)):=by
 obtain⟨u,v,w⟩:=h;have x:=xz a;have y:=xz b;have m:=fun Y Z=>OD n a.items b.items Y Z ⟨⟨by omega,by omega⟩,by omega⟩
 have o:=fun Y Z=>OG n a.fields b.fields Y Z ⟨⟨by omega,by omega⟩,by omega⟩
 refine zm rfl ?_;have c:=JT a b;by_cases e:a.kind=b.kind
 ·rw[zd e]at c;by_cases j:a.kind=1
  ·rw[zd (.inl j)]at c;have d:b.kind=1:=by omega
   simp[j,d,c,f119]
  by_cases k:a.kind=2
  ·rw[zd (.inr k)]at c;have d:b.kind=2:=by omega
   simp[k,d,c,f119]
  rw[zc (by omega)]at c;by_cases f:a.kind=3
  ·rw[zd f]at c;have d:b.kind=3:=by omega
   simp[f,d,c,f119]
  rw[zc f]at c;by_cases g:a.kind=4
  ·rw[zd g]at c;have d:b.kind=4:=by omega
   simp[g,d,c,m,f119]
  rw[zc g]at c;by_cases i:a.kind=5
  ·rw[zd i]at c;have d:b.kind=5:=by omega
   simp[i,d,c,o,f119]
  rw[zc i]at c;have l:(a.kind != b.kind)=false:=by simpa using e
  have p:=wU j;have q:=wU k;have r:=wU f;have s:=wU g;have t:=wU i;simp[l,p,q,r,s,t,c,f119]
 ·rw[zc e]at c;have l:(a.kind != b.kind)=true:=by simpa using e
  simp[l,c,f119]
theorem iX{n:Nat}{args:zb}{r:O}(h:OC n args=some r):∃a b:qa,args=[.agg a.V,.agg b.V]/\(a.vb<=zu/\a.vb<=n/\b.vb<=zu)/\r=int (qL a b):=by obtain⟨⟨a,b⟩,c,d,e⟩:=zN h;exact⟨a,b,c,d,e⟩
theorem VY:∀n,zg prog 119 (zh false [] (OC n)):=by
 intro n
 induction n with
 |zero=>
  exact eR ⟨_,func119,by kernel_rfl,by kernel_rfl⟩ fun args r h=>by obtain⟨a,b,_,d,_⟩:=iX h;have:=YG a;omega
 |succ n e=>
  have f:Gd (Ccfv n):=zU mixed ⟨e,trivial⟩;have i:zg prog 154 (zh false [] (FLV n)):=
   xy f func154 false [] fun⟨a,b⟩ ⟨c,d⟩=>by exact⟨zw (zf 3) (by decide),_,cQ n a b c d,qb _⟩
  have j:AM.Good (Ccfl n) (fun g=>[66,119,188].contains g):=qw mixed ⟨vO,fun _=>zt _ _,e,fun _=>zt _ _,VW,fun _=>zt _ _,trivial⟩;have k:zg prog 156 (zh false [] (FFF n)):=
   xy j func156 false [] fun⟨a,b⟩ c=>by exact⟨zw (zf 2) (by decide),_,bD n a b c,qb _⟩
  have l:Gd (Ccff n):=zU mixed ⟨k,trivial⟩;have m:zg prog 155 (zh false [] (FLF n)):=
   xy l func155 false [] fun⟨a,b⟩ ⟨c,d⟩=>by exact⟨zw (zf 3) (by decide),_,cR n a b c d,qb _⟩
  have o:Gd (Ccmv n):=zU mixed ⟨Q2,vO,i,m,trivial⟩;exact wW (fn:=f119) o (qD func119) false [] _ fun args r h=>by obtain⟨a,b,rfl,c,rfl⟩:=iX h;exact⟨zw (zf 2) (by decide),_,pq n a b c,qb _⟩
end Go.Q
namespace Go.AM
def YJ(a:List Sh)(F:zb->Option O):AM.Spec:=zh true [] fun args=>F (cF a args)
theorem B0{C:Ctx}{pf:FuncId->Bool}{f:FuncId}{fn:Func}(c:AM.Good C pf)(d:QZ C pf f fn)(a:List Sh)(F:zb->Option O)
  (hF:∀args r,F args=some r->args.length<=fn.ntmps/\∃b,zq C fn args=some b/\qX b r):zg C.P f (YJ a F):=
 Qq c d true [] _ fun args r h w S vs e=>by obtain⟨g,b,i,j⟩:=hF _ _ h;exact⟨cF a args,b,JO e,g,i,j⟩
theorem OH{a:List Sh}{F:zb->Option O}{args:zb}{Y Y1:Hp}{Z:Nat}{ys:zb}{r:O}(b:zD Y args=some (ys,Y1))(c:F (cF a ys)=some r)(d:(r.flat=true\/args.all O.noOwn=true)->Y1=Y) :
  YJ a F args Y Z=some (r,Y1,Z):=by
 have e:yg [] ys=ys:=by cases ys<;>rfl
 unfold YJ zh;simp only[b,e,c];split
 ·rename_i h;rw[d h]
 ·simp
theorem FF(c:List Sh)(F:zb->Option O):Wf (YJ c F):=by
 intro args Y Z r e f h;unfold YJ zh at h;split at h
 ·rename_i ys Y1 d;split at h
  ·split at h
   ·injection h with h;injection h with _ h;injection h with a b;subst a;subst b;exact⟨zf _,fun id blk _ a _=>a⟩
   ·split at h
    ·injection h with h;injection h with _ h;injection h with a b;subst a;subst b;exact⟨zf _,fun id blk _ a b=>VT d a b⟩
    ·cases h
  ·cases h
 ·cases h
def xC(P:Program)(l:Qg)(k:Nat)(D:List (Tmp×Tmp))(L:List Tmp)(b:List Nat):Ctx:=⟨P,lookup l,fun i=>if i=k then D else[],fun i=>if i=k then L else[],fun g=>b.contains g,fun _=>[],fun _=>none⟩
@[simp]theorem zd5(P:Program)(l:Qg)(k:Nat)(D:List (Tmp×Tmp))(L:List Tmp)(b:List Nat):(xC P l k D L b).P=P:=rfl
@[simp]theorem zd6(P:Program)(l:Qg)(k:Nat)(D:List (Tmp×Tmp))(L:List Tmp)(b:List Nat)(Y:Hp)(Z g:Nat)(x y xs:zb):jD (xC P l k D L b) Y Z (some (.fn (.func g) x y)) xs=(lookup l g).bind fun s=>s (x++xs++y) Y Z:=by unfold jD xC;simp only;cases lookup l g<;>rfl
@[simp]theorem Nr(P:Program)(l:Qg)(k:Nat)(D:List (Tmp×Tmp))(L:List Tmp)(b:List Nat)(i:Nat)(a:Array Oper)(d:Bool)(st:St)(K:Exit->St->Prop)(h:¬i=k):Zy (xC P l k D L b) (.region i a d) st K=iU (xC P l k D L b) a a.toList st (Y9 K):=
 YE _ i a d st K (by simp[xC,h]) (by simp[xC,h])
theorem j7{P:Program}{l:Qg}{k:Nat}{D:List (Tmp×Tmp)}{L:List Tmp}{b:List Nat}{a:Array Oper}{d:Bool}{st:St}{K:Exit->St->Prop}(h:WQ D st)(c:Z6 L st):Zy (xC P l k D L b) (.region k a d) st K=iU (xC P l k D L b) a a.toList st (Y9 K):=
 Wt _ k a d st K (by simpa[xC]using h) (by simpa[xC]using c)
theorem sb{P:Program}{l:Qg}{q:List Nat}{k:Nat}{D:List (Tmp×Tmp)}{L:List Tmp}{b:List Nat}(a:P.follows .mixedOrders=true)(h:cx True P q l)(c:eG b l):AM.Good (xC P l k D L b) (fun g=>q.contains g):=
 let g:=mq (k:=k) (L:=L) a h c
 ⟨g.spec,g.quiet,g.mixed,g.box,fun _ _ h=>by cases h⟩
end Go.AM
namespace Go.Q
def A2(a b c:Int):O:=.agg [int a,int b,int c]
noncomputable def FG:zb->Option O:=ql (α:=Int×Int×Int×List za) (fun a=>[A2 a.1 a.2.1 a.2.2.1,.sl 1 (zy a.2.2.2)]) (fun _=>True) (fun a=>.agg (⟨a.1,a.2.1,a.2.2.1,a.2.2.2⟩:wy).V)
theorem TQ:∀a b:Int×Int×Int×List za,[A2 a.1 a.2.1 a.2.2.1,.sl 1 (zy a.2.2.2)]=[A2 b.1 b.2.1 b.2.2.1,.sl 1 (zy b.2.2.2)]->a=b:=by rintro⟨h,i,j,k⟩ ⟨l,m,n,o⟩ e;simp only[A2,zk,zI]at e;obtain⟨c,d⟩:=e;injection c with c;simp only[zk,zI]at c;obtain⟨c,f,g⟩:=c;injection d with _ d;rw[qV c,qV f,qV g,ji d]
theorem uq(a b c:Int)(p:List za):zq C0 f248 [A2 a b c,.sl 1 (zy p)]=some (.agg (⟨a,b,c,p⟩:wy).V):=by refine zm rfl ?_;simp[A2,wy.V,z8,qB,wa,f248]
theorem Jw:zg prog 248 (YJ [.a,.s 1 []] FG):=
 B0 (fn:=f248) jG (qD func248) _ _ fun args r h=>by obtain⟨⟨a,b,c,p⟩,rfl,_,rfl⟩:=zN h;exact⟨by simp[f248],_,uq a b c p,qX.refl _⟩
theorem KD(a b c:Int)(p:List za)(y z:O)(Y Y1:Hp)(Z:Nat)(e:qA Y y=some (z,Y1))(d:n1 1 z=.sl 1 (zy p))(f:y.noOwn=true->Y1=Y):YJ [.a,.s 1 []] FG [A2 a b c,y] Y Z=some (.agg (⟨a,b,c,p⟩:wy).V,Y1,Z):=
 OH (ys:=[A2 a b c,z]) (by
  have g:qA Y (A2 a b c)=some (A2 a b c,Y):=by simp[A2]
  simp only[zD,g,e]) (by
  have:(Sh.s 1 []).fix z=.sl 1 (zy p):=by
   cases z with
   |sl m es=>simp only[n1]at d;simp only[Sh.fix];rw[<-d];congr 1;exact(x1 (fun c _=>by cases c<;>rfl)).trans (List.map_id _)
   |_=>exact d
  show FG [A2 a b c,(Sh.s 1 []).fix z]=_;rw[this];exact qF (V:=fun a:Int×Int×Int×List za=>[A2 a.1 a.2.1 a.2.2.1,.sl 1 (zy a.2.2.2)]) (a:=(a,b,c,p)) TQ trivial) (by simpa[A2,wy.V]using f)
def qU:Cut:=⟨⟨0,0,0,[[48]]⟩,false⟩
noncomputable def YK (r:O):zb->Option O:=ql (α:=Unit) (fun _=>[]) (fun _=>True) (fun _=>r)
theorem Q3(r:O)(Y:Hp)(Z:Nat):qn [] (YK r) [] Y Z=some (r,Y,Z):=vN (show zD Y []=some ([],Y)from rfl) (qF (V:=fun _:Unit=>[]) (a:=()) (fun _ _ _=>rfl) trivial) (.inr rfl)
theorem FH:zq C0 f210 []=some (.agg qU.V):=by refine zm rfl ?_;simp[qU,Cut.V,zy,str,z8,qB,zp,zE,zo,wa,f210]
theorem gB:zg prog 210 (qn [] (YK (.agg qU.V))):=
 wO (fn:=f210) jG (qD func210) _ _ fun args r h=>by obtain⟨_,rfl,_,rfl⟩:=zN h;exact⟨by simp[f210],_,FH,qX.refl _⟩
structure qK where
 lo:Cut
 hi:Cut
 yv:Bool
def qK.V(s:qK):zb:=s.lo.V++s.hi.V++[qS s.yv]
def QM:Cut:=⟨⟨0,0,0,[]⟩,false⟩
abbrev jn:List (Option Nat):=[none,none,none,some 1,none,none,none,none,some 1,none,none]
def w5(c:Cut):qK:=⟨c,QM,true⟩
def bE(a b:Cut):qK:=⟨a,b,false⟩
def zW(l:List qK):List zb:=l.map qK.V
def bF:O:=.sl 11 (zW [w5 qU])
noncomputable abbrev Cev:Ctx:=zR prog [(210,qn [] (YK (.agg qU.V)))]
theorem zct:Gd Cev:=zU mixed ⟨gB,trivial⟩
theorem iw:∃a,zq Cev f167 []=some a/\qX a bF:=by refine Yn (sh:=.s 11 jn) rfl ?_;simp[Q3,qU,Cut.V,zy,str,z8,qB,zp,zE,zo,cG,bF,zW,w5,qK.V,QM,f167]
theorem JU:zg prog 167 (qn [] (YK bF)):=
 wO (fn:=f167) zct (qD func167) _ _ fun args r h=>by obtain⟨_,rfl,_,rfl⟩:=zN h;obtain⟨a,b,c⟩:=iw;exact⟨by simp[f167],a,b,c⟩
theorem mN{a b:Part}(h:a.V=b.V):a=b:=by obtain⟨i,j,k,l,m⟩:=a;obtain⟨n,o,p,q,r⟩:=b;simp only[Part.V,zk,zI]at h;obtain⟨d,e,f,g,c⟩:=h;injection c with _ c;rw[qV d,qV e,qV f,qV g,ji c]
def Part.ok(p:Part):Prop:=(0<=p.n0/\p.n0<=999999)/\(0<=p.n1/\p.n1<=999999)/\(0<=p.n2/\p.n2<=999999)/\(1<=p.has/\p.has<=3)/\vt p.pre
noncomputable def FPa (f:Part->O):zb->Option O:=ql (α:=Part) (fun p=>[.agg p.V]) Part.ok f
theorem B4(f:Part->O)(p:Part)(u:O)(Y:Hp)(Z:Nat)(h:p.ok)(c:(Sh.g VU).fix u=.agg p.V)(d:qA Y u=some (u,Y))(i:u.noOwn=true):qn [.g VU] (FPa f) [u] Y Z=some (f p,Y,Z):=
 vN (show zD Y [u]=some ([u],Y) by simp only[zD,d]) (by show FPa f [(Sh.g VU).fix u]=_;rw[c];exact qF (V:=fun p:Part=>[O.agg p.V]) (a:=p) (fun a b e=>by simp only[zk,zI]at e;injection e with e;exact mN e) h) (.inr (by rw[wI,i];rfl))
noncomputable def FPt (f:Part->O):zb->Option O:=ql (α:=Part) (fun p=>[.agg p.V]) (fun _=>True) f
theorem OI(f:Part->O)(p:Part)(Y:Hp)(Z:Nat):qn [.g VU] (FPt f) [.agg p.V] Y Z=some (f p,Y,Z):=
 vN (show zD Y [.agg p.V]=some ([.agg p.V],Y) by simp[Part.V]) (by show FPt f [(Sh.g VU).fix (.agg p.V)]=_;rw[show(Sh.g VU).fix (.agg p.V)=.agg p.V by simp[Part.V]];exact qF (V:=fun p:Part=>[O.agg p.V]) (a:=p) (fun a b e=>by simp only[zk,zI]at e;injection e with e;exact mN e) trivial) (.inr (by simp[Part.V]))
def ZA(p:Part):Cut:=⟨⟨p.n0,p.n1,p.n2,p.pre⟩,false⟩
noncomputable abbrev Clo:Ctx:=zR prog [(248,YJ [.a,.s 1 []] FG)]
theorem zcu:Gd Clo:=zU mixed ⟨Jw,trivial⟩
theorem OJ(p:Part):zq Clo f211 [.agg p.V]=some (.agg (ZA p).V):=by
 obtain⟨a,b,c,d,e⟩:=p;refine zm rfl ?_;have f:=fun Y Z=>KD a b c e (.sl 1 (zy e)) (.sl 1 (zy e)) Y Y Z (by simp) rfl (fun _=>rfl)
 simp[A2]at f;simp[Part.V,f,ZA,Cut.V,wy.V,z8,qB,wa,f211]
theorem LB:zg prog 211 (qn [.g VU] (FPt fun p=>.agg (ZA p).V)):=
 wO (fn:=f211) zcu (qD func211) _ _ fun args r h=>by obtain⟨p,rfl,_,rfl⟩:=zN h;exact⟨by simp[f211],_,OJ p,qX.refl _⟩
def jk(p:Part):Nat->Cut
 | 0=>⟨⟨p.n0+1,0,0,[[48]]⟩,false⟩
 | 1=>⟨⟨p.n0,p.n1+1,0,[[48]]⟩,false⟩
 |_=>⟨⟨p.n0,p.n1,p.n2+1,[[48]]⟩,false⟩
def vD(p:Part):Nat->Bool
 | 0=>decide (p.n0+1<=999999)
 | 1=>decide (p.n1+1<=999999)
 |_=>decide (p.n2+1<=999999)
def kX(p:Part)(i:Nat):O:=.wG [.agg (jk p i).V,qS (vD p i)]
noncomputable abbrev Crsd:Ctx:=xC prog [(248,YJ [.a,.s 1 []] FG)] 7 [(6,4),(28,4)] [4,6,28] [248]
theorem TR:Gd Crsd:=sb mixed ⟨Jw,by simp,trivial⟩ ⟨fun _=>FF _ _,trivial⟩
theorem Yv(st:St):WQ [] st:=fun _ h=>by cases h
theorem yd{a b:Tmp}{D:List (Tmp×Tmp)}{st:St}(h:tp st a b)(c:WQ D st):WQ ((a,b)::D) st:=fun p Y=>by
 rcases zv.1 Y with rfl|Y
 ·exact h
 ·exact c p Y
theorem JV(st:St):Z6 [] st:=fun _ h=>by cases h
theorem xl{s:Tmp}{L:List Tmp}{st:St}{id i j:Nat}{blk:kv}(h:st.U s=.ref id i j)(b:id<st.Z)(c:st.Y id=some blk)(d:blk.arr=false)(f:Z6 L st)(hs:s<zB:=by decide):Z6 (s::L) st:=fun t a=>by
 rcases zv.1 a with rfl|a
 ·refine⟨⟨fun id' o n e=>(by rw[h]at e;cases e),fun id' i' j' e=>?_⟩,fun g=>absurd hs (Nat.not_lt.2 g)⟩;rw[h]at e;injection e with e _ _
  subst e;exact⟨b,blk,c,d⟩
 ·exact f t a
theorem kz{s:Tmp}{L:List Tmp}{st:St}{x:zb}(h:st.U s=.wG x)(b:Z6 L st)(hs:s<zB:=by decide):Z6 (s::L) st:=fun t a=>by
 rcases zv.1 a with rfl|a
 ·exact⟨⟨fun id' o n e=>(by rw[h]at e;cases e),fun id' i' j' e=>(by rw[h]at e;cases e)⟩,fun c=>absurd hs (Nat.not_lt.2 c)⟩
 ·exact b t a
theorem Yw{a b:Tmp}{st:St}{id i j id' i' j':Nat}{blk:kv}(d:st.U a=.ref id i j)(e:st.U b=.ref id' i' j')(f:id≠id')(g:st.Y id'=some blk)(h:blk.arr=false):tp st a b:=by
 intro k l m c;rw[d]at c;injection c with c _ _
 subst c;exact⟨id',i',j',blk,e,f,g,h⟩
theorem jN{a b:Tmp}{st:St}{x:zb}(d:st.U a=.wG x):tp st a b:=by intro e f g c;rw[d]at c;cases c
theorem B5(p:Part)(i:Nat)(hi:i<3)(Y:p.ok):∃j,zq Crsd f214 [.agg p.V,int i]=some j/\qX j (kX p i):=by
 obtain⟨a,b,c,d,e⟩:=p;obtain⟨⟨k,l⟩,⟨m,n⟩,⟨o,q⟩,_⟩:=Y;simp only at k l m n o q;refine yB (sh:=.g jm) rfl ?_;have r:=wz (a+1);have t:=wz (b+1);have u:=wz (c+1);have f:∀(a b c:Int) (Y:Hp) (Z id:Nat),Y id=some ⟨9,1,true,[[str [48]]]⟩->YJ [.a,.s 1 []] FG [A2 a b c,.own id 0 1] Y Z=some (.agg (⟨a,b,c,[[48]]⟩:wy).V,qv Y id none,Z):=fun a b c Y Z id v=>KD a b c [[48]] (.own id 0 1) (.sl 1 [[str [48]]]) Y (qv Y id none) Z (by simp[v]) rfl (fun h=>by cases h)
 simp[A2,str]at f;rcases(by omega:i=0\/i=1\/i=2)with rfl|rfl|rfl
 ·simp[Part.V,r];rw[zH];simp;rw[zH];simp;rw[zH];simp;rw[j7 (yd (Yw (by simp;exact⟨rfl,rfl,rfl⟩) (by simp;exact⟨rfl,rfl,rfl⟩) (by omega) (by simp;rfl) rfl) (yd (jN (by simp;rfl)) (Yv _)))
   (xl (by simp;exact⟨rfl,rfl,rfl⟩) (by simp) (by simp;rfl) rfl (xl (by simp;exact⟨rfl,rfl,rfl⟩) (by simp) (by simp;rfl) rfl (kz (by simp;rfl) (JV _))))]
  simp[f,z8,qB,zp,zE,zo,qi,kX,jk,vD,Cut.V,wy.V,f214]
 ·simp[Part.V,t];rw[zH];simp;rw[zH];simp;rw[j7 (yd (Yw (by simp;exact⟨rfl,rfl,rfl⟩) (by simp;exact⟨rfl,rfl,rfl⟩) (by omega) (by simp;rfl) rfl) (yd (jN (by simp;rfl)) (Yv _)))
   (xl (by simp;exact⟨rfl,rfl,rfl⟩) (by simp) (by simp;rfl) rfl (xl (by simp;exact⟨rfl,rfl,rfl⟩) (by simp) (by simp;rfl) rfl (kz (by simp;rfl) (JV _))))]
  simp[f,z8,qB,zp,zE,zo,qi,kX,jk,vD,Cut.V,wy.V,f214]
 ·simp[Part.V,u];rw[zH];simp;rw[j7 (yd (Yw (by simp;exact⟨rfl,rfl,rfl⟩) (by simp;exact⟨rfl,rfl,rfl⟩) (by omega) (by simp;rfl) rfl) (yd (jN (by simp;rfl)) (Yv _)))
   (xl (by simp;exact⟨rfl,rfl,rfl⟩) (by simp) (by simp;rfl) rfl (xl (by simp;exact⟨rfl,rfl,rfl⟩) (by simp) (by simp;rfl) rfl (kz (by simp;rfl) (JV _))))]
  simp[f,z8,qB,zp,zE,zo,qi,kX,jk,vD,Cut.V,wy.V,f214]
noncomputable def FPi (f:Part->Nat->O):zb->Option O:=ql (α:=Part×Nat) (fun a=>[.agg a.1.V,int a.2]) (fun a=>a.1.ok/\a.2<3) (fun a=>f a.1 a.2)
theorem zcv:∀a b:Part×Nat,[O.agg a.1.V,int a.2]=[O.agg b.1.V,int b.2]->a=b:=by rintro⟨h,d⟩ ⟨i,f⟩ e;simp only[zk,zI]at e;obtain⟨c,g⟩:=e;injection c with c;have:=qV g;rw[mN c,show d=f by omega]
theorem B6(f:Part->Nat->O)(p:Part)(i:Nat)(u:O)(Y:Hp)(Z:Nat)(h:p.ok)(hi:i<3)(b:(Sh.g VU).fix u=.agg p.V)(c:qA Y u=some (u,Y))(d:u.noOwn=true):qn [.g VU] (FPi f) [u,int i] Y Z=some (f p i,Y,Z):=
 vN (show zD Y [u,int i]=some ([u,int i],Y) by simp only[zD,c];rfl) (by show FPi f [(Sh.g VU).fix u,int i]=_;rw[b];exact qF (V:=fun a:Part×Nat=>[O.agg a.1.V,int a.2]) (a:=(p,i)) zcv ⟨h,hi⟩) (.inr (by rw[wI,d];rfl))
theorem cS:zg prog 214 (qn [.g VU] (FPi kX)):=
 wO (fn:=f214) TR (qD func214) _ _ fun args r h=>by obtain⟨⟨p,i⟩,rfl,⟨a,b⟩,rfl⟩:=zN h;obtain⟨c,d,e⟩:=B5 p i b a;exact⟨by simp[f214],c,d,e⟩
def vy(p:Part):Cut:=if p.has<3 then jk p (p.has-1).toNat else⟨⟨p.n0,p.n1,p.n2,p.pre⟩,true⟩
def Qt(p:Part):Bool:=if p.has<3 then vD p (p.has-1).toNat else true
def Je(p:Part):O:=.wG [.agg (vy p).V,qS (Qt p)]
noncomputable abbrev Chi:Ctx:=zR prog [(248,YJ [.a,.s 1 []] FG),(214,qn [.g VU] (FPi kX))]
theorem zcw:Gd Chi:=zU mixed ⟨Jw,cS,trivial⟩
@[simp]theorem iY(p:Part)(Y:Hp):qA Y (.agg p.V)=some (.agg p.V,Y):=by simp[Part.V]
theorem LC(p:Part)(Y:p.ok):zq Chi f213 [.agg p.V]=some (Je p):=by
 have a:=Y;obtain⟨_,_,_,⟨g,h⟩,_⟩:=Y;refine zm rfl ?_;have b:=fun Y Z=>B6 kX p (p.has-1).toNat (.agg p.V) Y Z a (by omega) (by simp[Part.V]) (iY p Y) (by simp[Part.V])
 have e:(((p.has-1).toNat:Nat):Int)=p.has-1:=by omega
 have f:=wz (p.has-1);rw[e]at b;have c:=fun Y Z=>KD p.n0 p.n1 p.n2 p.pre (.sl 1 (zy p.pre)) (.sl 1 (zy p.pre)) Y Y Z (by simp) rfl (fun _=>rfl)
 simp[A2]at c;simp only[Part.V]at b;by_cases d:p.has<3
 ·simp[Part.V,d,b,f,Je,vy,Qt,kX,Cut.V,wa,f213]
 ·simp[Part.V,d,c,Je,vy,Qt,Cut.V,wy.V,z8,qB,wa,f213]
theorem FJ:zg prog 213 (qn [.g VU] (FPa Je)):=
 wO (fn:=f213) zcw (qD func213) _ _ fun args r h=>by obtain⟨p,rfl,a,rfl⟩:=zN h;exact⟨by simp[f213],_,LC p a,qX.refl _⟩
noncomputable def eU (a b:Cut):List qK:=if 0<=wb a b then[]else[bE a b]
noncomputable def KE (a b:Cut):O:=.sl 11 (zW (eU a b))
noncomputable abbrev Cbt:Ctx:=zR prog [(216,qn [.g jm,.g jm] (um fun v w=>int (wb v w)))]
theorem zcx:Gd Cbt:=zU mixed ⟨xB,trivial⟩
theorem ur(x y:Cut)(c:x.v.small)(d:y.v.small):∃b,zq Cbt f212 [.agg x.V,.agg y.V]=some b/\qX b (KE x y):=by
 refine Yn (sh:=.s 11 jn) rfl ?_;have a:=fun Y Z=>uo x y (.agg x.V) (.agg y.V) Y Z (by simp[Cut.V]) (by simp[Cut.V]) (by simp[Cut.V]) c d
 simp only[Cut.V]at a;by_cases h:0<=wb x y
 ·simp[Cut.V,a,h,cG,KE,eU,zW,f212]
 ·simp[Cut.V,a,h,z8,qB,zp,zE,zo,cG,KE,eU,zW,bE,qK.V,f212]
theorem pt:zg prog 212 (qn [.g jm,.g jm] (um KE)):=
 wO (fn:=f212) zcx (qD func212) _ _ fun args r h=>by obtain⟨⟨v,w⟩,rfl,⟨a,b⟩,rfl⟩:=zN h;obtain⟨c,d,e⟩:=ur v w a b;exact⟨by simp[f212],c,d,e⟩
structure xH where
 sign:List UInt8
 p:Part
 tu:Part
def xH.V(c:xH):zb:=[str c.sign,int c.p.n0,int c.p.n1,int c.p.n2,int c.p.has,.sl 1 (zy c.p.pre),int c.tu.n0,int c.tu.n1,int c.tu.n2,int c.tu.has,.sl 1 (zy c.tu.pre)]
abbrev uu:List (Option Nat):=[none,none,none,none,none,some 1,none,none,none,none,some 1]
theorem LD{a b:xH}(h:a.V=b.V):a=b:=by obtain⟨q,⟨r,s,t,u,v⟩,⟨w,x,y,z,e⟩⟩:=a;obtain⟨A,⟨B,C,D,E,F⟩,⟨G,H,I,J,f⟩⟩:=b;simp only[xH.V,zk,zI]at h;obtain⟨g,i,j,k,l,d,m,n,o,p,c⟩:=h;injection d with _ d;injection c with _ c;rw[wR g,qV i,qV j,qV k,qV l,ji d,qV m,qV n,qV o,qV p,ji c]
def jq:za:=[97,108,108]
def xH.ok(c:xH):Prop:=c.sign.length<=zu/\(c.sign=jq\/(c.p.ok/\(c.sign=[45]->c.tu.ok)))
def jB(p:Part):Nat:=if 1<p.has/\p.n0=0 then(if 2<p.has/\p.n1=0 then 2 else 1)else 0
theorem LF(p:Part):jB p<3:=by unfold jB;split<;>(try split)<;>omega
noncomputable def vu (c:xH):List qK×Bool:=
 if c.sign=jq then([w5 qU],true)
 else if c.sign=[62,61]then([w5 (ZA c.p)],true)
 else if c.sign=[60]then(eU qU (ZA c.p),true)
 else if c.sign=[62]then([w5 (vy c.p)],Qt c.p)
 else if c.sign=[60,61]then(eU qU (vy c.p),Qt c.p)
 else if c.sign=[45]then(eU (ZA c.p) (vy c.tu),Qt c.tu)
 else if c.sign=[126]then(eU (ZA c.p) (jk c.p (min (c.p.has-1) 1).toNat),vD c.p (min (c.p.has-1) 1).toNat)
 else if c.sign=[94]then(eU (ZA c.p) (jk c.p (jB c.p)),vD c.p (jB c.p))
 else(eU (ZA c.p) (vy c.p),Qt c.p)
noncomputable def Jy (c:xH):O:=.wG [.sl 11 (zW (vu c).1),qS (vu c).2]
def lowP(p:Part):O:=.agg (ZA p).V
def eV:O:=.agg qU.V
noncomputable abbrev Cstt:Ctx:=zR prog [(211,qn [.g VU] (FPt lowP)),(213,qn [.g VU] (FPa Je)),(214,qn [.g VU] (FPi kX)),(210,qn [] (YK eV)),(167,qn [] (YK bF)),(212,qn [.g jm,.g jm] (um KE))]
theorem TS:AM.Good Cstt (fun g=>[210,212].contains g):=qw mixed ⟨LB,by simp,FJ,by simp,cS,by simp,gB,fun _=>yG _ _,JU,by simp,pt,fun _=>yG _ _,trivial⟩
theorem uv:qU.v.small:=⟨by decide,fun p Y=>by simp[qU]at Y;subst Y;decide⟩
theorem KF(p:Part)(i:Nat):(jk p i).v.small:=by
 have h:(jk p i).v.pre=[[48]]:=by unfold jk;split<;>rfl
 exact⟨by rw[h];decide,fun q a=>by rw[h]at a;simp at a;subst a;decide⟩
theorem Z9{p:Part}(h:vt p.pre):(ZA p).v.small:=h
theorem Q4{p:Part}(h:vt p.pre):(vy p).v.small:=by
 unfold vy;split
 ·exact KF _ _
 ·exact h
theorem uw(c:Cut):(Sh.g jm).fix (.agg c.V)=.agg c.V:=by simp[Cut.V]
theorem OK(c:Cut)(Y:Hp):qA Y (.agg c.V)=some (.agg c.V,Y):=by simp[Cut.V]
theorem Wi(x y:Cut)(Y:Hp)(Z:Nat)(b:x.v.small)(c:y.v.small):qn [.g jm,.g jm] (um KE) [.agg x.V,.agg y.V] Y Z=some (KE x y,Y,Z):=
 vN (show zD Y [.agg x.V,.agg y.V]=some ([.agg x.V,.agg y.V],Y) by simp only[zD,OK]) (by show um _ [(Sh.g jm).fix (.agg x.V),(Sh.g jm).fix (.agg y.V)]=_;rw[uw,uw];exact qF (V:=fun a:Cut×Cut=>[O.agg a.1.V,.agg a.2.V]) (a:=(x,y)) OA ⟨b,c⟩) (.inr (by simp[Cut.V]))
theorem mO(c:xH)(S:c.ok):∃r0,zq Cstt f168 [.agg c.V]=some r0/\qX r0 (Jy c):=by
 obtain⟨h,p,T⟩:=c;obtain⟨_,S⟩:=S;simp only at S;refine yB (sh:=.s 11 jn) rfl ?_;have e:=fun Y Z=>OI lowP p Y Z
 have J:∀(Y:Hp) (Z:Nat),qn [] (YK eV) [] Y Z=some (.agg [int qU.v.a,int qU.v.b,int qU.v.c,.sl 1 (zy qU.v.pre),qS qU.after],Y,Z):=fun Y Z=>Q3 _ Y Z
 have X:∀(Y:Hp) (Z:Nat),qn [] (YK bF) [] Y Z=some (.sl 11 (zW [w5 qU]),Y,Z):=fun Y Z=>Q3 _ Y Z
 simp only[lowP,Part.V,Cut.V]at e;by_cases K:h=jq
 ·subst K;simp[xH.V,e,X,jq,qi,Jy,vu,zW,w5,qK.V,Cut.V,QM,f168]
 obtain⟨Y,ht⟩:=S.resolve_left K;have B:vt p.pre:=Y.2.2.2.2;have k:(h==[97,108,108])=false:=by simpa[jq]using K
 by_cases W:h=[62,61]
 ·subst W;simp[xH.V,e,k,z8,qB,zp,zE,zo,jq,qi,Jy,vu,zW,w5,qK.V,Cut.V,QM,f168]
 have l:=wU W;have L:=fun Y Z=>Wi qU (ZA p) Y Z uv (Z9 B)
 have M:=fun Y Z=>Wi qU (vy p) Y Z uv (Q4 B)
 have G:=fun I Z=>B4 Je p (.agg p.V) I Z Y (by simp[Part.V]) (iY p I) (by simp[Part.V])
 simp only[KE,Je,Part.V,Cut.V]at L M G;by_cases s2:h=[60]
 ·subst s2;simp[xH.V,e,J,L,k,l,jq,qi,Jy,vu,zW,qK.V,Cut.V,f168]
 have m:=wU s2;by_cases s3:h=[62]
 ·subst s3;simp[xH.V,e,G,k,l,m,z8,qB,zp,zE,zo,jq,qi,Jy,vu,zW,w5,qK.V,Cut.V,QM,f168]
 have q:=wU s3;by_cases s4:h=[60,61]
 ·subst s4;simp[xH.V,e,G,J,M,k,l,m,q,z8,qB,zp,zE,zo,jq,qi,Jy,vu,zW,w5,qK.V,Cut.V,QM,f168]
 have r:=wU s4;by_cases s5:h=[45]
 ·subst s5;have N:=ht rfl;have P:=fun Y Z=>Wi (ZA p) (vy T) Y Z (Z9 B) (Q4 N.2.2.2.2)
  have Q:=fun I Z=>B4 Je T (.agg T.V) I Z N (by simp[Part.V]) (iY T I) (by simp[Part.V])
  simp only[KE,Je,Part.V,Cut.V]at P Q;simp[xH.V,e,Q,P,k,l,m,q,r,z8,qB,zp,zE,zo,jq,qi,Jy,vu,zW,w5,qK.V,Cut.V,QM,f168]
 have t:=wU s5;have u:=fun i (hi:i<3) I Z=>B6 kX p i (.agg p.V) I Z Y hi (by simp[Part.V]) (iY p I) (by simp[Part.V])
 have w:=fun i Y Z=>Wi (ZA p) (jk p i) Y Z (Z9 B) (KF p i)
 simp only[KE,kX,Part.V,Cut.V]at u w;have x:IntKind.i64.wrap (p.has-1)=p.has-1:=wu (by have:=Y.2.2.2.1;omega) (by have:=Y.2.2.2.1;omega);by_cases s6:h=[126]
 ·subst s6;have hm:(if 1<p.has-1 then 1 else p.has-1)=(((min (p.has-1) 1).toNat:Nat):Int):=by have:=Y.2.2.2.1;split<;>omega
  have d:=u (min (p.has-1) 1).toNat (by omega);rw[<-hm]at d;simp[xH.V,e,d,w,x,k,l,m,q,r,t,z8,qB,zp,zE,zo,jq,qi,Jy,vu,zW,w5,qK.V,Cut.V,QM,f168]
 have y:=wU s6;by_cases s7:h=[94]
 ·subst s7;have hs3:(2:Int)<p.has->p.has=3:=by have:=Y.2.2.2.1;omega
  by_cases n:1<p.has
  ·have f:(0:Int)<p.has-1:=by omega
   by_cases C:p.n0=0
   ·have g:(p.n0==0)=true:=by simpa using C
    by_cases D:2<p.has
    ·have j:(1:Int)<p.has-1:=by omega
     have E:¬(2:Int)<p.has-1:=by have:=Y.2.2.2.1;omega
     by_cases H:p.n1=0
     ·have z:(p.n1==0)=true:=by simpa using H
      have o:jB p=2:=by simp[jB,n,f,D,j,E,C,H]
      have d:=u 2 (by omega);rw[show((2:Nat):Int)=2 from rfl]at d;simp[xH.V,e,x,k,l,m,q,r,t,y,n,f,D,j,E,g,z,jq];rw[zH];simp[xH.V,e,x,k,l,m,q,r,t,y,n,f,D,j,E,g,z];rw[zH];simp[xH.V,e,x,k,l,m,q,r,t,y,n,f,D,j,E,g,z];rw[zH];simp[xH.V,e,x,k,l,m,q,r,t,y,d,w,o,n,f,D,j,E,g,z,z8,qB,zp,zE,zo,jq,qi,Jy,vu,zW,w5,qK.V,Cut.V,QM,f168]
     ·have A:=wU H;have o:jB p=1:=by simp[jB,n,f,D,j,C,H,A]
      have d:=u 1 (by omega);rw[show((1:Nat):Int)=1 from rfl]at d;simp[xH.V,e,x,k,l,m,q,r,t,y,n,f,D,j,g,A,jq];rw[zH];simp[xH.V,e,x,k,l,m,q,r,t,y,n,f,D,j,g,A];rw[zH];simp[xH.V,e,x,k,l,m,q,r,t,y,d,w,o,n,f,D,j,g,A,z8,qB,zp,zE,zo,jq,qi,Jy,vu,zW,w5,qK.V,Cut.V,QM,f168]
    ·have j:¬(1:Int)<p.has-1:=by omega
     have o:jB p=1:=by simp[jB,n,f,D,j,C]
     have d:=u 1 (by omega);rw[show((1:Nat):Int)=1 from rfl]at d;simp[xH.V,e,x,k,l,m,q,r,t,y,n,f,D,j,g,jq];rw[zH];simp[xH.V,e,x,k,l,m,q,r,t,y,n,f,D,j,g];rw[zH];simp[xH.V,e,x,k,l,m,q,r,t,y,d,w,o,n,f,D,j,g,z8,qB,zp,zE,zo,jq,qi,Jy,vu,zW,w5,qK.V,Cut.V,QM,f168]
   ·have F:=wU C;have o:jB p=0:=by simp[jB,n,f,C,F]
    have d:=u 0 (by omega);rw[show((0:Nat):Int)=0 from rfl]at d;simp[xH.V,e,x,k,l,m,q,r,t,y,n,f,F,jq];rw[zH];simp[xH.V,e,x,k,l,m,q,r,t,y,d,w,o,n,f,F,z8,qB,zp,zE,zo,jq,qi,Jy,vu,zW,w5,qK.V,Cut.V,QM,f168]
  ·have f:¬(0:Int)<p.has-1:=by omega
   have o:jB p=0:=by simp[jB,n,f]
   have d:=u 0 (by omega);rw[show((0:Nat):Int)=0 from rfl]at d;simp[xH.V,e,x,k,l,m,q,r,t,y,n,f,jq];rw[zH];simp[xH.V,e,x,k,l,m,q,r,t,y,d,w,o,n,f,z8,qB,zp,zE,zo,jq,qi,Jy,vu,zW,w5,qK.V,Cut.V,QM,f168]
 have e7:=wU s7;have R:=fun Y Z=>Wi (ZA p) (vy p) Y Z (Z9 B) (Q4 B)
 simp only[KE,Cut.V]at R;simp only[jq]at K;have e1':=W;simp[xH.V,e,G,R,k,l,m,q,r,t,y,e7,K,W,s2,s3,s4,s5,s6,s7,z8,qB,zp,zE,zo,jq,qi,Jy,vu,zW,w5,qK.V,Cut.V,QM,f168]
noncomputable def FCm (f:xH->O):zb->Option O:=ql (α:=xH) (fun c=>[.agg c.V]) xH.ok f
theorem iy:zg prog 168 (qn [.g uu] (FCm Jy)):=
 wO (fn:=f168) TS (qD func168) _ _ fun args r h=>by obtain⟨c,rfl,a,rfl⟩:=zN h;obtain⟨b,d,e⟩:=mO c a;exact⟨by simp[f168],b,d,e⟩
def wo:List za:=[[62,61],[60,61],[62],[60],[61],[126],[94]]
def wB:List za->za->za×za
 |[],s=>([],s)
 |g::l,s=>if g.isPrefixOf s=true then(g,s.drop g.length)else wB l s
def TT(s:za):O:=.wG [str (wB wo s).1,str (wB wo s).2]
noncomputable abbrev Cop:Ctx:=zR prog [(247,zh false [] (Zr TJ fun _ _=>True))]
theorem zcy:Gd Cop:=zU mixed ⟨im,trivial⟩
theorem px(s:za)(h:s.length<=zu):zq Cop f208 [str s]=some (TT s):=by
 refine zm rfl ?_;have l:∀Y Z,zp prog Y Z 33 7 [(0,str [62,61]),(1,str [60,61]),(2,str [62]),(3,str [60]),(4,str [61]),(5,str [126]),(6,str [94])]=some (.own Z 0 7,qv Y Z (some ⟨9,1,true,zy wo⟩),Z+1):=fun Y Z=>by simp[zp,zE,zo,wo,str]
 simp[str]at l;simp[l];refine zP (fun k U Y Z=>U 0=str s/\U 8=.own 0 0 7/\U 9=int 7/\U 10=int k/\Y 0=some ⟨9,1,true,zy wo⟩/\wB wo s=wB (wo.drop k) s) 7 ⟨by simp,by simp,by simp,by simp,by simp,by simp⟩ ?_;rintro k U Y Z r ⟨f,g,i,b,m,a⟩;by_cases c:k<7
 ·have e:k<wo.length:=c;have j:wo[k].length<=zu:=by
   have:∀q∈wo,q.length<=zu:=by decide
   exact this _ (zj e)
  have n:=fun Y Z=>HM s wo[k] Y Z h j
  have o:=qG k;have d:(k:Int)<7:=by omega
  rw[ze e]at a;simp only[wB]at a;by_cases Y:(wo[k]).isPrefixOf s=true
  ·rw[zd Y]at a;simp[f,g,i,b,m,d,c,e,n,Y,o,TT,a,wa,f208]
  ·rw[zc Y]at a;have p:(wo[k]).isPrefixOf s=false:=Bool.eq_false_iff.2 Y;simp[f,g,i,b,m,d,c,e,n,p,o];exact⟨by omega,a⟩
 ·obtain rfl:k=7:=by omega
  rw[show wo.drop 7=[]from rfl]at a;simp only[wB]at a;simp[f,g,i,b,TT,a,wa, f208]
theorem mP:zg prog 208 (zh false [] (Nn TT)):=
 xy zcy func208 false [] fun l Y=>⟨by simp[f208],_,px l Y,qb _⟩
def oV(l:za):Bool:=l.isEmpty
theorem mQ:zg prog 206 (zh false [] (FS oV)):=
 xy jG func206 false [] fun l Y=>⟨by simp[f206],_,zm rfl (by simp[wa,oV,f206]),qb _⟩
def eW:Nat->List za->Int
 |_,[]=>-1
 |k,x::l=>if x=[]then k else eW (k+1) l
def iZ:O:=.fn (.func 206) [] []
noncomputable def FIx:zb->Option O:=ql (α:=List za) (fun l=>[.sl 1 (zy l),iZ]) vt (fun l=>int (eW 0 l))
noncomputable abbrev Cixf:Ctx:=zR prog [(206,zh false [] (FS oV))]
theorem TU:Gd Cixf:=zU mixed ⟨mQ,trivial⟩
theorem iz(l:List za)(h:vt l):zq Cixf f149 [.sl 1 (zy l),iZ]=some (int (eW 0 l)):=by
 refine zm rfl ?_;obtain⟨o,e⟩:=h;unfold zu at o;simp[iZ];refine zP (fun k U Y Z=>U 0=.sl 1 (zy l)/\U 1=iZ/\U 7=int l.length/\U 8=int k/\eW 0 l=eW k (l.drop k)) l.length ⟨by simp,by simp[iZ],by simp,by simp,by simp⟩ ?_;rintro k U Y Z q ⟨f,g,i,j,b⟩;by_cases a:k<l.length
 ·have m:=qG k;have n:=fun p Z=>ki oV l[k] p Z (e _ (zj a))
  rw[ze a]at b;simp only[eW]at b;by_cases d:l[k]=[]
  ·rw[zd d]at b;have c:oV l[k]=true:=by simpa[oV]using d
   simp[f,g,i,j,iZ,a,n,c,m,b,wa,f149]
  ·rw[zc d]at b;have c:oV l[k]=false:=by simpa[oV]using d
   simp[f,g,i,j,iZ,a,n,c,m];exact⟨a,b⟩
 ·obtain rfl:k=l.length:=by omega
  rw[zn]at b;simp only[eW]at b;simp[f,g,i,j,b,wa,f149]
theorem OL:∀a b:List za,[O.sl 1 (zy a),iZ]=[O.sl 1 (zy b),iZ]->a=b:=fun a b e=>by
 simp only[zk,zI]at e;injection e with _ e
 exact ji e
theorem eX:zg prog 149 (zh false [] FIx):=
 xy TU func149 false [] fun l Y=>⟨by simp[f149],_,iz l Y,qb _⟩
theorem OM(l:List za)(Y:Hp)(Z id:Nat)(h:vt l)(b:Y id=some (Kz l)):zh false [] FIx [.own id 0 l.length,iZ] Y Z=some (int (eW 0 l),Y,Z):=by
 have c:(zy l).take l.length=zy l:=qx (by simp);refine yA (show zD Y [.own id 0 l.length,iZ]=some ([.sl 1 (zy l),iZ],qv Y id none) by have:Y id=some ⟨9,1,true,zy l⟩:=b;simp[iZ,this,c]) (qF (V:=fun l:List za=>[O.sl 1 (zy l),iZ]) (a:=l) OL h) (.inl rfl)
def wq(l:List za):List za:=l.filter fun x=>!oV x
theorem sd:∀(l:List za) (k:Nat),(eW k l=-1/\wq l=l)\/∃i,∃h:i<l.length,eW k l=((k+i:Nat):Int)/\oV l[i]=true/\wq (l.take i)=l.take i
 |[],k=>.inl ⟨rfl,rfl⟩
 |x::l,k=>by
  by_cases a:x=[]
  ·exact .inr ⟨0,by simp,by simp[eW,a],by simp[oV,a],by simp[wq]⟩
  ·have b:oV x=false:=by simpa[oV]using a
   rcases sd l (k+1)with⟨c,d⟩|⟨i,h,c,d,e⟩
   ·exact .inl ⟨by simp[eW,a,c],by simp only[wq,Sg,b];simpa[wq]using d⟩
   ·refine .inr ⟨i+1,by simpa using h,by simp only[eW,zc a,c];congr 1;omega,by simpa using d,?_⟩;simp only[xZ,wq,Sg,b];simpa[wq]using e
theorem KG{l:List za}{j:Nat}(h:j<l.length):wq (l.take (j+1))=if oV l[j]=true then wq (l.take j)else wq (l.take j)++[l[j]]:=by rw[qq h];simp only[wq,List.filter_append,Sg,List.filter_nil];cases oV l[j]<;>simp
theorem gC(a b:List za):zy (a++b)=zy a++zy b:=by simp[zy]
theorem LG{l:List za}{i:Nat}(h:i<l.length):zy l=zy (l.take i)++[str l[i]]::zy (l.drop (i+1)):=by rw[<-XO,<-gC,<-ze h,kb]
noncomputable abbrev Cdf:Ctx:=zR prog [(206,zh false [] (FS oV)),(149,zh false [] FIx)]
theorem zcz:Gd Cdf:=zU mixed ⟨mQ,eX,trivial⟩
theorem eY:zg prog 205 (yr Cdf f205):=ky zcz func205
def DelQ(l:List za)(id:Nat)(Y:Hp)(Z:Nat)(x:O)(b:Hp)(c:Nat):Prop:=x=.own id 0 (wq l).length/\c=Z/\(∃a,b id=some ⟨9,1,true,zy (wq l)++a⟩)/\∀j,j≠id->b j=Y j
theorem FK(l:List za)(E:Hp)(Z0 id:Nat)(h:vt l)(F:E id=some (Kz l)):∃x R Z',yr Cdf f205 [.own id 0 l.length,iZ] E Z0=some (x,R,Z')/\DelQ l id E Z0 x R Z':=by
 unfold yr;rw[zd (by simp[f205])];refine qE rfl ?_;have n:=OM l E Z0 id h F;obtain⟨hl,T⟩:=h;unfold zu at hl;simp only[iZ]at n;have G:E id=some ⟨9,1,true,zy l⟩:=F;rcases sd l 0 with⟨W,H⟩|⟨i,hi,W,H,X⟩
 ·rw[W]at n;simp[iZ,n,DelQ,H,f205];exact⟨[],by simpa using G⟩
 ·rw[W]at n;have hi1:((i:Int)==-1)=false:=by simp
  have w:=qG i;simp[iZ,n,hi1,w];refine zP (fun k U Y Z=>U 0=.own id 0 l.length/\U 1=iZ/\U 5=int (wq (l.take (i+1+k))).length/\U 6=int ((i:Int)+1+k)/\Z=Z0/\(∀j,j≠id->Y j=E j) /\
    ∃a,Y id=some ⟨9,1,true,zy (wq (l.take (i+1+k)))++a++zy (l.drop (i+1+k))⟩/\(wq (l.take (i+1+k))).length+a.length=i+1+k/\0<a.length/\∀c∈a,c.length=1) (l.length-(i+1))
   ⟨by simp,by simp[iZ],by simp[KG hi,H,X];omega,by simp,rfl,fun _ _=>rfl,[[str l[i]]],by simp[KG hi,H,X,G];exact LG hi,by simp[KG hi,H,X];omega,by simp,by simp⟩ ?_
  rintro k U Y Z hk ⟨h0,h1,I,h6,rfl,z,a,s,A,J,B⟩;obtain⟨j,hj⟩:=jc (i+1+k);have C:U 6=int j:=by rw[h6];congr 2;omega
  rw[hj]at I s A;by_cases g:j<l.length
  ·have hc:=fun R Z=>ki oV l[j] R Z (T _ (zj g))
   have K:=qG j;have hww:=wz (((wq (l.take j)).length:Int)+1);have u:(zy (wq (l.take j))++a++zy (l.drop j))[j]?=some [str l[j]]:=by rw[zS (by simp;omega),ze g,XO];rw[show j-(zy (wq (l.take j))++a).length=0 by simp;omega];rfl
   have o:(zy (wq (l.take j))++a++zy (l.drop j)).length=l.length:=by simp;omega
   obtain⟨d,f⟩:=jc (zy (wq (l.take j))++a++zy (l.drop j));rw[f]at s u o;have p:∀h:j<d.length,d[j]=[str l[j]]:=fun h=>(zi.1 u).2
   have t:=KG g;have L:i+1+(k+1)=j+1:=by omega
   have w:(wq (l.take j)).length<l.length:=by omega
   cases S:oV l[j]
   ·rw[S,zc (by simp)]at t;obtain⟨y,b,rfl,D⟩:∃y b,a=[y]::b/\∀c∈b,c.length=1:=by
     cases a with
     |nil=>simp at J
     |cons x b=>
      have:=B x (by simp)
      match x,this with
      |[y],_=>exact⟨y,b,rfl,fun c hc=>B c (by simp[hc])⟩
    have hg3:∀h:(wq (l.take j)).length<d.length,d[(wq (l.take j)).length]=[y]:=fun h=>by
     have:d[(wq (l.take j)).length]?=some [y]:=by rw[<-f,qM,zS (by simp)];simp
     exact(zi.1 this).2
    have M:d.set (wq (l.take j)).length [str l[j]]=zy (wq (l.take j))++([str l[j]]::b++zy (l.drop j)):=by rw[<-f,qM,List.set_append_right _ _ (by simp)];simp
    simp only[zO]at A;simp[h0,h1,I,C,iZ,g,s,p,hc,S,K,hww,w,o,hg3,M,L,t];refine⟨by omega,by omega,fun q N=>by rw[zx _ _ _ _ N];exact z q N,b++[[str l[j]]],?_,by simp;omega,by simp,?_⟩
    ·rw[gC];simp;rw[ze g,XO]
    ·intro c hc;rcases zM.1 hc with hc|hc
     ·exact D c hc
     ·simp at hc;subst hc;rfl
   ·rw[S,zd rfl]at t;simp[h0,h1,I,C,iZ,g,s,p,hc,S,K,L,t,o];refine⟨by omega,by omega,z,a++[[str l[j]]],?_,by simp;omega,by simp,?_⟩
    ·rw[<-f];simp;rw[ze g,XO]
    ·intro c hc;rcases zM.1 hc with hc|hc
     ·exact B c hc
     ·simp at hc;subst hc;rfl
  ·obtain rfl:j=l.length:=by omega
   rw[wF]at I s A;rw[zn,Oi,yU]at s;have hn1:¬(l.length:Int)<l.length:=by omega
   have v:(wq l).length<=l.length:=by omega
   have m:l.length-(wq l).length=a.length:=by omega
   have hcl:ej prog Y Z 33 (.own id (wq l).length a.length)=some (.wG [],qv Y id (some ⟨9,1,true,zy (wq l)++List.replicate a.length [str []]⟩),Z):=by
    have ht:(zy (wq l)++a).take (wq l).length=zy (wq l):=by rw[List.take_append_of_le_length (by simp),Lx]
    have hd:(zy (wq l)++a).drop ((wq l).length+a.length)=[]:=vi (by simp);simp[ej,s,ht,hd,J,str]
   have hs1:∀Y:Hp,Y id=some ⟨9,1,true,zy (wq l)++a⟩->jy prog Y 33 (.own id 0 l.length) (some (some (int (wq l).length))) none=some (.own id (wq l).length a.length):=fun Y F=>by
    have:¬l.length=(wq l).length:=by omega
    simp[jy,F,kJ,v,m,this];intro e;rw[e]at m⊢;simp at m;simp[m]
   have hs2:∀(Y:Hp) (r:List zb),Y id=some ⟨9,1,true,r⟩->jy prog Y 33 (.own id 0 l.length) none (some (some (int (wq l).length)))=some (.own id 0 (wq l).length):=fun Y r F=>by simp[jy,F,kJ,v]
   have P:=hs1 Y s;have Q:=hs2 (qv Y id (some ⟨9,1,true,zy (wq l)++List.replicate a.length [str []]⟩)) _ (by simp;rfl);simp[h0,h1,I,C,iZ,s,P,Q,hcl,f205];exact⟨rfl,rfl,⟨_,by simp;rfl⟩,fun q N=>by rw[zx _ _ _ _ N];exact z q N⟩
def eZ:xH:=⟨jq,q9,q9⟩
def JW(a:za)(p:Part):xH:=⟨a,p,q9⟩
def km(w:za)(l:List za):Option (xH×List za):=
 if(wB wo w).1=[]/\yh (wB wo w).2=true then some (eZ,l)
 else if(wB wo w).1≠[]/\(wB wo w).2=[]/\l≠[]then(match l with
  |r::l'=>if(zQ r).2=true then some (JW (wB wo w).1 (zQ r).1,l')else none
  |[]=>none)
 else if(zQ (wB wo w).2).2=true then some (JW (wB wo w).1 (zQ (wB wo w).2).1,l)else none
def yu:Nat->List za->Option (List xH)
 | 0,_=>some []
 |_+1,[]=>some []
 |n+1,w::l=>match km w l with
  |some (c,l')=>(yu n l').map (c::·)
  |none=>none
theorem ON{w:za}{l l':List za}{c:xH}(h:km w l=some (c,l')):l'.length<=l.length:=by
 unfold km at h;split at h
 ·injection h with h;injection h with _ h;subst h;exact zf _
 ·split at h
  ·split at h
   ·split at h
    ·injection h with h;injection h with _ h;subst h;simp
    ·cases h
   ·cases h
  ·split at h
   ·injection h with h;injection h with _ h;subst h;exact zf _
   ·cases h
def QK(t:za):List xH×Bool:=
 match wq (qc t [32])with
 |[a,b,c]=>if b=[45]then([⟨[45],(zQ a).1,(zQ c).1⟩],(zQ a).2&&(zQ c).2)else(match yu 3 [a,b,c]with
  |some l=>(l,!l.isEmpty)
  |none=>([],false))
 |ws=>match yu ws.length ws with
  |some l=>(l,!l.isEmpty)
  |none=>([],false)
def ZB(l:List xH):List zb:=l.map xH.V
def ux(t:za):O:=.wG [.sl 11 (ZB (QK t).1),qS (QK t).2]
theorem KH:∀(a:List za) (s:za),(wB a s).2.length<=s.length
 |[],s=>zf _
 |g::l,s=>by
  simp only[wB];split
  ·simp
  ·exact KH l s
noncomputable abbrev Calt:Ctx:=zR prog [(162,yR [] FSp),(205,yr Cdf f205),(207,zh false [] (YY jS)),(208,zh false [] (Nn TT)),(209,zh false [] (FS yh))]
theorem TV:AM.Good Calt (fun g=>[209].contains g):=qw mixed ⟨Ww,by simp,eY,by simp,cL,by simp,mP,by simp,my,fun _=>zt _ _,trivial⟩
def JX:O->Nat
 | .own _ _ n=>n
 |_=>0
def OO(b:List za)(c:List zb)(st:St):Prop:=∃f a l xs,a.length<=f/\xs.length+a.length<=b.length/\b.drop (b.length-a.length)=a/\(a=[]/\st.U 4=.sl 1 []\/st.U 4=.own 0 (b.length-a.length) a.length) /\
 qT st.Y st.Z 173 11 (st.U 9) xs/\(∀n,st.U 9≠.own 0 0 n)/\xs.map (QJ uu)=ZB l/\1<=st.Z/\st.Y 0=some ⟨9,1,true,c⟩/\yu b.length b=(yu f a).map (l++·)
theorem sl1(Y:Hp)(a:List zb)(o n:Nat)(b:Y 0=some ⟨9,1,true,a⟩):jy prog Y 33 (.own 0 o (n+1)) (some (some (int 1))) none=some (if n=0 then .sl 1 []else .own 0 (o+1) n):=by simp[jy,b,kJ]
theorem ZC{b a}{f':Nat}{l':List za}{l:List xH}{c:xH}{xs:List zb}{d:zb}{st:St}{v4:O}(k:l'.length<=f')(r:xs.length+1+l'.length<=b.length)(f:b.drop (b.length-l'.length)=l')(m:st.U 4=v4)(g:l'=[]/\v4=.sl 1 []\/v4=.own 0 (b.length-l'.length) l'.length)
  (o:qT st.Y st.Z 173 11 (st.U 9) (xs++[d])) (h:∀n,st.U 9≠.own 0 0 n) (e:QJ uu d=c.V) (i:xs.map (QJ uu)=ZB l) (j:1<=st.Z) (p:st.Y 0=some ⟨9,1,true,a⟩) (q:yu b.length b=(yu f' l').map ((l++[c])++·)):OO b a st:=
 ⟨f',l',l++[c],xs++[d],k,by simp;omega,f,by rw[m];exact g,o,h,by simp[i,e,ZB],j,p,q⟩
theorem B7(f:Nat):yu f []=some []:=by cases f<;>rfl
theorem e8(t:za)(ht:t.length+1<=zu):∃r0,zq Calt f166 [str t]=some r0/\qX r0 (ux t):=by
 refine yB (sh:=.s 11 uu) rfl ?_;have hsp:=fun Y Z=>ZW t [32] Y Z (by omega) (by decide) (by decide)
 have hpl:∀p∈qc t [32],p.length+1<=zu:=fun p Y=>by have:=vr Y;omega
 have Ng:vt (qc t [32]):=⟨by have:=xQ (s:=t) (sep:=[32]) (by simp);omega,fun p Y=>by have:=hpl p Y;omega⟩;obtain⟨x,Y1,nx1,Su,hx,hnx,⟨pad,hb⟩,Nt⟩:=FK (qc t [32]) (qv (fun _=>none) 0 (some ⟨9,1,true,zy (qc t [32])⟩)) 1 0 Ng (by simp);subst hx;subst hnx;obtain⟨g,hws⟩:=jc (wq (qc t [32]));have hwl:∀p∈g,p.length+1<=zu:=fun p Y=>hpl p (by rw[<-hws]at Y;exact(ah.1 Y).1)
 rw[hws]at Su hb;simp only[iZ]at Su;have E:g.length<=zu:=by
  have h1:=ic (fun x=>!oV x) (qc t [32]);have h2:=xQ (s:=t) (sep:=[32]) (by simp);have h3:g.length=(wq (qc t [32])).length:=by rw[hws]
  unfold wq at h3;omega
 have S5:=fun(p:za) (Y:p.length+1<=zu) B Z=>j6 jS p B Z Y
 simp[hsp,Su];by_cases hc:∃a c,g=[a,[45],c]
 ·obtain⟨a,c,rfl⟩:=hc;have ha:=fun B Z=>S5 a (hwl a (by simp)) B Z
  have hcc:=fun B Z=>S5 c (hwl c (by simp)) B Z
  simp only[jS,Part.V]at ha hcc;have m:ux t=.wG [.sl 11 (ZB [⟨[45],(zQ a).1,(zQ c).1⟩]),qS ((zQ a).2&&(zQ c).2)]:=by simp only[ux,QK,hws,qH]
  rw[m];have hn:∀k,0<k->Y1 k=none:=fun k hk=>by rw[Nt k (by omega),zx _ _ _ _ (by omega)]
  simp[hb,ha,hcc,z8,qB,zp,zE,zo,qi,ZB,xH.V,f166]
 ·have m:ux t=(match yu g.length g with
   |some l=>.wG [.sl 11 (ZB l),qS (!l.isEmpty)]
   |none=>.wG [.sl 11 [],qS false]):=by
   have hR:QK t=(match yu g.length g with
    |some l=>(l,!l.isEmpty)
    |none=>([],false)):=by
    unfold QK;rw[hws]
    match g,hc with
    |[],_=>rfl
    |[_],_=>rfl
    |[_,_],_=>rfl
    |[a,b,c],hc=>
     have:¬b=[45]:=fun e=>hc ⟨a,c,by rw[e]⟩
     simp only[zc this];rfl
    |_::_::_::_::_,_=>rfl
   unfold ux;rw[hR];cases yu g.length g<;>rfl
  obtain⟨z,II⟩:=jc (zy g++pad);have hrl:g.length<=z.length:=by rw[<-II];simp
  have hat:∀k (h:k<g.length) (h':k<z.length),z[k]=[str g[k]]:=fun k h h'=>by subst II;rw[List.getElem_append_left (by simpa using h)];simp[zy]
  rw[II]at hb;clear II;by_cases h3:g.length=3
  ·have h31:=hat 1 (by omega) (by omega);have hne:(g[1]==[45])=false:=by
    match g,h3,hc with
    |[a,b,c],_,hc=>simpa using fun e=>hc ⟨a,c,by rw[e]⟩
   have h3l:1<z.length:=by omega
   have h33:((g.length:Int)==3)=true:=by simp[h3]
   simp[hb,h33,h3,h31,hne,h3l];refine Wu (OO g z) (fun st=>JX (st.U 4)) ⟨g.length,g,[],[],zf _,by simp,by simp,.inr (by simp;try omega),.inl ⟨by simp,rfl⟩,by simp,rfl,by simp,by simpa using hb,by simp⟩ ?_;clear Su Nt hsp;rintro⟨U,Y,Z⟩ ⟨f,rest,l,xs,hf,hxl,Hq,h4,S,hO0,F,hnx,J,R⟩;simp only at h4 S hO0 hnx J;cases rest with
   |nil=>
    rw[B7]at R;simp only[zC,yU]at R;rw[R]at m;rw[m];have Sv:xs.length=l.length:=by have:=zr List.length F;simpa[ZB]using this
    have hb1:(decide ((0:Int)<(xs.length:Int)))=!l.isEmpty:=by rw[Sv];cases l<;>simp
    have hb2:(decide (0<xs.length))=!l.isEmpty:=by rw[Sv];cases l<;>simp
    have Ve:U 4=.sl 1 []\/U 4=.own 0 g.length 0:=by
     rcases h4 with⟨_,h4⟩|h4
     ·exact .inl h4
     ·exact .inr (by simpa using h4)
    rcases S with⟨h9,rfl⟩|⟨id,hid,h9,hb9⟩
    ·simp[ZB]at F;subst F;rcases Ve with Ve|Ve<;>simp[Ve,h9,qi,ZB,f166]
    ·rcases Ve with Ve|Ve<;>simp[Ve,h9,hb9,hb1,hb2,F,qi,f166]
   |cons w l'=>
    obtain⟨f',rfl⟩:∃f',f=f'+1:=⟨f-1,by simp at hf;omega⟩;simp only[zO]at hf hxl Hq h4;obtain⟨o,ho⟩:=jc (g.length-(l'.length+1));rw[ho]at Hq h4;have Ve:U 4=.own 0 o (l'.length+1):=by
     rcases h4 with⟨h,_⟩|h
     ·cases h
     ·exact h
    have hol:o<g.length:=by omega
    have C:o<z.length:=by omega
    rw[ze hol]at Hq;injection Hq with hdw K
    have u:z[o]=[str w]:=by rw[hat o hol C,hdw]
    have hww:w.length+1<=zu:=hwl w (by rw[<-hdw];exact zj hol);have D:=fun B T=>cI TT w B T (by omega) rfl
    simp only[TT]at D;have W:(wB wo w).2.length+1<=zu:=by have:=KH wo w;omega
    have y:=fun B T=>ki yh (wB wo w).2 B T (by omega)
    obtain⟨v4,hv4⟩:=jc (if l'.length=0 then O.sl 1 []else .own 0 (o+1) l'.length);have hs1:=fun B (hh:B 0=some _)=>sl1 B z o l'.length hh
    rw[hv4]at hs1;have n:=hs1 Y J;have X:o+1=g.length-l'.length:=by omega
    have A:l'=[]/\v4=.sl 1 []\/v4=.own 0 (g.length-l'.length) l'.length:=by
     rw[<-hv4,<-X];by_cases h:l'.length=0
     ·exact .inl ⟨qy.1 h,zd h⟩
     ·exact .inr (zc h)
    have Sw:JX v4<l'.length+1:=by rcases A with⟨_,h⟩|h<;>rw[h]<;>simp[JX]
    have hl4:Ki prog 33 v4=some (int l'.length):=by
     rcases A with⟨h1,h⟩|h
     ·subst h1;rw[h];simp
     ·rw[h];simp
    rw[X]at K;have rn:=fun c S=>qT.jd (Y:=Y) (Z:=Z) (v:=U 9) (xs:=xs) (P:=prog) (t:=166) (c:=c) S aM aN aO aP rfl (by omega) (by unfold maxLen;unfold zu at E;omega) (by unfold zu at E;omega)
    by_cases hA:(wB wo w).1=[]/\yh (wB wo w).2=true
    ·have L:km w l'=some (eZ,l'):=by unfold km;rw[zd hA]
     have i:yu g.length g=(yu f' l').map ((l++[eZ])++·):=by rw[R];simp only[yu,L];cases yu f' l'<;>simp
     have Sx:=rn [str jq,int 0,int 0,int 0,int 0,.nil,int 0,int 0,int 0,int 0,.nil] S;obtain⟨hA1,hA2⟩:=hA;simp only[jq]at Sx;simp[Ve,J,C,u,D,y,n,hA1,hA2,Sx,z8,qB,zp,zE,zo];have n0:¬0=Z:=by omega
     have n1:¬0=Z+1:=by omega
     have n2:¬0=Z+2:=by omega
     have Q:=fun B=>yM S B 0 hO0
     exact⟨ZC (v4:=v4) (c:=eZ) (f':=f') (l':=l') (l:=l) (xs:=xs) (by omega) (by omega) K (by simp) A (by simpa using qT.after) (by simp<;>omega) rfl F (by simp) (by simp[Q,n0,n1,n2,J]) i,by simpa[JX]using Sw⟩
    have n0:¬0=Z:=by omega
    have n1:¬0=Z+1:=by omega
    have n2:¬0=Z+2:=by omega
    have Q:=fun B=>yM S B 0 hO0
    by_cases hE:(wB wo w).1=[]
    ·have G:((wB wo w).1==[])=true:=by simpa using hE
     have H:(wB wo w).1.isEmpty=true:=by simpa using hE
     have I:((wB wo w).1 != [])=false:=by simpa using hE
     have hOp:yh (wB wo w).2=false:=by
      cases h:yh (wB wo w).2
      ·rfl
      ·exact absurd ⟨hE,h⟩ hA
     have q:=fun B T=>S5 (wB wo w).2 W B T
     simp only[jS,Part.V]at q;cases d:(zQ (wB wo w).2).2
     ·have L:km w l'=none:=by unfold km;rw[zc hA,zc (fun h=>h.1 hE),zc (by rw[d];simp)]
      have i:yu g.length g=none:=by rw[R];simp only[yu,L];rfl
      rw[i]at m;simp[Ve,J,C,u,D,y,n,G,H,I,hOp,q,d,z8,qB,m,ZB,qi,f166]
     ·have L:km w l'=some (JW (wB wo w).1 (zQ (wB wo w).2).1,l'):=by unfold km;rw[zc hA,zc (fun h=>h.1 hE),zd d]
      have i:yu g.length g=(yu f' l').map ((l++[JW (wB wo w).1 (zQ (wB wo w).2).1])++·):=by rw[R];simp only[yu,L];cases yu f' l'<;>simp
      have j:=qT.jd (P:=prog) (t:=166) (c:=[str (wB wo w).1,int (zQ (wB wo w).2).1.n0,int (zQ (wB wo w).2).1.n1,int (zQ (wB wo w).2).1.n2,int (zQ (wB wo w).2).1.has,.sl 1 (zy (zQ (wB wo w).2).1.pre),int 0,int 0,int 0,int 0,.nil]) (S.more (some ⟨171,5,false,[(zQ (wB wo w).2).1.V]⟩)) aM aN aO aP rfl (by omega) (by unfold maxLen;unfold zu at E;omega) (by unfold zu at E;omega);simp only[Part.V]at j;simp[Ve,J,C,u,D,y,n,G,H,I,hOp,q,d,j,z8,qB,zp,zE,zo];exact⟨ZC (v4:=v4) (c:=JW (wB wo w).1 (zQ (wB wo w).2).1) (f':=f') (l':=l') (l:=l) (xs:=xs) (by omega) (by omega) K (by simp) A (by simpa using qT.after) (by simp<;>omega) rfl F (by simp) (by simp[Q,n0,n1,n2,J]) i,by simpa[JX]using Sw⟩
    have G:=wU hE;have H:(wB wo w).1.isEmpty=false:=by simpa using hE
    have I:((wB wo w).1 != [])=true:=by simpa using hE
    by_cases hR:(wB wo w).2=[]
    ·have M:((wB wo w).2==[])=true:=by simpa using hR
     have N:(wB wo w).2.isEmpty=true:=by simpa using hR
     by_cases hL:l'=[]
     ·have hLz:l'.length=0:=by rw[hL];rfl
      have hLp:¬0<l'.length:=by omega
      have hLq:¬(0:Int)<(l'.length:Int):=by omega
      have q:=fun B T=>S5 (wB wo w).2 W B T
      simp only[jS,Part.V]at q;cases d:(zQ (wB wo w).2).2
      ·have L:km w l'=none:=by unfold km;rw[zc hA,zc (fun h=>h.2.2 hL),zc (by rw[d];simp)]
       have i:yu g.length g=none:=by rw[R];simp only[yu,L];rfl
       rw[i]at m;simp[Ve,J,C,u,D,y,n,G,H,I,M,N,hl4,hLp,hLq,q,d,z8,qB,m,ZB,qi,f166]
      ·have L:km w l'=some (JW (wB wo w).1 (zQ (wB wo w).2).1,l'):=by unfold km;rw[zc hA,zc (fun h=>h.2.2 hL),zd d]
       have i:yu g.length g=(yu f' l').map ((l++[JW (wB wo w).1 (zQ (wB wo w).2).1])++·):=by rw[R];simp only[yu,L];cases yu f' l'<;>simp
       have j:=qT.jd (P:=prog) (t:=166) (c:=[str (wB wo w).1,int (zQ (wB wo w).2).1.n0,int (zQ (wB wo w).2).1.n1,int (zQ (wB wo w).2).1.n2,int (zQ (wB wo w).2).1.has,.sl 1 (zy (zQ (wB wo w).2).1.pre),int 0,int 0,int 0,int 0,.nil]) (S.more (some ⟨171,5,false,[(zQ (wB wo w).2).1.V]⟩)) aM aN aO aP rfl (by omega) (by unfold maxLen;unfold zu at E;omega) (by unfold zu at E;omega);simp only[Part.V]at j;simp[Ve,J,C,u,D,y,n,G,H,I,M,N,hl4,hLp,hLq,q,d,j,z8,qB,zp,zE,zo];exact⟨ZC (v4:=v4) (c:=JW (wB wo w).1 (zQ (wB wo w).2).1) (f':=f') (l':=l') (l:=l) (xs:=xs) (by omega) (by omega) K (by simp) A (by simpa using qT.after) (by simp<;>omega) rfl F (by simp) (by simp[Q,n0,n1,n2,J]) i,by simpa[JX]using Sw⟩
     ·obtain⟨r,l2,rfl⟩:∃r l2,l'=r::l2:=by
       cases l' with
       |nil=>exact absurd rfl hL
       |cons r l2=>exact⟨r,l2,rfl⟩
      have hv:v4=.own 0 (o+1) (l2.length+1):=by
       rcases A with⟨h,_⟩|h
       ·cases h
       ·rw[h,<-X];rfl
      subst hv;simp only[zO]at hf hxl ho Ve n X K Sw;have Hr:o+1<g.length:=by omega
      have Hs:o+1<z.length:=by omega
      rw[<-X,ze Hr]at K;injection K with Sy Sz
      have EB:z[o+1]=[str r]:=by rw[hat (o+1) Hr Hs,Sy]
      have ho2:o+1+1=g.length-l2.length:=by omega
      obtain⟨v5,hv5⟩:=jc (if l2.length=0 then O.sl 1 []else .own 0 (o+1+1) l2.length);have Ht:=sl1 Y z (o+1) l2.length J;rw[hv5]at Ht;have SA:l2=[]/\v5=.sl 1 []\/v5=.own 0 (g.length-l2.length) l2.length:=by
       rw[<-hv5,<-ho2];by_cases h:l2.length=0
       ·exact .inl ⟨qy.1 h,zd h⟩
       ·exact .inr (zc h)
      have hmu5:JX v5<l2.length+1+1:=by rcases SA with⟨_,h⟩|h<;>rw[h]<;>simp[JX];omega
      rw[ho2]at Sz;have SB:(0:Int)<(l2.length:Int)+1:=by omega
      have EC:(0:Int)<(l2.length:Int)+1+1:=by omega
      have q:=fun B T=>S5 r (hwl r (by rw[<-Sy];exact zj Hr)) B T
      simp only[jS,Part.V]at q;cases d:(zQ r).2
      ·have L:km w (r::l2)=none:=by unfold km;rw[zc hA,zd ⟨hE,hR,by simp⟩];simp only[d];rfl
       have i:yu g.length g=none:=by rw[R];simp only[yu,L];rfl
       rw[i]at m;simp[Ve,J,C,u,D,y,n,Ht,Hs,EB,G,H,I,M,N,SB,EC,q,d,z8,qB,m,ZB,qi,f166]
      ·have L:km w (r::l2)=some (JW (wB wo w).1 (zQ r).1,l2):=by unfold km;rw[zc hA,zd ⟨hE,hR,by simp⟩];simp only[d,qH]
       have i:yu g.length g=(yu f' l2).map ((l++[JW (wB wo w).1 (zQ r).1])++·):=by rw[R];simp only[yu,L];cases yu f' l2<;>simp
       have j:=qT.jd (P:=prog) (t:=166) (c:=[str (wB wo w).1,int (zQ r).1.n0,int (zQ r).1.n1,int (zQ r).1.n2,int (zQ r).1.has,.sl 1 (zy (zQ r).1.pre),int 0,int 0,int 0,int 0,.nil]) (S.more (some ⟨171,5,false,[(zQ r).1.V]⟩)) aM aN aO aP rfl (by omega) (by unfold maxLen;unfold zu at E;omega) (by unfold zu at E;omega);simp only[Part.V]at j;simp[Ve,J,C,u,D,y,n,Ht,Hs,EB,G,H,I,M,N,SB,EC,q,d,j,z8,qB,zp,zE,zo];exact⟨ZC (v4:=v5) (c:=JW (wB wo w).1 (zQ r).1) (f':=f') (l':=l2) (l:=l) (xs:=xs) (by omega) (by omega) Sz (by simp) SA (by simpa using qT.after) (by simp<;>omega) rfl F (by simp) (by simp[Q,n0,n1,n2,J]) i,by simpa[JX]using hmu5⟩
    ·have M:=wU hR;have N:(wB wo w).2.isEmpty=false:=by simpa using hR
     have q:=fun B T=>S5 (wB wo w).2 W B T
     simp only[jS,Part.V]at q;cases d:(zQ (wB wo w).2).2
     ·have L:km w l'=none:=by unfold km;rw[zc hA,zc (fun h=>hR h.2.1),zc (by rw[d];simp)]
      have i:yu g.length g=none:=by rw[R];simp only[yu,L];rfl
      rw[i]at m;simp[Ve,J,C,u,D,y,n,G,H,I,M,N,q,d,z8,qB,m,ZB,qi,f166]
     ·have L:km w l'=some (JW (wB wo w).1 (zQ (wB wo w).2).1,l'):=by unfold km;rw[zc hA,zc (fun h=>hR h.2.1),zd d]
      have i:yu g.length g=(yu f' l').map ((l++[JW (wB wo w).1 (zQ (wB wo w).2).1])++·):=by rw[R];simp only[yu,L];cases yu f' l'<;>simp
      have j:=qT.jd (P:=prog) (t:=166) (c:=[str (wB wo w).1,int (zQ (wB wo w).2).1.n0,int (zQ (wB wo w).2).1.n1,int (zQ (wB wo w).2).1.n2,int (zQ (wB wo w).2).1.has,.sl 1 (zy (zQ (wB wo w).2).1.pre),int 0,int 0,int 0,int 0,.nil]) (S.more (some ⟨171,5,false,[(zQ (wB wo w).2).1.V]⟩)) aM aN aO aP rfl (by omega) (by unfold maxLen;unfold zu at E;omega) (by unfold zu at E;omega);simp only[Part.V]at j;simp[Ve,J,C,u,D,y,n,G,H,I,M,N,q,d,j,z8,qB,zp,zE,zo];exact⟨ZC (v4:=v4) (c:=JW (wB wo w).1 (zQ (wB wo w).2).1) (f':=f') (l':=l') (l:=l) (xs:=xs) (by omega) (by omega) K (by simp) A (by simpa using qT.after) (by simp<;>omega) rfl F (by simp) (by simp[Q,n0,n1,n2,J]) i,by simpa[JX]using Sw⟩
  ·have h33:((g.length:Int)==3)=false:=by simp;omega
   simp[hb,h33];refine Wu (OO g z) (fun st=>JX (st.U 4)) ⟨g.length,g,[],[],zf _,by simp,by simp,.inr (by simp;try omega),.inl ⟨by simp,rfl⟩,by simp,rfl,by simp,by simpa using hb,by simp⟩ ?_;clear Su Nt hsp;rintro⟨U,Y,Z⟩ ⟨f,rest,l,xs,hf,hxl,Hq,h4,S,hO0,F,hnx,J,R⟩;simp only at h4 S hO0 hnx J;cases rest with
   |nil=>
    rw[B7]at R;simp only[zC,yU]at R;rw[R]at m;rw[m];have Sv:xs.length=l.length:=by have:=zr List.length F;simpa[ZB]using this
    have hb1:(decide ((0:Int)<(xs.length:Int)))=!l.isEmpty:=by rw[Sv];cases l<;>simp
    have hb2:(decide (0<xs.length))=!l.isEmpty:=by rw[Sv];cases l<;>simp
    have Ve:U 4=.sl 1 []\/U 4=.own 0 g.length 0:=by
     rcases h4 with⟨_,h4⟩|h4
     ·exact .inl h4
     ·exact .inr (by simpa using h4)
    rcases S with⟨h9,rfl⟩|⟨id,hid,h9,hb9⟩
    ·simp[ZB]at F;subst F;rcases Ve with Ve|Ve<;>simp[Ve,h9,qi,ZB,f166]
    ·rcases Ve with Ve|Ve<;>simp[Ve,h9,hb9,hb1,hb2,F,qi,f166]
   |cons w l'=>
    obtain⟨f',rfl⟩:∃f',f=f'+1:=⟨f-1,by simp at hf;omega⟩;simp only[zO]at hf hxl Hq h4;obtain⟨o,ho⟩:=jc (g.length-(l'.length+1));rw[ho]at Hq h4;have Ve:U 4=.own 0 o (l'.length+1):=by
     rcases h4 with⟨h,_⟩|h
     ·cases h
     ·exact h
    have hol:o<g.length:=by omega
    have C:o<z.length:=by omega
    rw[ze hol]at Hq;injection Hq with hdw K
    have u:z[o]=[str w]:=by rw[hat o hol C,hdw]
    have hww:w.length+1<=zu:=hwl w (by rw[<-hdw];exact zj hol);have D:=fun B T=>cI TT w B T (by omega) rfl
    simp only[TT]at D;have W:(wB wo w).2.length+1<=zu:=by have:=KH wo w;omega
    have y:=fun B T=>ki yh (wB wo w).2 B T (by omega)
    obtain⟨v4,hv4⟩:=jc (if l'.length=0 then O.sl 1 []else .own 0 (o+1) l'.length);have hs1:=fun B (hh:B 0=some _)=>sl1 B z o l'.length hh
    rw[hv4]at hs1;have n:=hs1 Y J;have X:o+1=g.length-l'.length:=by omega
    have A:l'=[]/\v4=.sl 1 []\/v4=.own 0 (g.length-l'.length) l'.length:=by
     rw[<-hv4,<-X];by_cases h:l'.length=0
     ·exact .inl ⟨qy.1 h,zd h⟩
     ·exact .inr (zc h)
    have Sw:JX v4<l'.length+1:=by rcases A with⟨_,h⟩|h<;>rw[h]<;>simp[JX]
    have hl4:Ki prog 33 v4=some (int l'.length):=by
     rcases A with⟨h1,h⟩|h
     ·subst h1;rw[h];simp
     ·rw[h];simp
    rw[X]at K;have rn:=fun c S=>qT.jd (Y:=Y) (Z:=Z) (v:=U 9) (xs:=xs) (P:=prog) (t:=166) (c:=c) S aM aN aO aP rfl (by omega) (by unfold maxLen;unfold zu at E;omega) (by unfold zu at E;omega)
    by_cases hA:(wB wo w).1=[]/\yh (wB wo w).2=true
    ·have L:km w l'=some (eZ,l'):=by unfold km;rw[zd hA]
     have i:yu g.length g=(yu f' l').map ((l++[eZ])++·):=by rw[R];simp only[yu,L];cases yu f' l'<;>simp
     have Sx:=rn [str jq,int 0,int 0,int 0,int 0,.nil,int 0,int 0,int 0,int 0,.nil] S;obtain⟨hA1,hA2⟩:=hA;simp only[jq]at Sx;simp[Ve,J,C,u,D,y,n,hA1,hA2,Sx,z8,qB,zp,zE,zo];have n0:¬0=Z:=by omega
     have n1:¬0=Z+1:=by omega
     have n2:¬0=Z+2:=by omega
     have Q:=fun B=>yM S B 0 hO0
     exact⟨ZC (v4:=v4) (c:=eZ) (f':=f') (l':=l') (l:=l) (xs:=xs) (by omega) (by omega) K (by simp) A (by simpa using qT.after) (by simp<;>omega) rfl F (by simp) (by simp[Q,n0,n1,n2,J]) i,by simpa[JX]using Sw⟩
    have n0:¬0=Z:=by omega
    have n1:¬0=Z+1:=by omega
    have n2:¬0=Z+2:=by omega
    have Q:=fun B=>yM S B 0 hO0
    by_cases hE:(wB wo w).1=[]
    ·have G:((wB wo w).1==[])=true:=by simpa using hE
     have H:(wB wo w).1.isEmpty=true:=by simpa using hE
     have I:((wB wo w).1 != [])=false:=by simpa using hE
     have hOp:yh (wB wo w).2=false:=by
      cases h:yh (wB wo w).2
      ·rfl
      ·exact absurd ⟨hE,h⟩ hA
     have q:=fun B T=>S5 (wB wo w).2 W B T
     simp only[jS,Part.V]at q;cases d:(zQ (wB wo w).2).2
     ·have L:km w l'=none:=by unfold km;rw[zc hA,zc (fun h=>h.1 hE),zc (by rw[d];simp)]
      have i:yu g.length g=none:=by rw[R];simp only[yu,L];rfl
      rw[i]at m;simp[Ve,J,C,u,D,y,n,G,H,I,hOp,q,d,z8,qB,m,ZB,qi,f166]
     ·have L:km w l'=some (JW (wB wo w).1 (zQ (wB wo w).2).1,l'):=by unfold km;rw[zc hA,zc (fun h=>h.1 hE),zd d]
      have i:yu g.length g=(yu f' l').map ((l++[JW (wB wo w).1 (zQ (wB wo w).2).1])++·):=by rw[R];simp only[yu,L];cases yu f' l'<;>simp
      have j:=qT.jd (P:=prog) (t:=166) (c:=[str (wB wo w).1,int (zQ (wB wo w).2).1.n0,int (zQ (wB wo w).2).1.n1,int (zQ (wB wo w).2).1.n2,int (zQ (wB wo w).2).1.has,.sl 1 (zy (zQ (wB wo w).2).1.pre),int 0,int 0,int 0,int 0,.nil]) (S.more (some ⟨171,5,false,[(zQ (wB wo w).2).1.V]⟩)) aM aN aO aP rfl (by omega) (by unfold maxLen;unfold zu at E;omega) (by unfold zu at E;omega);simp only[Part.V]at j;simp[Ve,J,C,u,D,y,n,G,H,I,hOp,q,d,j,z8,qB,zp,zE,zo];exact⟨ZC (v4:=v4) (c:=JW (wB wo w).1 (zQ (wB wo w).2).1) (f':=f') (l':=l') (l:=l) (xs:=xs) (by omega) (by omega) K (by simp) A (by simpa using qT.after) (by simp<;>omega) rfl F (by simp) (by simp[Q,n0,n1,n2,J]) i,by simpa[JX]using Sw⟩
    have G:=wU hE;have H:(wB wo w).1.isEmpty=false:=by simpa using hE
    have I:((wB wo w).1 != [])=true:=by simpa using hE
    by_cases hR:(wB wo w).2=[]
    ·have M:((wB wo w).2==[])=true:=by simpa using hR
     have N:(wB wo w).2.isEmpty=true:=by simpa using hR
     by_cases hL:l'=[]
     ·have hLz:l'.length=0:=by rw[hL];rfl
      have hLp:¬0<l'.length:=by omega
      have hLq:¬(0:Int)<(l'.length:Int):=by omega
      have q:=fun B T=>S5 (wB wo w).2 W B T
      simp only[jS,Part.V]at q;cases d:(zQ (wB wo w).2).2
      ·have L:km w l'=none:=by unfold km;rw[zc hA,zc (fun h=>h.2.2 hL),zc (by rw[d];simp)]
       have i:yu g.length g=none:=by rw[R];simp only[yu,L];rfl
       rw[i]at m;simp[Ve,J,C,u,D,y,n,G,H,I,M,N,hl4,hLp,hLq,q,d,z8,qB,m,ZB,qi,f166]
      ·have L:km w l'=some (JW (wB wo w).1 (zQ (wB wo w).2).1,l'):=by unfold km;rw[zc hA,zc (fun h=>h.2.2 hL),zd d]
       have i:yu g.length g=(yu f' l').map ((l++[JW (wB wo w).1 (zQ (wB wo w).2).1])++·):=by rw[R];simp only[yu,L];cases yu f' l'<;>simp
       have j:=qT.jd (P:=prog) (t:=166) (c:=[str (wB wo w).1,int (zQ (wB wo w).2).1.n0,int (zQ (wB wo w).2).1.n1,int (zQ (wB wo w).2).1.n2,int (zQ (wB wo w).2).1.has,.sl 1 (zy (zQ (wB wo w).2).1.pre),int 0,int 0,int 0,int 0,.nil]) (S.more (some ⟨171,5,false,[(zQ (wB wo w).2).1.V]⟩)) aM aN aO aP rfl (by omega) (by unfold maxLen;unfold zu at E;omega) (by unfold zu at E;omega);simp only[Part.V]at j;simp[Ve,J,C,u,D,y,n,G,H,I,M,N,hl4,hLp,hLq,q,d,j,z8,qB,zp,zE,zo];exact⟨ZC (v4:=v4) (c:=JW (wB wo w).1 (zQ (wB wo w).2).1) (f':=f') (l':=l') (l:=l) (xs:=xs) (by omega) (by omega) K (by simp) A (by simpa using qT.after) (by simp<;>omega) rfl F (by simp) (by simp[Q,n0,n1,n2,J]) i,by simpa[JX]using Sw⟩
     ·obtain⟨r,l2,rfl⟩:∃r l2,l'=r::l2:=by
       cases l' with
       |nil=>exact absurd rfl hL
       |cons r l2=>exact⟨r,l2,rfl⟩
      have hv:v4=.own 0 (o+1) (l2.length+1):=by
       rcases A with⟨h,_⟩|h
       ·cases h
       ·rw[h,<-X];rfl
      subst hv;simp only[zO]at hf hxl ho Ve n X K Sw;have Hr:o+1<g.length:=by omega
      have Hs:o+1<z.length:=by omega
      rw[<-X,ze Hr]at K;injection K with Sy Sz
      have EB:z[o+1]=[str r]:=by rw[hat (o+1) Hr Hs,Sy]
      have ho2:o+1+1=g.length-l2.length:=by omega
      obtain⟨v5,hv5⟩:=jc (if l2.length=0 then O.sl 1 []else .own 0 (o+1+1) l2.length);have Ht:=sl1 Y z (o+1) l2.length J;rw[hv5]at Ht;have SA:l2=[]/\v5=.sl 1 []\/v5=.own 0 (g.length-l2.length) l2.length:=by
       rw[<-hv5,<-ho2];by_cases h:l2.length=0
       ·exact .inl ⟨qy.1 h,zd h⟩
       ·exact .inr (zc h)
      have hmu5:JX v5<l2.length+1+1:=by rcases SA with⟨_,h⟩|h<;>rw[h]<;>simp[JX];omega
      rw[ho2]at Sz;have SB:(0:Int)<(l2.length:Int)+1:=by omega
      have EC:(0:Int)<(l2.length:Int)+1+1:=by omega
      have q:=fun B T=>S5 r (hwl r (by rw[<-Sy];exact zj Hr)) B T
      simp only[jS,Part.V]at q;cases d:(zQ r).2
      ·have L:km w (r::l2)=none:=by unfold km;rw[zc hA,zd ⟨hE,hR,by simp⟩];simp only[d];rfl
       have i:yu g.length g=none:=by rw[R];simp only[yu,L];rfl
       rw[i]at m;simp[Ve,J,C,u,D,y,n,Ht,Hs,EB,G,H,I,M,N,SB,EC,q,d,z8,qB,m,ZB,qi,f166]
      ·have L:km w (r::l2)=some (JW (wB wo w).1 (zQ r).1,l2):=by unfold km;rw[zc hA,zd ⟨hE,hR,by simp⟩];simp only[d,qH]
       have i:yu g.length g=(yu f' l2).map ((l++[JW (wB wo w).1 (zQ r).1])++·):=by rw[R];simp only[yu,L];cases yu f' l2<;>simp
       have j:=qT.jd (P:=prog) (t:=166) (c:=[str (wB wo w).1,int (zQ r).1.n0,int (zQ r).1.n1,int (zQ r).1.n2,int (zQ r).1.has,.sl 1 (zy (zQ r).1.pre),int 0,int 0,int 0,int 0,.nil]) (S.more (some ⟨171,5,false,[(zQ r).1.V]⟩)) aM aN aO aP rfl (by omega) (by unfold maxLen;unfold zu at E;omega) (by unfold zu at E;omega);simp only[Part.V]at j;simp[Ve,J,C,u,D,y,n,Ht,Hs,EB,G,H,I,M,N,SB,EC,q,d,j,z8,qB,zp,zE,zo];exact⟨ZC (v4:=v5) (c:=JW (wB wo w).1 (zQ r).1) (f':=f') (l':=l2) (l:=l) (xs:=xs) (by omega) (by omega) Sz (by simp) SA (by simpa using qT.after) (by simp<;>omega) rfl F (by simp) (by simp[Q,n0,n1,n2,J]) i,by simpa[JX]using hmu5⟩
    ·have M:=wU hR;have N:(wB wo w).2.isEmpty=false:=by simpa using hR
     have q:=fun B T=>S5 (wB wo w).2 W B T
     simp only[jS,Part.V]at q;cases d:(zQ (wB wo w).2).2
     ·have L:km w l'=none:=by unfold km;rw[zc hA,zc (fun h=>hR h.2.1),zc (by rw[d];simp)]
      have i:yu g.length g=none:=by rw[R];simp only[yu,L];rfl
      rw[i]at m;simp[Ve,J,C,u,D,y,n,G,H,I,M,N,q,d,z8,qB,m,ZB,qi,f166]
     ·have L:km w l'=some (JW (wB wo w).1 (zQ (wB wo w).2).1,l'):=by unfold km;rw[zc hA,zc (fun h=>hR h.2.1),zd d]
      have i:yu g.length g=(yu f' l').map ((l++[JW (wB wo w).1 (zQ (wB wo w).2).1])++·):=by rw[R];simp only[yu,L];cases yu f' l'<;>simp
      have j:=qT.jd (P:=prog) (t:=166) (c:=[str (wB wo w).1,int (zQ (wB wo w).2).1.n0,int (zQ (wB wo w).2).1.n1,int (zQ (wB wo w).2).1.n2,int (zQ (wB wo w).2).1.has,.sl 1 (zy (zQ (wB wo w).2).1.pre),int 0,int 0,int 0,int 0,.nil]) (S.more (some ⟨171,5,false,[(zQ (wB wo w).2).1.V]⟩)) aM aN aO aP rfl (by omega) (by unfold maxLen;unfold zu at E;omega) (by unfold zu at E;omega);simp only[Part.V]at j;simp[Ve,J,C,u,D,y,n,G,H,I,M,N,q,d,j,z8,qB,zp,zE,zo];exact⟨ZC (v4:=v4) (c:=JW (wB wo w).1 (zQ (wB wo w).2).1) (f':=f') (l':=l') (l:=l) (xs:=xs) (by omega) (by omega) K (by simp) A (by simpa using qT.after) (by simp<;>omega) rfl F (by simp) (by simp[Q,n0,n1,n2,J]) i,by simpa[JX]using Sw⟩
theorem cT:zg prog 166 (zh false [] (YY ux)):=
 Qq (fn:=f166) TV (qD func166) false [] _ fun args r h w S vs a=>by obtain⟨l,rfl,Y,rfl⟩:=zN h;obtain⟨b,c,d⟩:=e8 l Y;exact⟨_,b,a,by simp[f166],c,d⟩
noncomputable def kY (s:qK) (c:Cut):Bool:=decide (wb s.lo c<=0)&&(s.yv||decide (wb c s.hi<0))
def qK.small(s:qK):Prop:=s.lo.v.small/\s.hi.v.small
theorem ZD(x y:Cut)(Y:Hp)(Z:Nat)(a:x.v.small)(b:y.v.small):qn [.g jm,.g jm] (um fun v w=>int (wb v w)) [.agg x.V,.agg y.V] Y Z=some (int (wb x y),Y,Z):=uo x y (.agg x.V) (.agg y.V) Y Z (uw x) (uw y) (by simp only[zD,OK]) a b
noncomputable abbrev HR:Ctx:=zR prog [(216,qn [.g jm,.g jm] (um fun v w=>int (wb v w)))]
theorem OP:AM.Good HR (fun g=>[216].contains g):=qw mixed ⟨xB,fun _=>yG _ _,trivial⟩
theorem FL:zg prog 250 (yr HR f250):=ky OP func250
theorem OQ(s:qK)(c:Cut)(hs:s.small)(a:c.v.small)(Y:Hp)(Z id:Nat)(hid:id<Z)(b:Y id=some ⟨179,5,false,[c.V]⟩) :
  yr HR f250 [.agg s.V,.ref id 0 0] Y Z=some (qS (kY s c),qv Y Z (some ⟨181,11,false,[s.V]⟩),Z+1):=by
 unfold yr;rw[zd (by simp[f250])];refine y0 rfl ?_;have d:=fun Y Z=>ZD s.lo c Y Z hs.1 a
 have e:=fun Y Z=>ZD c s.hi Y Z a hs.2
 have f:¬id=Z:=by omega
 simp only[Cut.V]at d e b;by_cases g:wb s.lo c<=0<;>cases h:s.yv <;>
  simp[qK.V,Cut.V,d,e,b,f,g,h,kY,f250]
noncomputable def e9 (c:Cut):Nat->List qK->Int
 |_,[]=>-1
 |k,s::l=>if kY s c=true then k else e9 c (k+1) l
theorem B8(c:Cut):∀(l:List qK) (k:Nat),decide (0<=e9 c k l)=l.any (kY · c)
 |[],k=>by simp[e9]
 |s::l,k=>by
  by_cases h:kY s c=true
  ·have e:e9 c k (s::l)=k:=by simp only[e9,zd h]
   rw[e,y9,h];simp
  ·have e:e9 c k (s::l)=e9 c (k+1) l:=by simp only[e9,zc h]
   rw[e,B8 c l (k+1),y9,Bool.eq_false_iff.2 h];rfl
noncomputable abbrev TW:Ctx:=zR prog [(250,yr HR f250)]
theorem TX:Gd TW:=zU mixed ⟨FL,trivial⟩
theorem LH:zg prog 220 (yr TW f220):=ky TX func220
def SX(id:Nat):O:=.fn (.func 250) [] [.ref id 0 0]
def OR(r:O)(Y:Hp)(Z:Nat)(x:O)(a:Hp)(b:Nat):Prop:=x=r/\Z<=b/\∀j,j<Z->a j=Y j
theorem TY(l:List qK)(c:Cut)(z:l.length<=zu)(hs:∀s∈l,s.small)(A:c.v.small)(i:Hp)(Z0 id:Nat)(hid:id<Z0)(B:i id=some ⟨179,5,false,[c.V]⟩) :
  ∃x u w,yr TW f220 [.sl 11 (zW l),SX id] i Z0=some (x,u,w)/\OR (int (e9 c 0 l)) i Z0 x u w:=by
 unfold yr;rw[zd (by simp[f220])];refine qE rfl ?_;unfold zu at z;have f:(zW l).length=l.length:=by simp[zW]
 simp[SX,f];refine zP (fun k U Y Z=>U 0=.sl 11 (zW l)/\U 1=SX id/\U 7=int l.length/\U 8=int k/\Z0<=Z/\(∀j,j<Z0->Y j=i j)/\e9 c 0 l=e9 c k (l.drop k)) l.length ⟨by simp,by simp[SX],by simp,by simp,zf _,fun _ _=>rfl,by simp⟩ ?_;rintro k U Y Z C ⟨n,o,p,q,r,d,e⟩;by_cases b:k<l.length
 ·have y:=qG k;have a:=OQ l[k] c (hs _ (zj b)) A Y Z id (by omega) (by rw[d id hid];exact B);have g:∀h:k<(zW l).length,(zW l)[k]=l[k].V:=fun h=>by simp[zW]
  simp only[qK.V,Cut.V,q6,jJ]at a g;rw[ze b]at e;simp only[e9]at e;cases m:kY l[k] c
  ·rw[m,zc (by simp)]at e;rw[m]at a;simp[n,o,p,q,SX,b,f,g,a,y];exact⟨b,by omega,fun j t=>by rw[zx _ _ _ _ (by omega)];exact d j t,e⟩
  ·rw[m,zd rfl]at e;rw[m]at a;simp[n,o,p,q,SX,b,f,g,a,y,f220];exact⟨by rw[e],by omega,fun j t=>by rw[zx _ _ _ _ (by omega)];exact d j t⟩
 ·obtain rfl:k=l.length:=by omega
  rw[zn]at e;simp only[e9]at e;simp[n,o,p,q,f220];exact⟨by rw[e],r,d⟩
noncomputable abbrev TZ:Ctx:=zR prog [(220,yr TW f220)]
theorem T0:Gd TZ:=zU mixed ⟨LH,trivial⟩
theorem LI:zg prog 174 (yr TZ f174):=ky T0 func174
noncomputable def yl (l:List qK) (c:Cut):Bool:=l.any (kY · c)
theorem T1(l:List qK)(c:Cut)(f:l.length<=zu)(hs:∀s∈l,s.small)(g:c.v.small)(a:Hp)(Z0 id:Nat)(hid:id<Z0)(h:a id=some ⟨179,5,false,[c.V]⟩) :
  ∃x b d,yr TZ f174 [.sl 11 (zW l),SX id] a Z0=some (x,b,d)/\OR (qS (yl l c)) a Z0 x b d:=by
 unfold yr;rw[zd (by simp[f174])];refine qE rfl ?_;obtain⟨x,b,d,e,i,j,k⟩:=TY l c f hs g a Z0 id hid h;subst i;have m:=B8 c l 0;simp only[SX]at e;simp[SX,e,m,OR,yl,j,f174];exact k
noncomputable abbrev Ccov:Ctx:=zR prog [(174,yr TZ f174)]
theorem T2:Gd Ccov:=zU mixed ⟨LI,trivial⟩
def yE(l:List qK):Prop:=l.length<=zu/\∀s∈l,s.small
theorem mR{a b:qK}(h:a.V=b.V):a=b:=by obtain⟨⟨⟨s,t,u,v⟩,w⟩,⟨⟨x,y,z,A⟩,g⟩,i⟩:=a;obtain⟨⟨⟨B,C,D,E⟩,F⟩,⟨⟨G,H,I,J⟩,j⟩,k⟩:=b;simp only[qK.V,Cut.V,q6,jJ,zk,zI]at h;obtain⟨l,m,n,c,o,p,q,r,d,e,f⟩:=h;injection c with _ c;injection d with _ d;rw[qV l,qV m,qV n,ji c,Yu o,qV p,qV q,qV r,ji d,Yu e,Yu f]
theorem xd{a b:List qK}(h:zW a=zW b):a=b:=kS (fun _ _ e=>mR e) h
noncomputable def FRC (f:List qK->Cut->O):zb->Option O:=ql (α:=List qK×Cut) (fun a=>[.sl 11 (zW a.1),.agg a.2.V]) (fun a=>yE a.1/\a.2.v.small) (fun a=>f a.1 a.2)
theorem zcA:∀a b:List qK×Cut,[O.sl 11 (zW a.1),.agg a.2.V]=[O.sl 11 (zW b.1),.agg b.2.V]->a=b:=by rintro⟨f,g⟩ ⟨h,i⟩ e;simp only[zk,zI]at e;obtain⟨c,d⟩:=e;injection c with _ c;injection d with d;rw[xd c,Zf d]
theorem B9(l:List qK)(c:Cut)(a:yE l)(d:c.v.small):zq Ccov f217 [.sl 11 (zW l),.agg c.V]=some (qS (yl l c)):=by refine zm rfl ?_;obtain⟨x,f,g,b,e,h,i⟩:=T1 l c a.1 a.2 d (qv (fun _=>none) 0 (some ⟨179,5,false,[c.V]⟩)) 1 0 (by omega) (by simp);subst e;simp only[SX,Cut.V]at b;simp[Cut.V,b,wa,f217]
theorem uy:zg prog 217 (qn [.s 11 jn,.g jm] (FRC fun l c=>qS (yl l c))):=
 wO (fn:=f217) T2 (qD func217) _ _ fun args r h=>by obtain⟨⟨l,c⟩,rfl,⟨a,b⟩,rfl⟩:=zN h;exact⟨by simp[f217],_,B9 l c a b,qX.refl _⟩
structure TO {α:Type} (c:α->α->Int):Prop where
 refl:∀x,c x x=0
 flip:∀x y,c x y<0↔0<c y x
 tr:∀x y z,c x y<=0->c y z<=0->c x z<=0
theorem TO.le{α:Type}{c:α->α->Int}(h:TO c)(x y:α):c x y<=0↔0<=c y x:=by have:=h.flip y x;omega
theorem TO.eq{α:Type}{c:α->α->Int}(h:TO c)(x y:α):c x y=0↔c y x=0:=by have a:=h.flip y x;have b:=h.flip x y;omega
theorem TO.trans{α:Type}{c:α->α->Int}(h:TO c){x y z:α}(e:c x y<0)(b:c y z<0):c x z<0:=by
 have d:=h.tr x y z (by omega) (by omega);rcases ZM d with a|a
 ·exact a
 ·have f:=(h.eq x z).1 a;have g:=h.tr z x y (by omega) (by omega);have:=(h.flip y z).1 b;omega
theorem TO.ntrans{α:Type}{c:α->α->Int}(h:TO c){x y z:α}(a:0<=c x y)(b:0<=c y z):0<=c x z:=
 (h.le z x).1 (h.tr z y x ((h.le z y).2 b) ((h.le y x).2 a))
theorem TO.pull{α a:Type}{c:a->a->Int}(h:TO c)(f:α->a):TO fun x y=>c (f x) (f y):=⟨fun _=>h.refl _,fun _ _=>h.flip _ _,fun _ _ _=>h.tr _ _ _⟩
def xJ{α:Type}(c d:α->α->Int)(x y:α):Int:=if c x y=0 then d x y else c x y
theorem TO.lex{α:Type}{c d:α->α->Int}(f:TO c)(hd:TO d):TO (xJ c d) where
 refl x:=by simp[xJ,f.refl,hd.refl]
 flip x y:=by
  unfold xJ;have g:=f.flip x y;have i:=f.flip y x;have l:=hd.flip x y;by_cases h:c x y=0
  ·rw[zd h,zd ((f.eq x y).1 h)];exact l
  ·rw[zc h,zc (fun e=>h ((f.eq x y).2 e))];exact g
 tr x y z:=by
  unfold xJ;intro g i;by_cases a:c x y=0<;>by_cases b:c y z=0
  ·rw[zd a]at g;rw[zd b]at i;have j:=f.tr x y z (by omega) (by omega);have k:=f.tr z y x (by have:=(f.eq y z).1 b;omega) (by have:=(f.eq x y).1 a;omega);have m:=(f.le z x).1 k;rw[zd (by omega)];exact hd.tr x y z g i
  ·rw[zc b]at i;have j:=f.tr x y z (by omega) i;by_cases e:c x z=0
   ·exfalso;have k:=f.tr z x y (by have:=(f.eq x z).1 e;omega) (by omega);have:=(f.flip y z).1 (by omega);omega
   ·rw[zc e];exact j
  ·rw[zc a]at g;have j:=f.tr x y z g (by omega);by_cases e:c x z=0
   ·exfalso;have k:=f.tr y z x (by omega) (by have:=(f.eq x z).1 e;omega);have:=(f.flip x y).1 (by omega);omega
   ·rw[zc e];exact j
  ·rw[zc a]at g;rw[zc b]at i;have:=f.trans (x:=x) (y:=y) (z:=z) (by omega) (by omega);rw[zc (by omega)];omega
theorem lf{α:Type}{c:α->α->Int}(h:TO c):TO (w9 c) where
 refl l:=by
  induction l with
  |nil=>rfl
  |cons x l f=>simp[w9,h.refl,f]
 flip a b:=by
  induction a generalizing b with
  |nil=>cases b<;>simp[w9]
  |cons x a f=>
   cases b with
   |nil=>simp[w9]
   |cons y b=>
    simp only[w9];by_cases e:c x y=0
    ·rw[zd e,zd ((h.eq x y).1 e)];exact f b
    ·rw[zc e,zc (fun m=>e ((h.eq x y).2 m))];exact h.flip x y
 tr a b d:=by
  induction a generalizing b d with
  |nil=>cases d<;>simp[w9]
  |cons x a f=>
   cases b with
   |nil=>simp[w9]
   |cons y b=>
    cases d with
    |nil=>simp[w9]
    |cons z d=>
     simp only[w9];intro g i;by_cases p:c x y=0<;>by_cases q:c y z=0
     ·rw[zd p]at g;rw[zd q]at i;have j:=h.tr x y z (by omega) (by omega);have k:=h.tr z y x (by have:=(h.eq y z).1 q;omega) (by have:=(h.eq x y).1 p;omega);have n:=(h.le z x).1 k;rw[zd (by omega)];exact f b d g i
     ·rw[zc q]at i;have j:=h.tr x y z (by omega) i;by_cases e:c x z=0
      ·exfalso;have k:=h.tr z x y (by have:=(h.eq x z).1 e;omega) (by omega);have:=(h.flip y z).1 (by omega);omega
      ·rw[zc e];exact j
     ·rw[zc p]at g;have j:=h.tr x y z g (by omega);by_cases e:c x z=0
      ·exfalso;have k:=h.tr y z x (by omega) (by have:=(h.eq x z).1 e;omega);have:=(h.flip x y).1 (by omega);omega
      ·rw[zc e];exact j
     ·rw[zc p]at g;rw[zc q]at i;have:=h.trans (x:=x) (y:=y) (z:=z) (by omega) (by omega);rw[zc (by omega)];omega
theorem ZU:TO wx:=⟨fun x=>by simp[wx],fun x y=>by unfold wx;split<;>split<;>(try split)<;>omega,fun x y z=>by unfold wx;repeat' split<;>omega⟩
theorem Ca:∀a b:za,yD a b=w9 (fun x y:UInt8=>wx x.toNat y.toNat) a b
 |[],[]=>rfl
 |[],_::_=>rfl
 |_::_,[]=>rfl
 |x::a,y::b=>by
  have f:=Ca a b;simp only[w9];unfold yD at f⊢;simp only[Lib.compareBytes];rcases Nat.lt_trichotomy x.toNat y.toNat with h|h|h
  ·have c:x<y:=h;have e:wx x.toNat y.toNat=-1:=by unfold wx;rw[zd (by omega)]
   simp[c,e]
  ·have e:wx x.toNat y.toNat=0:=by unfold wx;rw[zc (by omega),zc (by omega)]
   have c:¬x<y:=by show¬x.toNat<y.toNat;omega
   have d:¬y<x:=by show¬y.toNat<x.toNat;omega
   simp[c,d,e,f]
  ·have c:¬x<y:=by show¬x.toNat<y.toNat;omega
   have d:y<x:=h;have e:wx x.toNat y.toNat=1:=by unfold wx;rw[zc (by omega),zd (by omega)]
   simp[c,d,e]
theorem al:TO yD:=by
 have:yD=w9 (fun x y:UInt8=>wx x.toNat y.toNat):=by funext a b;exact Ca a b
 rw[this];exact lf (ZU.pull fun x:UInt8=>(x.toNat:Int))
noncomputable def fc (a:za):Int×Int×za×za:=if xA a=true then(0,(Lib.trimLeftB a 48).length,Lib.trimLeftB a 48,[])else(1,0,[],a)
theorem Cb(a b:za):wP a b=xJ (fun x y=>wx x.1 y.1) (xJ (fun x y=>wx x.2.1 y.2.1) (xJ (fun x y=>yD x.2.2.1 y.2.2.1) fun x y=>yD x.2.2.2 y.2.2.2)) (fc a) (fc b):=by
 unfold wP fc xJ;have r:=al.refl [];have e:wx 0 0=0:=rfl;have f:wx 1 1=0:=rfl;by_cases c:xA a=true<;>by_cases d:xA b=true
 ·simp only[c,d,qH,e,r,KC]
 ·simp[c,d,wx]
 ·simp[c,d,wx]
 ·simp[c,d,e,f,r]
theorem FM:TO wP:=by
 have:wP=fun a b=>xJ (fun x y=>wx x.1 y.1) (xJ (fun x y=>wx x.2.1 y.2.1) (xJ (fun x y=>yD x.2.2.1 y.2.2.1) fun x y=>yD x.2.2.2 y.2.2.2)) (fc a) (fc b):=by funext a b;exact Cb a b
 rw[this];exact TO.pull (TO.lex (ZU.pull fun x:Int×Int×za×za=>x.1) (TO.lex (ZU.pull fun x:Int×Int×za×za=>x.2.1) (TO.lex (al.pull fun x:Int×Int×za×za=>x.2.2.1) (al.pull fun x:Int×Int×za×za=>x.2.2.2)))) fc
def cU(v:wy):Int:=if v.pre.length=0 then 1 else 0
theorem OS(v w:wy):xI v w=xJ (fun x y=>wx x.a y.a) (xJ (fun x y=>wx x.b y.b) (xJ (fun x y=>wx x.c y.c) (xJ (fun x y=>wx (cU x) (cU y)) fun x y=>w9 wP x.pre y.pre))) v w:=by
 unfold xI xJ;by_cases d:wx v.a w.a=0
 ·by_cases e:wx v.b w.b=0
  ·by_cases f:wx v.c w.c=0
   ·simp only[KC,d,e,f,qH];by_cases p:v.pre.length=0<;>by_cases q:w.pre.length=0
    ·have g:v.pre=[]:=qy.1 p;have h:w.pre=[]:=qy.1 q;simp[cU,p,q,wx,g,h,w9]
    ·simp[cU,p,q,wx]
    ·simp[cU,p,q,wx]
    ·simp[cU,p,q,wx]
   ·simp[KC,d,e,f]
  ·simp[KC,d,e]
 ·simp[KC,d]
theorem AW:TO xI:=by
 have:xI=xJ (fun x y=>wx x.a y.a) (xJ (fun x y=>wx x.b y.b) (xJ (fun x y=>wx x.c y.c) (xJ (fun x y=>wx (cU x) (cU y)) fun x y=>w9 wP x.pre y.pre))):=by funext a b;exact OS a b
 rw[this];exact TO.lex (ZU.pull fun x:wy=>x.a) (TO.lex (ZU.pull fun x:wy=>x.b) (TO.lex (ZU.pull fun x:wy=>x.c) (TO.lex (ZU.pull cU) ((lf FM).pull fun x:wy=>x.pre))))
def LJ(c:Cut):Int:=if c.after=true then 1 else 0
theorem OT(a b:Cut):wb a b=xJ (fun x y=>xI x.v y.v) (fun x y=>wx (LJ x) (LJ y)) a b:=by
 unfold wb xJ;by_cases h:xI a.v b.v=0
 ·simp only[h,qH];cases c:a.after<;>cases d:b.after<;>simp[LJ,c,d,wx]
 ·simp[h]
theorem wj:TO wb:=by
 have:wb=xJ (fun x y=>xI x.v y.v) (fun x y=>wx (LJ x) (LJ y)):=by funext a b;exact OT a b
 rw[this];exact TO.lex (AW.pull fun x:Cut=>x.v) (ZU.pull LJ)
end Go.Q
