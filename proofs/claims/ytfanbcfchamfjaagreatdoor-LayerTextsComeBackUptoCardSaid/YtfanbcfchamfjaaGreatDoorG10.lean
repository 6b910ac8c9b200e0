/- Lemmas. -/
import Derived.Test.YtfanbcfchamfjaaGreatDoorG9
set_option maxRecDepth 8000
open Go Proofs Proofs.YtfanbcfchamfjaaGreatDoor Proofs.Tryz RowKit AM SpanLaw Q Zz
namespace Go.Q
def Zn:za:=[108,97,121,101,114]
def xQ:za:=[104,111,108,100]
def QJ:za:=[101,120,112,101,114,105,109,101,110,116]
def wi(n:Int):za:=Lib.decDigits n.toNat
def aq(x:yp):za:=aL [Zn,x.name,x.we,wi x.rest]
def dE(s:za):za:=aL [32::32::s]
def KD(x:y7):za:=aL [xQ,x.name,x.we,wi x.buckets]++x.zr.flatMap dE
def Q2(r:Rg):za:=wi r.2.1++58::wi r.2.2
def Qc(s:Sp):za:=wi s.1++45::wi s.2
def XL(x:Xp):List za:=[32,32,97,114,109,115]::x.ja.map Q2
def DS(p:yk):List za:=[32,32,97,116]::wi p.at_::p.qw.map Qc
def bZ(p:yk):za:=aL (DS p)
def xpH(x:Xp):za:=aL [QJ,x.name,x.w9,x.flag,x.we]
noncomputable def xpI (x:Xp):za:=aL [[32,32,105,102],(vY x.cond).1]
noncomputable def su (x:Xp):za:=xpH x++(xpI x++(aL (XL x)++x.zQ.flatMap bZ))
noncomputable def eF (b:Bk):za:=b.zr.flatMap aq++(b.holds.flatMap KD++b.wP.flatMap su)
noncomputable def nN (l:List Xp):Bool:=l.any fun x=>decide ((vY x.cond).2≠0)
noncomputable def KE (b:Bk):za×Int:=
 if yT b≠0 then([],yT b)else if nN b.wP=true then([],2)else if 500000<(eF b).length then([],2)else(eF b,0)
structure cD (x:Xp):Prop where
 cond:x.cond.check=0
 ja:∀r∈x.ja,0<=r.2.1/\r.2.1<=4000000000/\0<=r.2.2/\r.2.2<=4000000000
 phs:∀p∈x.zQ,0<=p.at_/\p.at_<=4000000000
 spn:∀p∈x.zQ,∀s∈p.qw,0<=s.1/\s.1<=4000000000/\0<=s.2/\s.2<=4000000000
theorem o5{L:List yp}:∀{xs:List y7} {a:za} {l:List za},(Za L a l xs).1=0->∀y∈xs,0<=y.buckets/\y.buckets<=4000000000
 |[],_,_,_,y,b=>by simp at b
 |x::xs,a,l,h,y,b=>by
  simp only[Za]at h;split at h
  ·split at h
   ·split at h
    ·rename_i c;rcases zx.1 b with rfl|b
     ·unfold XJ at c;split at c
      ·rename_i d;rw[YG]at d;omega
      ·exact absurd c (by simp)
     ·exact o5 h y b
    ·rename_i c;exact absurd h c
   ·rename_i c;exact absurd h c
  ·rename_i c;exact absurd h c
theorem Fl:∀{xs:List yk} {p:Option Int} {b:List Sp},Ce p b xs=0->∀y∈xs,0<=y.at_/\y.at_<=4000000000
 |[],_,_,_,y,a=>by simp at a
 |x::xs,p,b,h,y,a=>by
  simp only[Ce]at h;split at h
  ·rename_i d;split at h
   ·exact absurd h (by simp)
   ·split at h
    ·rename_i c;split at h
     ·exact absurd h (by simp)
     ·rcases zx.1 a with rfl|a
      ·unfold oV at d;rw[YG]at d;exact d
      ·exact Fl h y a
    ·rename_i c;exact absurd h c
  ·exact absurd h (by simp)
theorem o6:∀{l:List Sp} {lo:Int},Af lo l->Below 100000 l->∀s∈l,lo<s.1/\s.1<=100000/\lo<s.2/\s.2<=100000
 |[],_,_,_,s,hs=>by simp at hs
 |x::l,lo,h,a,s,hs=>by
  obtain⟨b,e,c⟩:=h;have f:=a x (by simp);rcases zx.1 hs with rfl|hs
  ·exact⟨b,by omega,by omega,by omega⟩
  ·have:=o6 c (fun y d=>a y (by simp[d])) s hs;omega
theorem o7:∀{l:List Rg} {n lo b:Int} {p:Option Int},Ah n lo b p l->0<=lo->n<=100->b<=100000->∀r∈l,0<=r.2.1/\r.2.1<=4000000000/\0<=r.2.2/\r.2.2<=4000000000
 |[],_,_,_,_,_,_,_,_,r,a=>by simp at a
 |x::l,n,lo,b,p,h,f,c,d,r,a=>by
  obtain⟨g,i,j,k,m,o,e⟩:=h;rcases zx.1 a with rfl|a
  ·omega
  ·exact o7 e (by omega) c d r a
theorem lO{L:List yp}:∀{xs:List Xp} {a:za} {l:List za},(YF L a l xs).1=0->∀y∈xs,cD y
 |[],_,_,_,y,e=>by simp at e
 |x::xs,a,l,h,y,e=>by
  simp only[YF]at h;split at h
  ·rename_i c;rcases zx.1 e with rfl|e
   ·unfold Wg at c;split at c
    ·split at c
     ·split at c
      ·split at c
       ·rename_i g;split at c
        ·split at c
         ·rename_i i;have b:ko y.zQ=0:=c;have f:Ce none [] y.zQ=0:=by
           unfold ko at b;split at b
           ·exact absurd b (by simp)
           ·exact b
          refine⟨g,?_,Fl f,fun p Y s hs=>?_⟩
          ·obtain⟨j,_,_⟩:=XI i;exact o7 j (by omega) (by omega) (by omega)
          ·have:=XK b p Y;obtain⟨k,m,n,_⟩:=XH this;have:=o6 k m s hs;omega
         ·rename_i d;exact absurd c d
        ·rename_i d;exact absurd c d
       ·rename_i d;exact absurd c d
      ·exact absurd c (by simp)
     ·exact absurd c (by simp)
    ·rename_i d;exact absurd c d
   ·exact lO h y e
  ·rename_i c;exact absurd h c
theorem fX{b:Bk}(h:yT b=0):(∀y∈b.zr,0<=y.rest/\y.rest<=4000000000)/\(∀y∈b.holds,0<=y.buckets/\y.buckets<=4000000000)/\∀x∈b.wP,cD x:=by
 unfold yT at h;split at h
 ·exact absurd h (by simp)
 split at h
 ·rename_i a;split at h
  ·rename_i d;split at h
   ·rename_i e;exact⟨fun y f=>by have:=dD a y f;omega,o5 d,lO e⟩
   ·rename_i c;exact absurd h c
  ·rename_i c;exact absurd h c
 ·rename_i c;exact absurd h c
theorem kS{n:Int}(h:0<=n/\n<=4000000000):(wi n).length<=10:=Go.PrLaw.gq 9 n.toNat (by omega)
theorem Az:∀l:List za,(Lib.join l [32]).length<=(l.map fun w=>w.length+1).sum
 |[]=>by simp[Lib.join]
 |[a]=>by simp[Lib.join]
 |a::b::l=>by
  have h:=Az (b::l);have e:Lib.join (a::b::l) [32]=a++(32::Lib.join (b::l) [32]):=by simp[Lib.join,List.intercalate]
  rw[e];simp only[zt,zG,jT,ze,zf]at h⊢;omega
theorem Kb(l:List za):(aL l).length<=(l.map fun w=>w.length+1).sum+1:=by have:=Az l;unfold aL;rw[zt];simp only[ze,zf];omega
theorem Ve{α:Type}{f:α->za}{g:α->Nat}{c:Nat}:∀{l:List α},(∀x∈l,(f x).length<=c*g x)->(l.flatMap f).length<=c*jh g l
 |[],_=>by simp
 |x::l,h=>by
  have d:=h x (by simp);have e:=Ve (l:=l) fun y a=>h y (by simp[a])
  rw[yM,zt];have b:jh g (x::l)=g x+jh g l:=by simp[jh]
  rw[b,Nat.mul_add];omega
theorem ar{α:Type}{f:α->Nat}{c:Nat}:∀{l:List α},(∀x∈l,f x<=c)->(l.map f).sum<=c*l.length
 |[],_=>by simp
 |x::l,h=>by
  have b:=h x (by simp);have d:=ar (l:=l) fun y a=>h y (by simp[a])
  simp only[zG,jT,ze];rw[Nat.mul_succ];omega
theorem NJ(x:yp)(h:0<=x.rest/\x.rest<=4000000000):(aq x).length<=40*x.cb:=by have b:=kS h;have a:=Kb [Zn,x.name,x.we,wi x.rest];have c:x.cb=1+x.name.length+x.we.length:=rfl;unfold aq;simp only[zG,ji,jT,List.sum_nil,Zn,ze,zf]at a;simp only[Zn];omega
theorem NK(x:y7)(h:0<=x.buckets/\x.buckets<=4000000000):(KD x).length<=40*x.cb:=by
 have b:=kS h;have a:=Kb [xQ,x.name,x.we,wi x.buckets];have c:x.cb=1+x.name.length+x.we.length+jh (fun s=>1+s.length) x.zr:=rfl;have d:(x.zr.flatMap dE).length<=40*jh (fun s=>1+s.length) x.zr:=Ve fun s _=>by have:=Kb [32::32::s];simp only[zG,ji,jT,List.sum_nil,ze,zf]at this;unfold dE;omega
 unfold KD;rw[zt];simp only[zG,ji,jT,List.sum_nil,xQ,ze,zf]at a;simp only[xQ];omega
theorem NL{r:Rg}(h:0<=r.2.1/\r.2.1<=4000000000/\0<=r.2.2/\r.2.2<=4000000000):(Q2 r).length<=21:=by have a:=kS ⟨h.1,h.2.1⟩;have b:=kS h.2.2;unfold Q2;rw[zt,ze];omega
theorem NM{s:Sp}(h:0<=s.1/\s.1<=4000000000/\0<=s.2/\s.2<=4000000000):(Qc s).length<=21:=by have a:=kS ⟨h.1,h.2.1⟩;have b:=kS h.2.2;unfold Qc;rw[zt,ze];omega
theorem NN{x:Xp}(h:cD x):(aL (XL x)).length<=8+22*x.ja.length:=by
 have a:=Kb (XL x);have c:(x.ja.map fun r=>(Q2 r).length+1).sum<=22*x.ja.length:=ar fun r b=>by have:=NL (h.ja r b);omega
 unfold XL at a⊢;simp only[zG,ta,yL,jT,ze,zf]at a;omega
theorem Tr{x:Xp}(h:cD x){p:yk}(Y:p∈x.zQ):(bZ p).length<=40*p.cb:=by
 have a:=Kb (DS p);have b:(p.qw.map fun s=>(Qc s).length+1).sum<=22*p.qw.length:=ar fun s hs=>by have:=NM (h.spn p Y s hs);omega
 have c:=kS (h.phs p Y);have d:p.cb=1+p.qw.length:=rfl;unfold bZ;unfold DS at a⊢;simp only[zG,ta,yL,jT,ze,zf]at a;omega
theorem AA(c:Cnd):(vY c).1.length<=20000:=by
 unfold vY;split
 ·split
  ·simp
  ·rename_i h;simp only;omega
 ·simp
theorem Ts{x:Xp}(h:cD x):(su x).length<=30000*(x.cb+1):=by
 have a:=Kb [QJ,x.name,x.w9,x.flag,x.we];have b:=Kb [[32,32,105,102],(vY x.cond).1];have c:=NN h;have d:(x.zQ.flatMap bZ).length<=40*jh yk.cb x.zQ:=Ve fun p Y=>Tr h Y
 have e:=AA x.cond;have f:x.cb=x.name.length+x.w9.length+x.flag.length+x.cond.cb+x.we.length+x.ja.length+jh yk.cb x.zQ:=rfl;unfold su xpH xpI;simp only[zG,ji,jT,List.sum_nil,QJ,ze,zf]at a b;simp only[zt,QJ];omega
theorem Fm:∀{l:List Xp},(∀x∈l,cD x)->(l.flatMap su).length<=30000*(jh Xp.cb l+l.length)
 |[],_=>by simp
 |x::l,h=>by
  have b:=Ts (h x (by simp));have c:=Fm (l:=l) fun y a=>h y (by simp[a])
  rw[yM,zt];have d:jh Xp.cb (x::l)=x.cb+jh Xp.cb l:=by simp[jh]
  simp only[ze];omega
theorem Tt{b:Bk}(h:yT b=0)(e:b.cb<=zD):(eF b).length<=40000000000000:=by
 obtain⟨f,g,i⟩:=fX h;have j:(b.zr.flatMap aq).length<=40*jh yp.cb b.zr:=Ve fun x a=>NJ x (f x a)
 have k:(b.holds.flatMap KD).length<=40*jh y7.cb b.holds:=Ve fun x a=>NK x (g x a)
 have l:=Fm i;have m:b.wP.length<=100:=by
  unfold yT at h;split at h
  ·exact absurd h (by simp)
  ·rename_i c;omega
 have d:zD=268435456:=rfl;unfold Bk.cb at e;unfold eF;rw[zt,zt];omega
theorem Jk(a:za)(l:List za):Lib.join (a::l) [32]=a++l.flatMap fun w=>32::w:=by
 induction l generalizing a with
 |nil=>simp[Lib.join]
 |cons c l b=>
  have e:Lib.join (a::c::l) [32]=a++(32::Lib.join (c::l) [32]):=by simp[Lib.join,List.intercalate]
  rw[e,b c];simp
structure Jst where
 p:Nat
 e:Int
 i:Nat
namespace Jst
def fail(N:Nat)(st:Jst)(k:Nat)(x:Int):Jst:=if st.e=0 then⟨st.p,x,min k N⟩else st
def wA(st:Jst):Jst:=⟨st.p+1,st.e,st.i⟩
def go(st:Jst)(k:Nat):Jst:=⟨st.p+k,st.e,st.i⟩
end Jst
def jP(c:UInt8):Bool:=decide (48<=c)&&decide (c<=57)
def Xf(c:UInt8):Bool:=c==9||c==10||c==13||c==32
section
variable(s:za)
def jD(st:Jst):UInt8:=(s[st.p]?).getD 0
def Qd(st:Jst):Jst:=st.go ((s.drop st.p).takeWhile Xf).length
def QK(st:Jst)(c:UInt8):Bool×Jst:=if st.e=0/\s[st.p]?=some c then(true,st.wA)else(false,st.fail s.length st.p 10)
def Cf:za->Jst->Jst
 |[],st=>st
 |c::l,st=>if(QK s st c).1=true then Cf l (QK s st c).2 else(QK s st c).2
def lP(a:Nat):za->Nat->Nat->Jst->Nat×Nat×Jst
 |[],n,m,st=>(n,m,if m=0 then st.fail s.length st.p 10 else st)
 |c::l,n,m,st=>if jP c=true then(if m=a then(n,m,st.fail s.length st.p 10)else lP a l (n*10+(c.toNat-48)) (m+1) st.wA)else(n,m,if m=0 then st.fail s.length st.p 10 else st)
def b4(a:Nat)(st:Jst):Nat×Nat×Jst:=lP s a (s.drop st.p) 0 0 st
def zV:Val:=.mk 0 0 [] [] []
def DT(n:Int):Val:=.mk 2 n [] [] []
def Vf(st:Jst):Nat×Jst:=if jD s st=48 then(0,if jP (jD s st.wA)=true then st.wA.fail s.length st.wA.p 10 else st.wA)else((b4 s 12 st).1,(b4 s 12 st).2.2)
def Qx(n:Nat)(st:Jst):Nat×Jst:=if st.e=0/\jD s st=46 then(n+(b4 s 3 st.wA).1*10 ^ (3-(b4 s 3 st.wA).2.1),(b4 s 3 st.wA).2.2)else(n,st)
def Xg(st:Jst):Val×Jst:=
 let c:=if jD s st=45 then st.wA else st
 let a:=Vf s c;let b:=Qx s (a.1*1000) a.2
 (DT (if jD s st=45 then -(b.1:Int)else b.1),b.2)
def sv(c:UInt8):Option Nat:=if jP c=true then some (c.toNat-48)else if 97<=(c||| 32)/\(c||| 32)<=102 then some ((c||| 32).toNat-87)else none
def fw:Nat->Nat->Jst->Option Nat×Jst
 | 0,n,st=>(some n,st.wA)
 |k+1,n,st=>match(s[st.wA.p]?).bind sv with
  |some d=>fw k (n*16+d) st.wA
  |none=>(none,st.wA.fail s.length st.wA.p 10)
def WC(st:Jst):UInt8×Jst:=
 if st.p<s.length/\(jD s st=34\/jD s st=92\/jD s st=47)then(jD s st,st.wA)
 else if s.length<=st.p\/jD s st≠117 then(0,st.fail s.length st.p 10)
 else match(fw s 4 0 st).1 with
  |none=>(0,(fw s 4 0 st).2)
  |some n=>(UInt8.ofNat n,if n<32\/126<n then(fw s 4 0 st).2.fail s.length st.p 10 else(fw s 4 0 st).2)
def sw:Nat->za->Jst->za×Jst
 | 0,_,st=>([],st)
 |k+1,b,st=>if st.e≠0 then([],st)else
  if s.length<=st.p\/jD s st<32\/126<jD s st then([],st.fail s.length st.p 10)
  else if jD s st=34 then(b,st.wA)
  else if jD s st=92 then sw k (b++[(WC s st.wA).1]) (WC s st.wA).2
  else sw k (b++[jD s st]) st.wA
def j7(st:Jst):za×Jst:=if(QK s st 34).1=true then sw s (s.length+1) [] (QK s st 34).2 else([],(QK s st 34).2)
variable(f:Jst->Val×Jst)
def Cg:Nat->List Val->Jst->List Val×Jst
 | 0,l,st=>(l,st)
 |k+1,l,st=>if st.e≠0 then(l,st)else
  let a:=Qd s (f st).2
  if a.e=0/\jD s a=44 then Cg k (l++[(f st).1]) (Qd s a.wA)else(l++[(f st).1],(QK s a 93).2)
def Zo(st:Jst):List Val×Jst:=
 let a:=Qd s st.wA
 if jD s a=93 then([],a.wA)else Cg s f (s.length+1) [] a
def Q3(seen:List za)(st:Jst):Jst:=if seen.contains (j7 s st).1=true then(j7 s st).2.fail s.length st.p 7 else(j7 s st).2
def b5(seen:List za)(st:Jst):Jst:=Qd s (QK s (Qd s (Q3 s seen st)) 58).2
def Ch:Nat->List za->List (za×Val)->Jst->List (za×Val)×Jst
 | 0,_,l,st=>(l,st)
 |k+1,seen,l,st=>if st.e≠0 then(l,st)else
  let a:=b5 s seen st
  if a.e≠0 then(l,a)else
  let b:=Qd s (f a).2
  if b.e=0/\jD s b=44 then Ch k (seen++[(j7 s st).1]) (l++[((j7 s st).1,(f a).1)]) (Qd s b.wA)else(l++[((j7 s st).1,(f a).1)],(QK s b 125).2)
def Yd(st:Jst):List (za×Val)×Jst:=
 let a:=Qd s st.wA
 if jD s a=125 then([],a.wA)else Ch s f (s.length+1) [] [] a
end
def Jl(a:List (za×Val)->List (za×Val))(s:za):Nat->Jst->Val×Jst
 | 0,st=>(zV,st)
 |k+1,st=>
  if s.length<=st.p then(zV,st.fail s.length st.p 10)
  else if jD s st=110 then(zV,Cf s [110,117,108,108] st)
  else if jD s st=116 then(.mk 1 1 [] [] [],Cf s [116,114,117,101] st)
  else if jD s st=102 then(.mk 1 0 [] [] [],Cf s [102,97,108,115,101] st)
  else if jD s st=34 then(.mk 3 0 (j7 s st).1 [] [],(j7 s st).2)
  else if jD s st=91 then(.mk 4 0 [] (Zo s (Jl a s k) st).1 [],(Zo s (Jl a s k) st).2)
  else if jD s st=123 then(.mk 5 0 [] [] (a (Yd s (Jl a s k) st).1),(Yd s (Jl a s k) st).2)
  else if jD s st=45\/jP (jD s st)=true then Xg s st
  else(zV,st.fail s.length st.p 10)
def Qe(a:List (za×Val)->List (za×Val))(s:za)(p:Nat):Val×Nat×Int:=
 let r:=Jl a s (s.length+1) ⟨p,0,0⟩
 if r.2.e=0 then(r.1,r.2.p,0)else(zV,r.2.i,r.2.e)
end Go.Q
namespace Go.Q
open Go.RowKit Go.AM Go.PrLaw
def kI(s:za)(p:Nat)(l:za):Prop:=s.drop p=l
section
variable{s:za}{p i:Nat}{e:Int}{c:UInt8}{l:za}
theorem kI.get(h:kI s p (c::l)):s[p]?=some c:=by
 have:(s.drop p)[0]?=some c:=by rw[show s.drop p=c::l from h];rfl
 simpa using this
theorem kI.lt(h:kI s p (c::l)):p<s.length:=(zd.1 h.get).1
theorem kI.nlt(h:kI s p (c::l)):¬s.length<=p:=by have:=h.lt;omega
theorem kI.end_(h:kI s p []):s[p]?=none:=by have:s.length<=p:=List.drop_eq_nil_iff.1 h;exact qY this
theorem kI.app{a:za}(h:kI s p (a++l)):kI s (p+a.length) l:=by have:=jy (List.drop a.length) (show s.drop p=a++l from h);rw[List.drop_drop]at this;simpa[kI]using this
theorem kI.wA(h:kI s p (c::l)):kI s (p+1) l:=kI.app (a:=[c]) h
theorem kI.len(h:kI s p l):l.length<=s.length:=by have:=jy List.length (show s.drop p=l from h);simp at this;omega
theorem j8(h:kI s p (c::l)):jD s ⟨p,e,i⟩=c:=by simp[jD,h.get]
theorem lQ(h:kI s p (c::l)):QK s ⟨p,0,i⟩ c=(true,⟨p+1,0,i⟩):=by simp[QK,h.get,Jst.wA]
theorem Wh(h:kI s p l)(a:l.takeWhile Xf=[]):Qd s ⟨p,e,i⟩=⟨p,e,i⟩:=by have:s.drop p=l:=h;simp[Qd,this,a,Jst.go]
theorem sx:∀(w:za) {p:Nat},kI s p (w++l)->Cf s w ⟨p,0,i⟩=⟨p+w.length,0,i⟩
 |[],p,_=>rfl
 |c::w,p,h=>by rw[Cf,lQ h];simp only[qh];rw[sx w h.wA];simp;omega
end
section
variable{s:za}{i:Nat}{l:za}
theorem DU{c:UInt8}{t:za}(h:wC 32 126 (c::t)=true):¬c<32/\¬126<c/\wC 32 126 t=true:=by
 simp only[wC,yC,zn,pr,z6]at h;refine⟨fun e=>?_,fun e=>?_,h.2⟩
 ·have:=yA.1 e;simp at this;omega
 ·have:=yA.1 e;simp at this;omega
theorem DV:∀(t b:za) (k p:Nat),wC 32 126 t=true->kI s p (QE t++34::l)->t.length<k->sw s k b ⟨p,0,i⟩=(b++t,⟨p+(QE t).length+1,0,i⟩)
 |[],b,k+1,p,_,h,_=>by have h:kI s p (34::l):=h;have n:=h.nlt;have Y:jD s ⟨p,0,i⟩=34:=j8 h;simp[sw,n,Y,Jst.wA,QE]
 |c::t,b,k+1,p,q,h,m=>by
  obtain⟨r,u,o⟩:=DU q;by_cases a:(c==34||c==92)=true
  ·have d:QE (c::t)=92::c::QE t:=by rw[QE,zl a]
   rw[d]at h;have h:kI s p (92::(c::(QE t++34::l))):=h;have n:=h.nlt;have Y:jD s ⟨p,0,i⟩=92:=j8 h;have f:=h.wA;have Y2:jD s ⟨p+1,0,i⟩=c:=j8 f;have v:=f.lt;have w:WC s ⟨p+1,0,i⟩=(c,⟨p+1+1,0,i⟩):=by
    have g:c=34\/c=92\/c=47:=by simp at a;rcases a with h|h<;>simp[h]
    rw[WC,Y2,zl ⟨v,g⟩];rfl
   have j:=DV t (b++[c]) k (p+1+1) o f.wA (by simp at m;omega);rw[sw];simp only[Y,n,ne_eq,not_true,qz,false_or,Jst.wA,w,j];rw[zj (by decide),zj (by decide),zl trivial,d];simp;omega
  ·have d:QE (c::t)=c::QE t:=by rw[QE,zj a]
   rw[d]at h;have h:kI s p (c::(QE t++34::l)):=h;have n:=h.nlt;have Y:jD s ⟨p,0,i⟩=c:=j8 h;have e:¬c=34/\¬c=92:=by simp at a;exact a
   have j:=DV t (b++[c]) k (p+1) o h.wA (by simp at m;omega);rw[sw];simp only[Y,n,ne_eq,not_true,qz,false_or,r,u,e.1,e.2,Jst.wA,j,d];simp;omega
theorem zcQ(t:za):t.length<=(QE t).length:=by
 induction t with
 |nil=>simp
 |cons c t a=>rw[QE];split<;>simp<;>omega
theorem AB{t:za}{p:Nat}(b:wC 32 126 t=true)(h:kI s p (ju t++l)):j7 s ⟨p,0,i⟩=(t,⟨p+(ju t).length,0,i⟩):=by
 have a:kI s p (34::(QE t++34::l)):=by
  have e:ju t++l=34::(QE t++34::l):=by simp[ju]
  rwa [e]at h
 have c:=a.wA.len;have:=zcQ t;rw[j7,lQ a];simp only[qh];rw[DV t [] (s.length+1) (p+1) b a.wA (by simp at c;omega)];simp[ju];omega
end
def o8(l:za):Prop:=∀c,l.head?=some c->jP c=false/\c≠46
theorem dF{d:Nat}(h:d<10):jP (UInt8.ofNat (48+d))=true/\(UInt8.ofNat (48+d)).toNat-48=d:=by
 have e:(UInt8.ofNat (48+d)).toNat=48+d:=by rw[UInt8.toNat_ofNat'];exact fF (by omega)
 refine⟨?_,by omega⟩;simp only[jP,zn,z6,wH,e];simp;omega
def Xh(n:Nat)(c:UInt8):Nat:=n*10+(c.toNat-48)
theorem DW{s:za}{a:Nat}{l:za}(d:∀c,l.head?=some c->jP c=false):∀(D:za) (n m:Nat) (st:Jst),(∀c∈D,jP c=true)->m+D.length<=a->0<m+D.length->lP s a (D++l) n m st=(D.foldl Xh n,m+D.length,st.go D.length)
 |[],n,m,st,_,_,e=>by
  have b:¬m=0:=by simp at e;omega
  cases l with
  |nil=>simp[lP,b,Jst.go]
  |cons c l=>have:=d c rfl;simp[lP,this,b,Jst.go]
 |c::D,n,m,st,f,g,e=>by
  have h:=f c (by simp);have b:¬m=a:=by simp at g;omega
  rw[qC,lP,zl h,zj b,DW d D _ _ _ (fun x i=>f x (by simp[i])) (by simp at g;omega) (by omega)];simp[Xh,Jst.go,Jst.wA];omega
theorem Kc:∀(k u:Nat),u<k->(∀c∈Lib.decDigits u,jP c=true)/\(Lib.decDigits u).foldl Xh 0=u
 | 0,u,h=>by omega
 |k+1,u,h=>by
  by_cases b:u<10
  ·rw[dec_lt b];have:=dF b;generalize UInt8.ofNat (48+u)=x at this;simp[this.1,Xh,this.2]
  ·rw[X0 (by omega)];obtain⟨e,f⟩:=Kc k (u/10) (by omega);have:=dF (d:=u % 10) (by omega);generalize UInt8.ofNat (48+u % 10)=x at this;refine⟨fun c a=>?_,?_⟩
   ·rcases wy.1 a with a|a
    ·exact e c a
    ·simp at a;rw[a];exact this.1
   ·rw[List.foldl_append,f];simp[Xh,this.2];omega
theorem lR:∀(k u:Nat),u<k->0<u->∃c l,Lib.decDigits u=c::l/\c≠48/\jP c=true
 | 0,u,h,_=>by omega
 |k+1,u,h,f=>by
  by_cases a:u<10
  ·refine⟨_,[],dec_lt a,?_,(dF a).1⟩;have:=fL a;intro e;rw[e]at this;simp at this;omega
  ·obtain⟨c,l,b,d⟩:=lR k (u/10) (by omega) (by omega);exact⟨c,l++[_],by rw[X0 (by omega),b];rfl,d⟩
theorem lS{r:Nat}(h:r<1000)(m:0<r):(∀c∈yX r,jP c=true)/\0<(yX r).length/\(yX r).length<=3/\(yX r).foldl Xh 0*10 ^ (3-(yX r).length)=r:=by
 have a:=dF (d:=r/100) (by omega);have b:=dF (d:=r/10 % 10) (by omega);have c:=dF (d:=r % 10) (by omega);have g:=fL (d:=r/100) (by omega);have i:=fL (d:=r/10 % 10) (by omega);have j:=fL (d:=r % 10) (by omega);have e:yX r=if r % 10=0 then(if r/10 % 10=0 then[UInt8.ofNat (48+r/100)]else[UInt8.ofNat (48+r/100),UInt8.ofNat (48+r/10 % 10)])else[UInt8.ofNat (48+r/100),UInt8.ofNat (48+r/10 % 10),UInt8.ofNat (48+r % 10)]:=by
  unfold yX Lib.trimRightB;rw[Wx h];simp only[List.reverse_cons,List.reverse_nil,ye,qC,List.dropWhile_cons,g,i,j,z6];by_cases f:r % 10=0
  ·by_cases k:r/10 % 10=0
   ·have l:¬r/100=0:=by omega
    simp[f,k,l]
   ·simp[f,k]
  ·simp[f]
 rw[e];clear e g i j;generalize UInt8.ofNat (48+r/100)=x at a;generalize UInt8.ofNat (48+r/10 % 10)=y at b;generalize UInt8.ofNat (48+r % 10)=z at c;split
 ·split
  ·simp[a.1,a.2,Xh];omega
  ·simp[a.1,a.2,b.1,b.2,Xh];omega
 ·simp[a.1,a.2,b.1,b.2,c.1,c.2,Xh];omega
section
variable{s:za}{i:Nat}{l:za}
theorem Tu{u p:Nat}(j:u<1000000000000)(a:∀c,l.head?=some c->jP c=false)(h:kI s p (Lib.decDigits u++l)):Vf s ⟨p,0,i⟩=(u,⟨p+(Lib.decDigits u).length,0,i⟩):=by
 by_cases k:u=0
 ·subst k;have e:Lib.decDigits 0=[48]:=by rw[dec_lt (by omega)];rfl
  rw[e]at h⊢;have h:kI s p (48::l):=h;have Y:jD s ⟨p,0,i⟩=48:=j8 h;have m:jP (jD s ⟨p+1,0,i⟩)=false:=by
   cases l with
   |nil=>simp[jD,h.wA.end_];decide
   |cons c l=>rw[j8 h.wA];exact a c rfl
  simp[Vf,Y,Jst.wA,m]
 ·obtain⟨c,l',b,n,_⟩:=lR (u+1) u (by omega) (by omega);have d:=h;rw[b]at d;have Y:jD s ⟨p,0,i⟩=c:=j8 d;have hd:=Kc (u+1) u (by omega);have f:=gq 11 u (by simpa using j);have g:0<(Lib.decDigits u).length:=by rw[b];simp
  have hs:s.drop p=Lib.decDigits u++l:=h;rw[Vf,Y,zj n,b4];simp only;rw[hs,DW a _ _ _ _ hd.1 (by omega) (by omega),hd.2];rfl
theorem NO{n r p:Nat}(d:r<1000)(a:o8 l)(h:kI s p ((if r=0 then[]else 46::yX r)++l)):Qx s n ⟨p,0,i⟩=(n+r,⟨p+(if r=0 then[]else 46::yX r).length,0,i⟩):=by
 by_cases b:r=0
 ·subst b;have h:kI s p l:=h;have e:¬jD s ⟨p,0,i⟩=46:=by
   cases l with
   |nil=>simp[jD,h.end_]
   |cons c l=>rw[j8 h];exact(a c rfl).2
  simp[Qx,e]
 ·rw[zj b]at h⊢;have h:kI s p (46::(yX r++l)):=h;have Y:jD s ⟨p,0,i⟩=46:=j8 h;obtain⟨f,k,m,g⟩:=lS d (by omega);have hs:s.drop (p+1)=yX r++l:=h.wA;have hd:b4 s 3 ⟨p+1,0,i⟩=((yX r).foldl Xh 0,(yX r).length,⟨p+1+(yX r).length,0,i⟩):=by rw[b4];simp only;rw[hs,DW (fun c j=>(a c j).1) _ _ _ _ f (by omega) (by omega)];simp[Jst.go]
  simp only[Qx,Y,zgV,qh,Jst.wA,hd,g];simp;omega
theorem Tv{n:Int}{p:Nat}(r:-1000000000000000<n)(t:n<1000000000000000)(g:o8 l)(h:kI s p (QW n++l)):Xg s ⟨p,0,i⟩=(DT n,⟨p+(QW n).length,0,i⟩):=by
 have a:∀p,kI s p (Lib.decDigits (n.natAbs/1000)++((if n.natAbs % 1000=0 then[]else 46::yX (n.natAbs % 1000))++l))->Vf s ⟨p,0,i⟩=(n.natAbs/1000,⟨p+(Lib.decDigits (n.natAbs/1000)).length,0,i⟩) /\
   Qx s (n.natAbs/1000*1000) ⟨p+(Lib.decDigits (n.natAbs/1000)).length,0,i⟩=(n.natAbs,⟨p+(Lib.decDigits (n.natAbs/1000)).length+(if n.natAbs % 1000=0 then[]else 46::yX (n.natAbs % 1000)).length,0,i⟩):=by
  intro p h;refine⟨Tu (by omega) (fun c b=>?_) h,?_⟩
  ·by_cases j:n.natAbs % 1000=0
   ·rw[zl j]at b;exact(g c b).1
   ·rw[zj j]at b;simp at b;rw[<-b];decide
  ·rw[NO (by omega) g h.app];congr 1;omega
 unfold QW at h⊢;by_cases k:n<0
 ·simp only[zl k]at h⊢;have h:kI s p (45::(Lib.decDigits (n.natAbs/1000)++((if n.natAbs % 1000=0 then[]else 46::yX (n.natAbs % 1000))++l))):=by rw[z8,z8]at h;exact h
  have Y:jD s ⟨p,0,i⟩=45:=j8 h;obtain⟨d,f⟩:=a (p+1) h.wA;simp only[Xg,Y,qh,Jst.wA,d,f];have e:-(n.natAbs:Int)=n:=by omega
  rw[e];simp;omega
 ·simp only[zj k]at h⊢;have h:kI s p (Lib.decDigits (n.natAbs/1000)++((if n.natAbs % 1000=0 then[]else 46::yX (n.natAbs % 1000))++l)):=by rw[ye,z8]at h;exact h
  have Y:¬jD s ⟨p,0,i⟩=45:=by
   have:∃c l',Lib.decDigits (n.natAbs/1000)=c::l'/\jP c=true:=by
    have o:=Kc (n.natAbs/1000+1) (n.natAbs/1000) (by omega);cases hd:Lib.decDigits (n.natAbs/1000)with
    |nil=>exact(K3 _ hd).elim
    |cons c l'=>exact⟨c,l',rfl,o.1 c (by rw[hd];simp)⟩
   obtain⟨c,l',q,m⟩:=this;rw[q]at h;rw[j8 h];intro e;rw[e]at m;exact absurd m (by decide)
  obtain⟨d,f⟩:=a p h;simp only[Xg,Y,qz,d,f];have e:(n.natAbs:Int)=n:=by omega
  rw[e];simp;omega
end
end Go.Q
namespace Go.Q
theorem Vg(c:UInt8):∀(a t:za),c ∉ a->Lib.index (a++c::t) [c]=a.length
 |[],t,_=>by simp[Lib.index]
 |x::a,t,h=>by
  have b:¬c=x:=fun e=>h (by simp[e])
  have d:=Vg c a t fun e=>h (by simp[e])
  simp only[qC,Lib.index];have Y:[c].isPrefixOf (x::(a++c::t))=false:=by simp[List.isPrefixOf,b]
  rw[Y,d];simp
theorem AD(c:UInt8):∀(a:za),c ∉ a->Lib.index a [c]=-1
 |[],_=>by simp[Lib.index]
 |x::a,h=>by
  have b:¬c=x:=fun e=>h (by simp[e])
  have d:=AD c a fun e=>h (by simp[e])
  simp only[Lib.index];have Y:[c].isPrefixOf (x::a)=false:=by simp[List.isPrefixOf,b]
  rw[Y,d];simp
theorem lT{c:UInt8}{a:za}(t:za)(h:c ∉ a):Lib.split (a++c::t) [c]=a::Lib.split t [c]:=by
 have b:=Vg c a t h;have e:(a++c::t).drop (a.length+[c].length)=t:=by simp
 have d:=Lib.count_hit (by simp) b;rw[e]at d;unfold Lib.split;rw[d,cz 1,X2 b,e];simp
theorem AE{c:UInt8}{a:za}(h:c ∉ a):Lib.split a [c]=[a]:=by unfold Lib.split;rw[Lib.count_miss (AD c a h)];rfl
theorem eG:∀(b:List za),(∀l∈b,(10:UInt8) ∉ l)->Lib.split (b.flatMap (·++[10])) [10]=b++[[]]
 |[],_=>by rw[List.flatMap_nil,AE (by simp)];rfl
 |a::b,h=>by
  have c:=eG b fun l d=>h l (by simp[d])
  rw[yM,z8,kh,lT _ (h a (by simp)),c];rfl
theorem Vh:∀(c:List za),c≠[]->(∀w∈c,(32:UInt8) ∉ w)->Lib.split (Lib.join c [32]) [32]=c
 |[],h,_=>absurd rfl h
 |[a],_,h=>by rw[show Lib.join [a] [32]=a by simp[Lib.join]];exact AE (h a (by simp))
 |a::b::c,_,h=>by
  have d:=Vh (b::c) (by simp) fun w f=>h w (by simp[f])
  have e:Lib.join (a::b::c) [32]=a++(32::Lib.join (b::c) [32]):=by simp[Lib.join,List.intercalate]
  rw[e,lT _ (h a (by simp)),d]
def Tw(x:yp):za:=Lib.join [Zn,x.name,x.we,wi x.rest] [32]
def hldH(x:y7):za:=Lib.join [xQ,x.name,x.we,wi x.buckets] [32]
def Tx(x:y7):List za:=hldH x::x.zr.map fun s=>32::32::s
def Ty(p:yk):za:=Lib.join (DS p) [32]
def xpHL(x:Xp):za:=Lib.join [QJ,x.name,x.w9,x.flag,x.we] [32]
noncomputable def xpIL (x:Xp):za:=Lib.join [[32,32,105,102],(vY x.cond).1] [32]
noncomputable def xpL (x:Xp):List za:=xpHL x::xpIL x::Lib.join (XL x) [32]::x.zQ.map Ty
noncomputable def bkL (b:Bk):List za:=b.zr.map Tw++(b.holds.flatMap Tx++b.wP.flatMap xpL)
theorem lU{α:Type}(f:α->za)(g:α->List za)(h:∀x,f x=(g x).flatMap (·++[10])):∀l:List α,l.flatMap f=(l.flatMap g).flatMap (·++[10])
 |[]=>rfl
 |x::l=>by rw[yM,yM,pQ,h x,lU f g h l]
theorem dG(b:Bk):eF b=(bkL b).flatMap (·++[10]):=by
 unfold eF bkL;rw[pQ,pQ];have a:b.zr.flatMap aq=(b.zr.map Tw).flatMap (·++[10]):=by rw[List.flatMap_map];rfl
 have c:=lU KD Tx (fun x=>by unfold KD Tx;rw[yM,List.flatMap_map];congr 1;congr 1;funext s;simp[dE,aL,Lib.join]) b.holds
 have d:=lU su xpL (fun x=>by unfold su xpL;rw[yM,yM,yM,List.flatMap_map];rfl) b.wP
 rw[a,c,d]
def HS(s:za):Int:=((s.foldl Xh 0:Nat):Int)
theorem AF{n:Int}(c:UInt8)(h:c∈wi n):jP c=true:=(Kc _ _ (PO _)).1 c h
theorem Vi{n:Int}(h:0<=n):HS (wi n)=n:=by unfold HS wi;rw[(Kc _ _ (PO _)).2];omega
structure Pst where
 p:Nat
 d:Nat
 e:Int
 i:Nat
namespace Pst
def fail(st:Pst)(k:Nat)(x:Int):Pst:=if st.e=0 then⟨st.p,st.d,x,k⟩else st
def mv(st:Pst)(k:Nat):Pst:=⟨k,st.d,st.e,st.i⟩
def dn(st:Pst):Pst:=⟨st.p,st.d+1,st.e,st.i⟩
def up(st:Pst):Pst:=⟨st.p,st.d-1,st.e,st.i⟩
end Pst
def au(c:UInt8):Bool:=Wn c.toNat
def b6(c:UInt8):Bool:=c==40||c==41||c==44||c==46||c==124||c==61||c==60||c==62
def jx:za->za
 |[]=>[]
 |c::l=>if(c=60\/c=62)/\l.head?=some 61 then[c,61]else if b6 c=true then[c]else(c::l).takeWhile au
def zC:Cnd:=.mk 0 [] 0 [] [] [] []
section
variable(s:za)
def kK(st:Pst):Pst:=st.mv (st.p+((s.drop st.p).takeWhile (·==32)).length)
def KH(st:Pst):za:=jx (s.drop (kK s st).p)
def sy(st:Pst):Pst:=(kK s st).fail (kK s st).p 10
def vG(st:Pst)(w:za):Bool×Pst:=if st.e≠0 then(false,st)else if KH s st=w then(true,(kK s st).mv ((kK s st).p+w.length))else(false,kK s st)
def Xi(st:Pst)(w:za):Pst:=if(vG s st w).1=true then(vG s st w).2 else sy s (vG s st w).2
def NP(w:za):Bool:=match w with
 |[]=>false
 |c::_=>au c
def fx(st:Pst):za×Pst:=if st.e≠0\/NP (KH s st)=false then([],sy s (kK s st))else(KH s st,(kK s st).mv ((kK s st).p+(KH s st).length))
def DX(w:za):Bool:=match w with
 |[]=>false
 |c::_=>decide (97<=c)&&decide (c<=122)&&!(w==[110,117,108,108])&&!(w==[116,114,117,101])&&!(w==[102,97,108,115,101])
variable(srt:List (za×Val)->List (za×Val))(srv:List Val->List Val)
def Jm(st:Pst):Val×Pst:=
 let a:=kK s st
 if st.e≠0 then(zV,a)
 else if DX (KH s st)=true then(zV,sy s a)
 else let r:=Qe srt s a.p
  (r.1,(if r.2.2=0 then a else a.fail r.2.1 10).mv r.2.1)
def AG:Nat->List Val->Pst->List Val×Pst
 | 0,l,st=>(l,st)
 |k+1,l,st=>if(vG s st [124]).1=true then AG k (l++[(Jm s srt (vG s st [124]).2).1]) (Jm s srt (vG s st [124]).2).2 else(l,(vG s st [124]).2)
def AH(st:Pst):List Val×Pst:=
 if(vG s st [110,101,118,101,114]).1=true then([],(vG s st [110,101,118,101,114]).2)else
 let a:=Jm s srt (vG s st [110,101,118,101,114]).2;let r:=AG s srt (s.length+1) [a.1] a.2
 (srv r.1,r.2)
def sz(w:za):Int:=if w∈VC then(VC.idxOf w:Int)else -1
def tt(st:Pst):Cnd×Pst:=
 let a:=fx s st;let o:=sz (KH s a.2);let c:=kK s a.2
 if c.e≠0 then(.mk 4 a.1 o [] [] [] [],c)
 else if o<2 then(.mk 4 a.1 o [] [] [] [],sy s c)
 else let b:=Xi s c (ak o)
  if vE o=true then
   (if s[(kK s b).p]?=some 34 then(.mk 4 a.1 o [] (Jm s srt (kK s b)).1.s [] [],(Jm s srt (kK s b)).2)else(.mk 4 a.1 o [] [] [] [],sy s (kK s b)))
  else if Q0 o=true then(.mk 4 a.1 o [(Jm s srt b).1] [] [] [],(Jm s srt b).2)
  else(.mk 4 a.1 o (AH s srt srv b).1 [] [] [],(AH s srt srv b).2)
variable(f:Pst->Cnd×Pst)
def Cj:Nat->List Cnd->Pst->List Cnd×Pst
 | 0,l,st=>(l,st)
 |k+1,l,st=>if(vG s st [44]).1=true then Cj k (l++[(f (vG s st [44]).2).1]) (f (vG s st [44]).2).2 else(l,(vG s st [44]).2)
def AJ(st:Pst):Pst:=
 let a:=if st.e=0 then(if KH s st=[40]/\100<=st.d then(kK s st).fail 0 2 else kK s st)else st
 (Xi s a [40]).dn
def lV(st:Pst):List Cnd×Pst:=
 let a:=AJ s st;let r:List Cnd×Pst:=if a.e=0 then(if KH s a=[41]then([],kK s a)else Cj s f (s.length+1) [(f (kK s a)).1] (f (kK s a)).2)else([],a)
 (r.1,(Xi s r.2 [41]).up)
def tv(st:Pst):List Cnd×Pst:=
 let r:=f (AJ s st)
 ([r.1],(Xi s r.2 [41]).up)
end
def dH(s:za)(srt:List (za×Val)->List (za×Val))(srv:List Val->List Val):Nat->Pst->Cnd×Pst
 | 0,st=>(zC,st)
 |k+1,st=>
  let a:=vG s st [97,108,108]
  if a.1=true then(.mk 1 [] 0 [] [] [] (lV s (dH s srt srv k) a.2).1,(lV s (dH s srt srv k) a.2).2)else
  let b:=vG s a.2 [97,110,121]
  if b.1=true then(.mk 2 [] 0 [] [] [] (lV s (dH s srt srv k) b.2).1,(lV s (dH s srt srv k) b.2).2)else
  let c:=vG s b.2 [110,111,116]
  if c.1=true then(.mk 3 [] 0 [] [] [] (tv s (dH s srt srv k) c.2).1,(tv s (dH s srt srv k) c.2).2)else
  let d:=vG s c.2 [105,110]
  if d.1=true then(.mk 5 [] 0 [] [] (fx s d.2).1 [],(fx s d.2).2)else
  let g:=vG s d.2 [104,97,115]
  if g.1=true then(.mk 4 (fx s (Xi s g.2 [46])).1 1 [] [] [] [],(fx s (Xi s g.2 [46])).2)else
  let h:=vG s g.2 [46]
  if h.1=true then tt s srt srv h.2 else
  (zC,sy s h.2)
noncomputable def av (srt:List (za×Val)->List (za×Val)) (srv:List Val->List Val) (s:za):Cnd×Nat×Int:=
 if 20000<s.length then(zC,0,2)else
 let r:=dH s srt srv 102 ⟨0,0,0,0⟩;let a:=kK s r.2;let b:=if a.p<s.length then sy s a else a
 if b.e≠0 then(zC,b.i,b.e)
 else if r.1.check≠0 then(zC,0,r.1.check)else(r.1,0,0)
end Go.Q
namespace Go.Q
open Go.RowKit Go.AM Go.PrLaw
def RB(f:Jst->Val×Jst)(s:za)(v:Val):Prop:=∀(p i:Nat) (l:za),o8 l->kI s p (v.show++l)->f ⟨p,0,i⟩=(v,⟨p+v.show.length,0,i⟩)
theorem sA{c:UInt8}{l:za}(h:jP c=false)(b:c≠46):o8 (c::l):=fun x a=>by simp at a;subst a;exact⟨h,b⟩
def DY(c:UInt8):Bool:=c==110||c==116||c==102||c==34||c==91||c==123||c==45||jP c
theorem dI(n:Int):∃c l,QW n=c::l/\(c=45\/jP c=true):=by
 unfold QW;split
 ·exact⟨_,_,rfl,.inl rfl⟩
 ·have a:=Kc (n.natAbs/1000+1) (n.natAbs/1000) (by omega);cases hd:Lib.decDigits (n.natAbs/1000)with
  |nil=>exact(K3 _ hd).elim
  |cons c l'=>exact⟨c,_,rfl,.inr (a.1 c (by rw[hd];simp))⟩
theorem V4(v:Val):∃c l,v.show=c::l/\DY c=true:=by
 rw[QR];split
 ·exact⟨_,_,rfl,rfl⟩
 split
 ·split<;>exact⟨_,_,rfl,rfl⟩
 split
 ·obtain⟨c,l,b,a⟩:=dI v.n;exact⟨c,l,b,by rcases a with rfl|a<;>simp[DY, *]⟩
 split
 ·exact⟨_,_,rfl,rfl⟩
 split<;>exact⟨_,_,rfl,rfl⟩
theorem NQ{c:UInt8}{l:za}(h:DY c=true):(c::l).takeWhile Xf=[]:=by
 have:Xf c=false:=by
  cases a:Xf c
  ·rfl
  ·simp only[Xf,qW,w7]at a;rcases a with((rfl|rfl)|rfl)|rfl<;>exact absurd h (by decide)
 simp[List.takeWhile,this]
theorem sC(v:Val)(l:za):(v.show++l).takeWhile Xf=[]:=by obtain⟨c,t,a,b⟩:=V4 v;rw[a];exact NQ b
section
variable{s:za}{i:Nat}{l:za}{f:Jst->Val×Jst}
theorem yo(sep y:za)(ys:List za):Lib.joinTail sep (y::ys)=sep++(y++Lib.joinTail sep ys):=by simp[Lib.joinTail]
theorem NR:∀(xs:List Val) (x:Val) (b:List Val) (k p:Nat),RB f s x->(∀y∈xs,RB f s y)->kI s p (x.show++(Lib.joinTail [44] (xs.map Val.show)++93::l))->xs.length<k ->
  Cg s f k b ⟨p,0,i⟩=(b++x::xs,⟨p+x.show.length+(Lib.joinTail [44] (xs.map Val.show)).length+1,0,i⟩)
 |[],x,b,k+1,p,c,_,h,_=>by have h:kI s p (x.show++93::l):=h;have d:=c p i (93::l) (sA (by decide) (by decide)) h;have a:=h.app;have e:Qd s ⟨p+x.show.length,0,i⟩=⟨p+x.show.length,0,i⟩:=Wh a (by rfl);have Y:jD s ⟨p+x.show.length,0,i⟩=93:=j8 a;have m:=lQ (i:=i) a;rw[Cg];simp[d,e,Y,m,Lib.joinTail]
 |y::ys,x,b,k+1,p,c,j,h,n=>by
  rw[zG,yo]at h;have h:kI s p (x.show++(44::(y.show++(Lib.joinTail [44] (ys.map Val.show)++93::l)))):=by simpa using h
  have d:=c p i _ (sA (by decide) (by decide)) h;have a:=h.app;have e:Qd s ⟨p+x.show.length,0,i⟩=⟨p+x.show.length,0,i⟩:=Wh a (by rfl);have Y:jD s ⟨p+x.show.length,0,i⟩=44:=j8 a;have g:Qd s ⟨p+x.show.length+1,0,i⟩=⟨p+x.show.length+1,0,i⟩:=Wh a.wA (sC _ _);have o:=NR ys y (b++[x]) k (p+x.show.length+1) (j y (by simp)) (fun z q=>j z (by simp[q])) a.wA (by simp at n;omega);rw[Cg];simp only[d,e,Y,ne_eq,not_true,qz,zgV,qh,Jst.wA,g,o];rw[zG,yo];simp;omega
theorem b7{sep x:za}:∀{xs:List za},x∈xs->x.length<=(Lib.joinTail sep xs).length
 |y::ys,h=>by
  rw[yo];rcases zx.1 h with rfl|h
  ·simp;omega
  ·have:=b7 (sep:=sep) h;simp;omega
theorem AK{sep x:za}{xs:List za}(h:x∈xs):x.length<=(Lib.join xs sep).length:=by
 cases xs with
 |nil=>cases h
 |cons y ys=>
  rw[tw];rcases zx.1 h with rfl|h
  ·simp
  ·have:=b7 (sep:=sep) h;simp;omega
theorem Kd{c:UInt8}:∀(xs:List za),xs.length<=(Lib.joinTail [c] xs).length
 |[]=>by simp
 |y::ys=>by rw[yo];have:=Kd (c:=c) ys;simp;omega
theorem NS{xs:List Val}{p:Nat}(d:∀y∈xs,RB f s y)(h:kI s p (91::(Lib.join (xs.map Val.show) [44]++93::l))):Zo s f ⟨p,0,i⟩=(xs,⟨p+(Lib.join (xs.map Val.show) [44]).length+2,0,i⟩):=by
 have a:=h.wA;cases xs with
 |nil=>have a:kI s (p+1) (93::l):=a;have b:Qd s ⟨p+1,0,i⟩=⟨p+1,0,i⟩:=Wh a (by rfl);have Y:jD s ⟨p+1,0,i⟩=93:=j8 a;simp[Zo,Jst.wA,b,Y,Lib.join_nil]
 |cons x xs=>
  rw[zG,tw]at a⊢;rw[z8]at a;have b:Qd s ⟨p+1,0,i⟩=⟨p+1,0,i⟩:=Wh a (sC _ _);obtain⟨c,t,e,g⟩:=V4 x;have Y:jD s ⟨p+1,0,i⟩=c:=by rw[e]at a;exact j8 a
  have j:¬c=93:=by rintro rfl;exact absurd g (by decide)
  have k:=a.len;have m:=Kd (c:=44) (xs.map Val.show);rw[Zo];simp only[Jst.wA,b,Y,zj j];rw[NR xs x [] _ _ (d x (by simp)) (fun y n=>d y (by simp[n])) a (by simp at k m;omega)];simp;omega
theorem Fo{a:za}{seen:List za}{v:Val}{p:Nat}(e:wC 32 126 a=true)(hs:a ∉ seen)(h:kI s p (ju a++(58::(v.show++l)))):j7 s ⟨p,0,i⟩=(a,⟨p+(ju a).length,0,i⟩)/\b5 s seen ⟨p,0,i⟩=⟨p+(ju a).length+1,0,i⟩:=by
 have d:=AB (i:=i) e h;have b:=h.app;have f:Qd s ⟨p+(ju a).length,0,i⟩=⟨p+(ju a).length,0,i⟩:=Wh b (by rfl);have g:=lQ (i:=i) b;have c:Qd s ⟨p+(ju a).length+1,0,i⟩=⟨p+(ju a).length+1,0,i⟩:=Wh b.wA (sC _ _);refine⟨d,?_⟩;have j:Q3 s seen ⟨p,0,i⟩=⟨p+(ju a).length,0,i⟩:=by simp[Q3,d,hs]
 simp[b5,j,f,g,c]
theorem NT(a l:za):(ju a++l).takeWhile Xf=[]:=by simp[ju,List.takeWhile,Xf]
theorem NU:∀(c:List (za×Val)) (a:za) (x:Val) (seen:List za) (j:List (za×Val)) (k p:Nat),RB f s x->(∀y∈c,RB f s y.2)->wC 32 126 a=true->(∀y∈c,wC 32 126 y.1=true)->(a::c.map Prod.fst).Nodup->(∀b∈a::c.map Prod.fst,b ∉ seen) ->
  kI s p (kv (a,x)++(Lib.joinTail [44] (c.map kv)++125::l))->c.length<k ->
  Ch s f k seen j ⟨p,0,i⟩=(j++(a,x)::c,⟨p+(kv (a,x)).length+(Lib.joinTail [44] (c.map kv)).length+1,0,i⟩)
 |[],a,x,seen,j,k+1,p,n,_,o,_,_,hs,h,_=>by
  have h:kI s p (ju a++(58::(x.show++125::l))):=by simpa[kv,Lib.joinTail]using h
  obtain⟨q,r⟩:=Fo (i:=i) o (hs a (by simp)) h;have t:=n _ i _ (sA (by decide) (by decide)) h.app.wA;have d:=h.app.wA.app;have u:Qd s ⟨p+(ju a).length+1+x.show.length,0,i⟩=⟨p+(ju a).length+1+x.show.length,0,i⟩:=Wh d (by rfl);have Y:jD s ⟨p+(ju a).length+1+x.show.length,0,i⟩=125:=j8 d;have A:=lQ (i:=i) d;rw[Ch];simp[q,r,t,u,Y,A,kv,Lib.joinTail];omega
 |(b,y)::c,a,x,seen,j,k+1,p,n,w,o,m,e,hs,h,B=>by
  rw[zG,yo]at h;have h:kI s p (ju a++(58::(x.show++(44::(kv (b,y)++(Lib.joinTail [44] (c.map kv)++125::l)))))):=by simpa[kv]using h
  obtain⟨q,r⟩:=Fo (i:=i) o (hs a (by simp)) h;have t:=n _ i _ (sA (by decide) (by decide)) h.app.wA;have d:=h.app.wA.app;have u:Qd s ⟨p+(ju a).length+1+x.show.length,0,i⟩=⟨p+(ju a).length+1+x.show.length,0,i⟩:=Wh d (by rfl);have Y:jD s ⟨p+(ju a).length+1+x.show.length,0,i⟩=44:=j8 d;have v:Qd s ⟨p+(ju a).length+1+x.show.length+1,0,i⟩=⟨p+(ju a).length+1+x.show.length+1,0,i⟩:=Wh d.wA (by rw[kv,z8];exact NT _ _);rw[zG,zbu]at e;have C:=NU c b y (seen++[a]) (j++[(a,x)]) k _ (w (b,y) (by simp)) (fun z g=>w z (by simp[g])) (m (b,y) (by simp)) (fun z g=>m z (by simp[g])) e.2
   (fun z g=>by
    have D:=hs z (by simp at g⊢;right;exact g);have E:z≠a:=by rintro rfl;exact e.1 (by simpa using g)
    simp[D,E]) d.wA (by simp at B;omega)
  rw[Ch];simp only[q,r,t,u,Y,ne_eq,not_true,qz,zgV,qh,Jst.wA,v,C];rw[zG,yo];simp[kv];omega
theorem Tz{b:List (za×Val)}{p:Nat}(m:∀y∈b,RB f s y.2)(e:∀y∈b,wC 32 126 y.1=true)(n:(b.map Prod.fst).Nodup)(h:kI s p (123::(Lib.join (b.map kv) [44]++125::l))):Yd s f ⟨p,0,i⟩=(b,⟨p+(Lib.join (b.map kv) [44]).length+2,0,i⟩):=by
 have d:=h.wA;cases b with
 |nil=>have d:kI s (p+1) (125::l):=d;have e:Qd s ⟨p+1,0,i⟩=⟨p+1,0,i⟩:=Wh d (by rfl);have Y:jD s ⟨p+1,0,i⟩=125:=j8 d;simp[Yd,Jst.wA,e,Y,Lib.join_nil]
 |cons x b=>
  obtain⟨a,x⟩:=x;rw[zG,tw]at d⊢;rw[z8]at d;have g:Qd s ⟨p+1,0,i⟩=⟨p+1,0,i⟩:=Wh d (by rw[kv,z8];exact NT _ _);have Y:jD s ⟨p+1,0,i⟩=34:=by obtain⟨l',j⟩:∃l',kv (a,x)++(Lib.joinTail [44] (b.map kv)++125::l)=34::l':=⟨_,rfl⟩;rw[j]at d;exact j8 d
  have o:=d.len;have q:=Kd (c:=44) (b.map kv);rw[Yd];simp only[Jst.wA,g,Y];rw[zj (by decide),NU b a x [] [] _ _ (m (a,x) (by simp)) (fun y k=>m y (by simp[k])) (e (a,x) (by simp)) (fun y k=>e y (by simp[k])) (by simpa using n) (by simp) d (by simp at o q;omega)];simp;omega
end
theorem lW{k n:Int}{s:za}{i f:Nat}(h:xy k n s i f=0):br k=false/\JV k n s i f=false/\VQ k n=false/\Wz k n=false/\wC 32 126 s=true:=by
 unfold xy at h;split at h
 ·omega
 split at h
 ·omega
 split at h
 ·omega
 split at h
 ·omega
 split at h
 ·rename_i b c a e d;simp only[qW,not_or,Bool.not_eq_true]at b c a;exact⟨b,c,a.1,a.2,d⟩
 ·omega
theorem aw:∀{l:List Val},vw l=0->∀x∈l,x.fault=0
 |y::l,h,x,a=>by
  rw[vw]at h;split at h
  ·rename_i b;rcases zx.1 a with rfl|a
   ·exact b
   ·exact aw h x a
  ·rename_i b;exact(b h).elim
def EG(l:List (za×Val)):Prop:=l.Pairwise fun a b=>Op.bytesLess a.1 b.1=true
theorem ax:∀{l:List (za×Val)} {q:Option za},ZK q l=0->(∀x∈l,x.2.fault=0/\wC 32 126 x.1=true)/\EG l/\∀a,q=some a->∀x∈l,Op.bytesLess a x.1=true
 |[],q,_=>⟨by simp,List.Pairwise.nil,by simp⟩
 |(a,v)::l,q,h=>by
  rw[ZK]at h;split at h
  ·simp at h
  split at h
  ·simp at h
  split at h
  case isFalse g=>exact(g h).elim
  rename_i d i j;obtain⟨k,m,e⟩:=ax h;have n:wC 32 126 a=true:=by simp[ur]at d;exact d.2
  have f:∀b,q=some b->Op.bytesLess b a=true:=fun b c=>by
   subst c;have:Ca a b=false:=by simpa[oC]using i
   exact Yc this
  refine⟨fun x hx=>?_,BM.2 ⟨fun x hx=>e a rfl x hx,m⟩,fun b c x hx=>?_⟩
  ·rcases zx.1 hx with rfl|hx
   ·exact⟨j,n⟩
   ·exact k x hx
  ·rcases zx.1 hx with rfl|hx
   ·exact f b c
   ·exact lI (f b c) (e a rfl x hx)
theorem EG.nodup{l:List (za×Val)}(h:EG l):(l.map Prod.fst).Nodup:=by
 unfold List.Nodup;rw[F5];refine h.imp fun{a b} c e=>?_
 rw[e,Nx]at c;cases c
theorem TA{s:za}{g:List (za×Val)->List (za×Val)}(G:∀l,EG l->g l=l)(v:Val):v.fault=0->∀k,v.show.length<=k->RB (Jl g s k) s v:=by
 induction v using Val.ind with
 |h K n t r m h1 h2=>
  intro u k d p i l hl h;have H:xy K n t r.length m.length=0/\vw r=0/\ZK none m=0:=by
   rw[bt]at u;split at u
   ·rename_i a;split at u
    ·rename_i b;exact⟨a,b,u⟩
    ·rename_i b;exact(b u).elim
   ·rename_i a;exact(a u).elim
  obtain⟨H,hV,hF⟩:=H;obtain⟨c1,P,Q,c4,c5⟩:=lW H;obtain⟨R,S,g3⟩:=ax hF;simp only[br,Ju,XO]at c1;simp only[JV,Ju,zdF,bne_eq_false_iff_eq,Bool.not_eq_false',w7,XO]at P;obtain⟨⟨⟨d1,d2⟩,d3⟩,d4⟩:=P;have w:K≠4->r=[]:=fun e=>by
   rcases d3 with h|h
   ·exact qQ.1 (by omega)
   ·exact(e h).elim
  have x:K≠5->m=[]:=fun e=>by
   rcases d4 with h|h
   ·exact qQ.1 (by omega)
   ·exact(e h).elim
  have z:K≠3->t=[]:=fun e=>by
   rcases d2 with h|h
   ·exact h
   ·exact(e h).elim
  have E:K≠1->K≠2->n=0:=fun e e'=>by
   rcases d1 with(h|h)|h
   ·exact h
   ·exact(e h).elim
   ·exact(e' h).elim
  obtain⟨c,t',T,e2⟩:=V4 (.mk K n t r m);obtain⟨k,rfl⟩:∃k',k=k'+1:=⟨k-1,by rw[T]at d;simp at d;omega⟩;have U:=h;rw[T]at U;have o:=U.nlt;rw[fO]at h d⊢;rw[Jl];by_cases I:K=0
  ·rw[zl I]at h⊢;have Y:jD s ⟨p,0,i⟩=110:=j8 h;rw[sx [110,117,108,108] h,w (by omega),x (by omega),z (by omega),E (by omega) (by omega),I];simp[o,Y,zV]
  rw[zj I]at h d⊢;by_cases A:K=1
  ·rw[zl A]at h⊢;rw[w (by omega),x (by omega),z (by omega)];have B:n=0\/n=1:=by simp only[VQ,A,beq_self_eq_true,vN,zdF,bne_eq_false_iff_eq]at Q;exact Q
   rcases B with rfl|rfl
   ·have h:kI s p ([102,97,108,115,101]++l):=h;have Y:jD s ⟨p,0,i⟩=102:=j8 h;rw[sx [102,97,108,115,101] h];simp[o,Y,A]
   ·have h:kI s p ([116,114,117,101]++l):=h;have Y:jD s ⟨p,0,i⟩=116:=j8 h;rw[sx [116,114,117,101] h];simp[o,Y,A]
  rw[zj A]at h d⊢;by_cases F:K=2
  ·rw[zl F]at h⊢;rw[w (by omega),x (by omega),z (by omega),F];have W:-1000000000000000<n/\n<1000000000000000:=by simp[Wz,F]at c4;omega
   obtain⟨q,t2,f1,f2⟩:=dI n;have C:=h;rw[f1]at C;have Y:jD s ⟨p,0,i⟩=q:=j8 C;rw[Tv W.1 W.2 hl h];have q1:¬q=110/\¬q=116/\¬q=102/\¬q=34/\¬q=91/\¬q=123:=by
    rcases f2 with rfl|f2
    ·decide
    ·refine⟨?_,?_,?_,?_,?_,?_⟩<;>(rintro rfl;exact absurd f2 (by decide))
   simp[o,Y,q1,f2,DT]
  rw[zj F]at h d⊢;by_cases J:K=3
  ·rw[zl J]at h⊢;rw[w (by omega),x (by omega),E (by omega) (by omega),J];have Y:jD s ⟨p,0,i⟩=34:=by obtain⟨l',L⟩:∃l',ju t++l=34::l':=⟨_,rfl⟩;have X:=h;rw[L]at X;exact j8 X
   rw[AB c5 h];simp[o,Y]
  rw[zj J]at h d⊢;by_cases M:K=4
  ·rw[zl M]at h d⊢;rw[x (by omega),E (by omega) (by omega),z (by omega),M];have D:kI s p (91::(Lib.join (r.map Val.show) [44]++93::l)):=by simpa using h
   have Y:jD s ⟨p,0,i⟩=91:=j8 D;have N:∀y∈r,RB (Jl g s k) s y:=fun y j=>h1 y j (aw hV y j) k (by have:=AK (sep:=[44]) (List.mem_map_of_mem (f:=Val.show) j);simp at d;omega)
   rw[NS N D];simp[o,Y];omega
  rw[zj M]at h d⊢;have k5:K=5:=by omega
  rw[w (by omega),E (by omega) (by omega),z (by omega),k5];have D:kI s p (123::(Lib.join (m.map kv) [44]++125::l)):=by simpa using h
  have Y:jD s ⟨p,0,i⟩=123:=j8 D;have N:∀y∈m,RB (Jl g s k) s y.2:=fun y j=>h2 y j (R y j).1 k (by have:=AK (sep:=[44]) (List.mem_map_of_mem (f:=kv) j);simp[kv]at d this;omega)
  rw[Tz N (fun y j=>(R y j).2) S.nodup D,G m S];simp[o,Y];omega
theorem NV{s:za}{a:List (za×Val)->List (za×Val)}(c:∀l,EG l->a l=l){v:Val}(d:v.fault=0){p:Nat}{l:za}(e:o8 l)(h:kI s p (v.show++l)):Qe a s p=(v,p+v.show.length,0):=by have b:=h.len;have:=TA (s:=s) c v d (s.length+1) (by simp at b;omega) p 0 l e h;simp[Qe,this]
end Go.Q
namespace Go.Q
structure XS (v:Val) (o3 o4:O) (Y:Hp) (Z:Nat):Prop where
 b0:Y 0=some ⟨112,5,false,[[int v.kind,int v.n,str v.s,o3,o4]]⟩
 b1:Y 1=some ⟨112,5,false,[[int 0,int 0,.v (.string ⟨#[]⟩),.nil,.nil]]⟩
 s3:qR Y Z 112 5 o3 (v.items.map Val.V)
 s4:qR Y Z 149 6 o4 (v.fields.map wa)
 d3:∀id m,id<2->o3≠.own id 0 m
 d4:∀id m,id<2->o4≠.own id 0 m
 d:∀id m m',o3=.own id 0 m->o4≠.own id 0 m'
 Xm:2<=Z
structure Ctxt where
 key:List UInt8
 attrs:List (List UInt8×Val)
end Go.Q
namespace Go.AM
def NW(st:List Int):Nat:=st.count 0
structure Kept (st st':List Int):Prop where
 len:st'.length=st.length
 wh:NW st'<=NW st
 black:∀j:Nat,st[j]?=some 2->st'[j]?=some 2
 grey:∀j:Nat,st'[j]?=some 1↔st[j]?=some 1
 jd:(∀v∈st,v=0\/v=1\/v=2)->∀v∈st',v=0\/v=1\/v=2
inductive Wayn (E:Nat->Nat->Prop):Nat->Nat->Prop
 |one {a b:Nat}:E a b->Wayn E a b
 |tail {a b c:Nat}:Wayn E a b->E b c->Wayn E a c
structure Bfs {α:Type} (next:α->List α) (start out queue:List α):Prop where
 nodup:out.Nodup
 strt:∀a∈start,a∈out\/a∈queue
 step:∀a∈out,∀b∈next a,b∈out\/b∈queue
 only:∀(Q:α->Prop),(∀a∈start,Q a)->(∀a b,Q a->b∈next a->Q b)->(∀a∈out,Q a)/\∀a∈queue,Q a
inductive From {α:Type} (next:α->List α) (start:List α):α->Prop
 |here {a:α}:a∈start->From next start a
 |there {a b:α}:From next start a->b∈next a->From next start b
end Go.AM
namespace Go.Q
structure tm where
 name:List UInt8
 ins:List (List UInt8)
 outs:List (List UInt8)
 cond:Cnd
def tm.V(s:tm):zb:=[str s.name,.sl 1 (zA s.ins),.sl 1 (zA s.outs)]++s.cond.V
theorem Fp(s:tm):s.V=[str s.name,.sl 1 (zA s.ins),.sl 1 (zA s.outs),int s.cond.kind,str s.cond.attr,int s.cond.op,.sl 5 (s.cond.jd.map Val.V),str s.cond.pat,str s.cond.name,.sl 7 (s.cond.args.map Cnd.V)]:=by unfold tm.V;rw[qH];rfl
@[simp]theorem zhR(s:tm):s.V.length=10:=by rw[Fp];rfl
@[simp]theorem zgv(s:tm):s.V.drop 3=s.cond.V:=rfl
@[simp]theorem ziJ(s:tm)(h:0<s.V.length):s.V[0]=str s.name:=rfl
@[simp]theorem ziK(s:tm)(h:1<s.V.length):s.V[1]=.sl 1 (zA s.ins):=rfl
@[simp]theorem ziL(s:tm)(h:2<s.V.length):s.V[2]=.sl 1 (zA s.outs):=rfl
@[simp]theorem zeH(s:tm):s.V.all O.wY=true:=by rw[Fp];rfl
mutual
def Cnd.names:Cnd->List za
 | .mk k _ _ _ _ n l=>(if k=5 then[n]else[])++P9 l
def P9:List Cnd->List za
 |[]=>[]
 |c::l=>c.names++P9 l
end
noncomputable def idxG (l:List tm) (n:za):Nat:=(dx (l.map tm.name) n).1
noncomputable def zgw (l:List tm) (n:za):Bool:=(dx (l.map tm.name) n).2
noncomputable def zgx (l:List tm) (i:Nat):List Nat:=match l[i]? with
 |some s=>s.cond.names.map (idxG l)
 |none=>[]
def zba:Option za->List za->Int
 |_,[]=>0
 |p,k::l=>if K1 k=true then(if oC p k=true then 8 else zba (some k) l)else 3
def Fq(l:List za):Int:=if(1000:Int)<l.length then 2 else zba none l
noncomputable def segF (s:tm):Int:=if Fq s.ins=0 then(if Fq s.outs=0 then(if(s.ins.any fun k=>s.outs.contains k)=true then 7 else s.cond.check)else Fq s.outs)else Fq s.ins
structure ziY (l:List tm):Prop where
 len:l.length<=100
 up:UpN (l.map tm.name)
 right:∀s∈l,qS s.name=true/\segF s=0
 known:∀s∈l,∀n∈s.cond.names,zgw l n=true
 acyc:∀i:Nat,¬Wayn (fun a b=>b∈zgx l a) i i
mutual
def Cnd.Ra(Xn:za->Bool)(b:Cnd->Bool):Cnd->Bool
 | .mk k a o v p n l=>if k=1 then allM Xn b l else if k=2 then anyM Xn b l else if k=3 then !(zg7 Xn b l)else if k=5 then Xn n else b (.mk k a o v p n l)
def allM(Xn:za->Bool)(a:Cnd->Bool):List Cnd->Bool
 |[]=>true
 |c::l=>c.Ra Xn a&&allM Xn a l
def anyM(Xn:za->Bool)(a:Cnd->Bool):List Cnd->Bool
 |[]=>false
 |c::l=>c.Ra Xn a||anyM Xn a l
def zg7(Xn:za->Bool)(a:Cnd->Bool):List Cnd->Bool
 |[]=>false
 |c::_=>c.Ra Xn a
end
@[simp]theorem zhS(s:js):s.V.length=11:=rfl
end Go.Q
namespace Go.LikeLaw
inductive Lk:List UInt8->List UInt8->Prop
 |nil:Lk [] []
 |Rb {t p:List UInt8}:Lk t p->Lk t (42::p)
 |Rc {c:UInt8} {t p:List UInt8}:Lk t (42::p)->Lk (c::t) (42::p)
 |one {c q:UInt8} {t p:List UInt8}:q≠42->(q=63\/q=c)->Lk t p->Lk (c::t) (q::p)
theorem B9{t p:za}:Lk t (42::p)↔∃a b,t=a++b/\Lk b p:=by
 constructor
 ·intro h;generalize d:(42::p:za)=q at h
  induction h with
  |nil=>cases d
  |Rb h _=>cases d;exact⟨[],_,rfl,h⟩
  | @Rc c t i h e=>obtain⟨a,b,rfl,g⟩:=e d;exact⟨c::a,b,rfl,g⟩
  |one f _ _=>cases d;exact absurd rfl f
 ·rintro⟨a,b,rfl,h⟩
  induction a with
  |nil=>exact .Rb h
  |cons c a e=>exact .Rc e
theorem Fs{c q:UInt8}{t p:za}(a:q≠42):Lk (c::t) (q::p)↔(q=63\/q=c)/\Lk t p:=by
 constructor
 ·intro h;cases h with
  |Rb=>exact absurd rfl a
  |Rc=>exact absurd rfl a
  |one _ b d=>exact⟨b,d⟩
 ·rintro⟨b,d⟩;exact .one a b d
theorem AL{q:UInt8}{p:za}(a:q≠42):¬Lk [] (q::p):=by intro h;cases h;exact a rfl
theorem split{k:za}:∀{g t:za},Lk t (g++k)->∃d e,t=d++e/\Lk d g/\Lk e k
 |[],t,h=>⟨[],t,rfl,.nil,h⟩
 |q::g,t,h=>by
  by_cases f:q=42
  ·subst f;obtain⟨a,b,rfl,l⟩:=B9.1 h;obtain⟨d,e,rfl,i,j⟩:=split l;exact⟨a++d,e,by simp,B9.2 ⟨a,d,rfl,i⟩,j⟩
  ·cases t with
   |nil=>exact absurd h (AL f)
   |cons c t=>obtain⟨a,b⟩:=(Fs f).1 h;obtain⟨d,e,rfl,i,j⟩:=split b;exact⟨c::d,e,rfl,.one f a i,j⟩
theorem Xn{s:za}(hs:∀q∈s,q≠42){p:za}:∀{t:za},Lk t (s++p)->s.length<=t.length/\Lk (t.drop s.length) p:=by
 induction s with
 |nil=>intro t h;exact⟨by simp,h⟩
 |cons q s d=>
  intro t h;have a:q≠42:=hs q (by simp);cases t with
  |nil=>exact absurd h (AL a)
  |cons c t=>obtain⟨_,b⟩:=(Fs a).1 h;obtain⟨g,e⟩:=d (fun x f=>hs x (by simp[f])) b;exact⟨by simp;omega,by simpa using e⟩
structure Inv (t p:List UInt8) (star:Int) (fr i k:Nat):Prop where
 hi:i<=t.length
 hk:k<=p.length
 none_:star<0->star=-1/\(Lk t p↔Lk (t.drop i) (p.drop k))
 some_:0<=star->∃s,p.drop (star.toNat+1)=s++p.drop k/\star.toNat+1+s.length=k/\fr+s.length=i/\(∀q∈s,q≠42) /\
  (∀r,Lk (t.drop i) r->Lk (t.drop fr) (s++r))/\(Lk t p↔∃f,fr<=f/\f<=t.length/\Lk (t.drop f) (p.drop (star.toNat+1)))
end Go.LikeLaw
namespace Go.Q
open Go.RowKit Go.AM Go.LikeLaw
structure LInv (t p:List UInt8) (star:Int) (fr i k:Nat):Prop extends LikeLaw.Inv t p star fr i k where
 s0:-1<=star
 s1:star<k
 f1:fr<=i
end Go.Q
namespace Go.Q
theorem lX{α d:Type}(f:d->α)(c:α->α->Int):∀a b:List d,jg c (a.map f) (b.map f)=jg (fun x y=>c (f x) (f y)) a b
 |[],[]=>rfl
 |[],_::_=>rfl
 |_::_,[]=>rfl
 |x::a,y::b=>by simp only[zG,jg,lX f c a b]
def HT(v:Val):Int:=if v.kind=1\/v.kind=2 then v.n else 0
def HU(v:Val):za:=if v.kind=3 then v.s else[]
def AN(v:Val):List Val:=if v.kind=4 then v.items else[]
def AO(v:Val):List (za×Val):=if v.kind=5 then v.fields else[]
theorem DZ(a b:Val):wz a b=xm (fun x y=>yO x.kind y.kind) (xm (fun x y=>yO (HT x) (HT y)) (xm (fun x y=>jU (HU x) (HU y)) (xm (fun x y=>jg wz (AN x) (AN y)) fun x y=>jg vX (AO x) (AO y)))) a b:=by
 rw[oI];unfold xm;by_cases i:a.kind=b.kind
 ·have j:yO a.kind b.kind=0:=by rw[i];exact ZA.refl _
  have s:yO 0 0=0:=ZA.refl _;have n:jU [] []=0:=ZB.refl _;have k:jg wz [] []=0:=rfl;have g:jg vX [] []=0:=rfl;rw[zl i,zl j];unfold HT HU AN AO;dsimp only;by_cases o:b.kind=1\/b.kind=2
  ·have t:¬b.kind=3:=by omega
   have l:¬b.kind=4:=by omega
   have e:¬b.kind=5:=by omega
   have m:a.kind=1\/a.kind=2:=by omega
   have f:¬a.kind=3:=by omega
   have d:¬a.kind=4:=by omega
   have c:¬a.kind=5:=by omega
   simp only[zl o,zj t,zj l,zj e,zl m,zj f,zj d,zj c,n,k,g,qh];split
   ·rename_i h;exact h
   ·rfl
  ·have m:¬(a.kind=1\/a.kind=2):=by omega
   simp only[zj o,zj m,s,qh];by_cases p:b.kind=3
   ·have l:¬b.kind=4:=by omega
    have e:¬b.kind=5:=by omega
    have f:a.kind=3:=by omega
    have d:¬a.kind=4:=by omega
    have c:¬a.kind=5:=by omega
    simp only[zl p,zj l,zj e,zl f,zj d,zj c,k,g,qh];split
    ·rename_i h;exact h
    ·rfl
   ·have f:¬a.kind=3:=by omega
    simp only[zj p,zj f,n,qh];by_cases q:b.kind=4
    ·have e:¬b.kind=5:=by omega
     have d:a.kind=4:=by omega
     have c:¬a.kind=5:=by omega
     simp only[zl q,zj e,zl d,zj c,g];split
     ·rename_i h;exact h
     ·rfl
    ·have d:¬a.kind=4:=by omega
     simp only[zj q,zj d,k,qh];by_cases r:b.kind=5
     ·have c:a.kind=5:=by omega
      simp only[zl r,zl c]
     ·have c:¬a.kind=5:=by omega
      simp only[zj r,zj c,g]
 ·have j:¬yO a.kind b.kind=0:=by unfold yO;split<;>(try split)<;>omega
  rw[zj i,zj j]
abbrev Vj(n:Nat):={v:Val // v.vb<=n}
def D0(n:Nat)(v:Vj (n+1)):List (Vj n):=(AN v.1).attach.map fun x=>⟨x.1,by
 have a:=x.2;unfold AN at a;split at a
 ·have b:=xh a;have c:=ZN v.1;have d:=v.2;omega
 ·cases a⟩
def D1(n:Nat)(v:Vj (n+1)):List (za×Vj n):=(AO v.1).attach.map fun x=>(x.1.1,⟨x.1.2,by
 have a:=x.2;unfold AO at a;split at a
 ·have b:=Wy a;have c:=ZN v.1;have d:=v.2;omega
 ·cases a⟩)
theorem AP(n:Nat)(v:Vj (n+1)):(D0 n v).map (·.1)=AN v.1:=by unfold D0;rw[ta];exact List.attach_map_subtype_val _
theorem AQ(n:Nat)(v:Vj (n+1)):(D1 n v).map (fun x=>(x.1,x.2.1))=AO v.1:=by unfold D1;rw[ta];exact List.attach_map_subtype_val _
theorem D2(a b:za×Val):vX a b=xm (fun x y=>jU x.1 y.1) (fun x y=>wz x.2 y.2) a b:=by
 unfold vX xm iU;simp only[iU];split
 ·split
  ·rename_i c;rw[c]
  ·rfl
 ·rfl
theorem fY:∀n:Nat,TO fun a b:Vj n=>wz a.1 b.1
 | 0=>⟨fun x=>absurd x.2 (by have:=JU x.1;omega),fun x _=>absurd x.2 (by have:=JU x.1;omega),fun x _ _=>absurd x.2 (by have:=JU x.1;omega)⟩
 |n+1=>by
  have c:=fY n;have:(fun a b:Vj (n+1)=>wz a.1 b.1)=xm (fun x y=>yO x.1.kind y.1.kind) (xm (fun x y=>yO (HT x.1) (HT y.1)) (xm (fun x y=>jU (HU x.1) (HU y.1)) (xm (fun x y=>jg (fun p q:Vj n=>wz p.1 q.1) (D0 n x) (D0 n y)) fun x y=>jg (xm (fun p q:za×Vj n=>jU p.1 q.1) fun p q=>wz p.2.1 q.2.1) (D1 n x) (D1 n y)))):=by
   funext a b;rw[DZ];unfold xm;have d:jg wz (AN a.1) (AN b.1)=jg (fun p q:Vj n=>wz p.1 q.1) (D0 n a) (D0 n b):=by rw[<-AP n a,<-AP n b,lX]
   have e:jg vX (AO a.1) (AO b.1)=jg (fun x y:za×Vj n=>if jU x.1 y.1=0 then wz x.2.1 y.2.1 else jU x.1 y.1) (D1 n a) (D1 n b):=by rw[<-AQ n a,<-AQ n b,lX];congr 1;funext x y;exact D2 _ _
   simp only[d,e]
  rw[this];exact TO.lex (ZA.pull fun x:Vj (n+1)=>x.1.kind) (TO.lex (ZA.pull fun x:Vj (n+1)=>HT x.1) (TO.lex (ZB.pull fun x:Vj (n+1)=>HU x.1) (TO.lex ((fR c).pull (D0 n)) ((fR (TO.lex (ZB.pull fun p:List UInt8×Vj n=>p.1) (c.pull fun p:List UInt8×Vj n=>p.2))).pull (D1 n)))))
theorem VE:TO wz where
 refl x:=(fY x.vb).refl ⟨x,zk _⟩
 flip x y:=(fY (x.vb+y.vb)).flip ⟨x,by omega⟩ ⟨y,by omega⟩
 tr x y z:=(fY (x.vb+y.vb+z.vb)).tr ⟨x,by omega⟩ ⟨y,by omega⟩ ⟨z,by omega⟩
def NX(l:List Val):Prop:=l.Pairwise fun a b=>wz a b<0
end Go.Q
namespace Go.Q
open Go.RowKit Go.AM Go.PrLaw
def Ky(l:za):Prop:=∀c,l.head?=some c->c=41\/c=44
def tight(l:za):Prop:=l.takeWhile (·==32)=[]
theorem yl{c:UInt8}{l:za}(h:c≠32):tight (c::l):=by
 have:(c==32)=false:=by simpa using h
 simp[tight,List.takeWhile,this]
theorem eH{l:za}(h:Ky l):tight l:=by
 cases l with
 |nil=>rfl
 |cons c l=>rcases h c rfl with rfl|rfl<;>exact yl (by decide)
section
variable{s:za}{p d i:Nat}{e:Int}{l:za}
theorem Zb(h:kI s p l)(a:tight l):kK s ⟨p,d,e,i⟩=⟨p,d,e,i⟩:=by have h:s.drop p=l:=h;have a:l.takeWhile (·==32)=[]:=a;simp[kK,h,a,Pst.mv]
theorem YZ(h:kI s p (32::l))(a:tight l):kK s ⟨p,d,e,i⟩=⟨p+1,d,e,i⟩:=by have h:s.drop p=32::l:=h;have a:l.takeWhile (·==32)=[]:=a;simp[kK,h,a,Pst.mv]
theorem Vk{q:Nat}(a:kK s ⟨p,d,e,i⟩=⟨q,d,e,i⟩)(h:kI s q l):KH s ⟨p,d,e,i⟩=jx l:=by rw[KH,a];exact jy jx h
theorem QS{q:Nat}{w:za}(a:kK s ⟨p,d,0,i⟩=⟨q,d,0,i⟩)(h:kI s q l)(b:jx l=w):vG s ⟨p,d,0,i⟩ w=(true,⟨q+w.length,d,0,i⟩):=by simp[vG,Vk a h,b,a,Pst.mv]
theorem v7{q:Nat}{w:za}(a:kK s ⟨p,d,0,i⟩=⟨q,d,0,i⟩)(h:kI s q l)(b:¬jx l=w):vG s ⟨p,d,0,i⟩ w=(false,⟨q,d,0,i⟩):=by simp[vG,Vk a h,b,a]
theorem fZ{q:Nat}{w:za}(a:kK s ⟨p,d,0,i⟩=⟨q,d,0,i⟩)(h:kI s q l)(b:jx l=w):Xi s ⟨p,d,0,i⟩ w=⟨q+w.length,d,0,i⟩:=by simp[Xi,QS a h b]
end
theorem V5{c:UInt8}(h:au c=true):c≠60/\c≠62/\b6 c=false/\c≠32:=by
 refine⟨?_,?_,?_,?_⟩
 ·rintro rfl;exact absurd h (by decide)
 ·rintro rfl;exact absurd h (by decide)
 ·cases a:b6 c
  ·rfl
  ·simp only[b6,qW,w7]at a;rcases a with((((((rfl|rfl)|rfl)|rfl)|rfl)|rfl)|rfl)|rfl<;>exact absurd h (by decide)
 ·rintro rfl;exact absurd h (by decide)
def sD(l:za):Prop:=∀c,l.head?=some c->au c=false
theorem sE{l:za}(h:Ky l):sD l:=fun c a=>by rcases h c a with rfl|rfl<;>decide
theorem AR:∀{w l:za},(∀c∈w,au c=true)->sD l->(w++l).takeWhile au=w
 |[],l,_,h=>by
  cases l with
  |nil=>rfl
  |cons c l=>simp[List.takeWhile,h c rfl]
 |c::w,l,a,h=>by rw[qC,xI,zl (a c (by simp)),AR (fun x b=>a x (by simp[b])) h]
theorem eI{c x:UInt8}{t:za}(a:(jx (c::t)).head?=some x):x=c:=by
 rw[jx]at a;split at a
 ·simpa using a.symm
 split at a
 ·simpa using a.symm
 ·rw[xI]at a;split at a
  ·simpa using a.symm
  ·simp at a
theorem xB{w l:za}(e:w≠[])(d:∀c∈w,au c=true)(h:sD l):jx (w++l)=w:=by
 cases w with
 |nil=>exact(e rfl).elim
 |cons c w=>obtain⟨a,b,g,_⟩:=V5 (d c (by simp));have:=AR d h;rw[qC]at this⊢;rw[jx,zj (by simp[a,b]),zj (by simp[g]),this]
theorem kT{c:UInt8}{l:za}(a:c≠60)(b:c≠62)(h:b6 c=true):jx (c::l)=[c]:=by rw[jx,zj (by simp[a,b]),zl h]
theorem ga{n:za}(h:qS n=true):n≠[]/\(∀c∈n,au c=true)/\NP n=true:=by
 simp only[qS,zn,xo,z6]at h;have a:∀c∈n,au c=true:=fun c b=>by have:=h.2;rw[YS,zP]at this;exact this c b
 refine⟨by rintro rfl;simp at h,a,?_⟩;cases n with
 |nil=>simp at h
 |cons c n=>exact a c (by simp)
section
variable{s:za}{p d i:Nat}{l:za}
theorem D3{q:Nat}{n:za}(b:qS n=true)(a:kK s ⟨p,d,0,i⟩=⟨q,d,0,i⟩)(h:kI s q (n++l))(c:sD l):fx s ⟨p,d,0,i⟩=(n,⟨q+n.length,d,0,i⟩):=by obtain⟨e,f,g⟩:=ga b;have Y:=Vk a h;rw[xB e f c]at Y;simp[fx,Y,g,a,Pst.mv]
variable{srt:List (za×Val)->List (za×Val)}
def o9(l:za):Prop:=∀c,l.head?=some c->c=41\/c=44\/c=32
theorem TC{l:za}(h:o9 l):o8 l:=fun c a=>by rcases h c a with rfl|rfl|rfl<;>decide
theorem TD{l:za}(h:o9 l):sD l:=fun c a=>by rcases h c a with rfl|rfl|rfl<;>decide
theorem pa{v:Val}(g:o9 l):DX (jx (v.show++l))=false/\jx (v.show++l)≠[110,101,118,101,114]:=by
 have a:∀(c:UInt8) (t:za),(c=34\/c=91\/c=123\/c=45\/jP c=true)->DX (jx (c::t))=false/\jx (c::t)≠[110,101,118,101,114]:=by
  intro c t hc;have b:¬(97<=c/\c<=122):=by
   rcases hc with rfl|rfl|rfl|rfl|hc
   ·decide
   ·decide
   ·decide
   ·decide
   ·simp only[jP,zn,z6,wH]at hc;rw[wH,wH];simp at hc⊢;omega
  have f:∀x,(jx (c::t)).head?=some x->x=c:=fun x i=>eI i
  refine⟨?_,fun e=>?_⟩
  ·cases d:jx (c::t)with
   |nil=>rfl
   |cons x w=>
    have:=f x (by rw[d];rfl);subst this;have:(decide (97<=x)&&decide (x<=122))=false:=by simpa using b
    simp[DX,this]
  ·rw[e]at f;have:=f 110 rfl;subst this;exact b (by decide)
 have d:=TD g;rw[QR];split
 ·rw[xB (by decide) (by decide) d];decide
 split
 ·split
  ·rw[xB (by decide) (by decide) d];decide
  ·rw[xB (by decide) (by decide) d];decide
 split
 ·obtain⟨c,t,j,k⟩:=dI v.n;rw[j];exact a c _ (by rcases k with h|h<;>simp[h])
 split
 ·exact a 34 _ (.inl rfl)
 split
 ·exact a 91 _ (by simp)
 ·exact a 123 _ (by simp)
theorem Ke(v:Val)(l:za):tight (v.show++l):=by obtain⟨c,t,a,b⟩:=V4 v;rw[a];exact yl (by rintro rfl;exact absurd b (by decide))
theorem sF(b:∀l,EG l->srt l=l){v:Val}(f:v.fault=0){q:Nat}(c:o9 l)(e:kK s ⟨p,d,0,i⟩=⟨q,d,0,i⟩)(h:kI s q (v.show++l)):Jm s srt ⟨p,d,0,i⟩=(v,⟨q+v.show.length,d,0,i⟩):=by have Y:=Vk e h;have a:=(pa (v:=v) c).1;rw[<-Y]at a;have g:=NV b f (TC c) h;simp[Jm,e,a,g,Pst.mv]
theorem NY(a:∀l,EG l->srt l=l)(g:Ky l):∀(vs b:List Val) (k p:Nat),(∀v∈vs,v.fault=0)->kI s p (Lib.joinTail [32,124,32] (vs.map Val.show)++l)->vs.length<k ->
  AG s srt k b ⟨p,d,0,i⟩=(b++vs,⟨p+(Lib.joinTail [32,124,32] (vs.map Val.show)).length,d,0,i⟩)
 |[],b,k+1,p,_,h,_=>by
  have h:kI s p l:=h;have j:¬jx l=[124]:=by
   cases l with
   |nil=>decide
   |cons c l=>rcases g c rfl with rfl|rfl<;>rw[kT (by decide) (by decide) (by decide)]<;>decide
  rw[AG,v7 (Zb h (eH g)) h j];simp[Lib.joinTail]
 |v::vs,b,k+1,p,n,h,t=>by
  rw[zG,yo]at h⊢;have h:kI s p (32::(124::(32::(v.show++(Lib.joinTail [32,124,32] (vs.map Val.show)++l))))):=by simpa using h
  have o:=h.wA;have q:=o.wA;have r:=q.wA;have u:=QS (i:=i) (d:=d) (YZ (e:=0) h (yl (by decide))) o (kT (by decide) (by decide) (by decide));have m:o9 (Lib.joinTail [32,124,32] (vs.map Val.show)++l):=by
   cases vs with
   |nil=>exact fun c f=>by rcases g c f with h|h<;>simp[h]
   |cons A vs=>intro c f;rw[zG,yo]at f;simp at f;simp[<-f]
  have w:=sF (i:=i) (d:=d) a (n v (by simp)) m (YZ (e:=0) q (Ke v _)) r;have y:=NY a g vs (b++[v]) k _ (fun x z=>n x (by simp[z])) r.app (by simp at t;omega);rw[AG,u];simp only[vt,qh];rw[w];simp only;rw[y];simp;omega
theorem zcR{f:List Val->List Val}(g:∀l,EG l->srt l=l)(n:∀l,NX l->f l=l)(o:Ky l){vs:List Val}(u:∀v∈vs,v.fault=0)(w:NX vs)(h:kI s p (32::(Qv vs++l))):AH s srt f ⟨p,d,0,i⟩=(vs,⟨p+1+(Qv vs).length,d,0,i⟩):=by
 have b:=h.wA;cases vs with
 |nil=>
  have e:Qv ([]:List Val)=[110,101,118,101,114]:=by simp[Qv]
  rw[e]at h b⊢;have q:=QS (i:=i) (d:=d) (YZ (e:=0) h (yl (by decide))) b (xB (by decide) (by decide) (sE o));simp[AH,q]
 |cons v vs=>
  have e:Qv (v::vs)=v.show++Lib.joinTail [32,124,32] (vs.map Val.show):=by simp[Qv,tw]
  rw[e,z8]at h b;have j:o9 (Lib.joinTail [32,124,32] (vs.map Val.show)++l):=by
   cases vs with
   |nil=>exact fun c k=>by rcases o c k with h|h<;>simp[h]
   |cons D vs=>intro c k;rw[zG,yo]at k;simp at k;simp[<-k]
  have z:=YZ (e:=0) (i:=i) (d:=d) h (Ke v _);have q:=v7 z b (pa (v:=v) j).2;have r:kK s ⟨p+1,d,0,i⟩=⟨p+1,d,0,i⟩:=Zb b (Ke v _);have A:=sF (i:=i) (d:=d) g (u v (by simp)) j r b;have m:=b.len;have B:=a (vs.map Val.show);have t:=NY (i:=i) (d:=d) g o vs [v] (s.length+1) _ (fun x C=>u x (by simp[C])) b.app (by simp at m B;omega);rw[AH,q];simp only[zv,qz];rw[A];simp only;rw[t];simp only[kh];rw[n _ w,e];simp;omega
 where a:∀(xs:List za),xs.length<=(Lib.joinTail [32,124,32] xs).length
  |[]=>by simp
  |y::ys=>by rw[yo];have:=a ys;simp;omega
end
theorem nO{a b c:Val}(d:wz a b<0)(e:wz b c<0):wz a c<0:=VE.trans d e
theorem AU(op:Int):∀(l:List Val) (p:Option Val),fm op p l=0->NX l/\(∀q,p=some q->∀b∈l,wz q b<0)/\∀x∈l,x.fault=0
 |[],_,_=>⟨.nil,fun _ _ _ h=>(by cases h),fun _ h=>(by cases h)⟩
 |v::l,p,h=>by
  simp only[fm]at h;split at h
  ·rename_i d;split at h
   ·omega
   ·split at h
    ·omega
    ·rename_i Y;obtain⟨g,a,c⟩:=AU op l (some v) h;have a:=a v rfl;refine⟨BM.2 ⟨a,g⟩,fun q i b e=>?_,fun x f=>?_⟩
     ·subst i;have c:wz q v<0:=by simp only[lB,z6]at Y;omega
      rcases zx.1 e with rfl|e
      ·exact c
      ·exact nO c (a b e)
     ·rcases zx.1 f with rfl|f
      ·exact bU _ d
      ·exact c x f
  ·rename_i d;exact absurd h d
inductive EH:Cnd->Prop
 |all {k:Int} {l:List Cnd}:k=1\/k=2->(∀x∈l,EH x)->EH (.mk k [] 0 [] [] [] l)
 |not {x:Cnd}:EH x->EH (.mk 3 [] 0 [] [] [] [x])
 |Xn {n:List UInt8}:qS n=true->EH (.mk 5 [] 0 [] [] n [])
 |has {a:List UInt8}:qS a=true->EH (.mk 4 a 1 [] [] [] [])
 |pat {a p:List UInt8} {o:Int}:qS a=true->7<=o->o<=11->wC 32 126 p=true->p.length<=500->EH (.mk 4 a o [] p [] [])
 |ord {a:List UInt8} {o:Int} {v:Val}:qS a=true->3<=o->o<=6->v.fault=0->EH (.mk 4 a o [v] [] [] [])
 |jd {a:List UInt8} {o:Int} {v:List Val}:qS a=true->o=2\/o=12->(∀x∈v,x.fault=0)->NX v->EH (.mk 4 a o v [] [] [])
theorem pb(c:Cnd):c.fault=0->EH c:=by
 induction c using Cnd.ind with
 |h k a o v p n l I=>
  intro w;rw[oR]at w;split at w
  case isFalse g=>exact(g w).elim
  rename_i g;have d:=b w;rw[Ac]at g;split at g
  ·omega
  rename_i r;split at g
  ·omega
  rename_i J;split at g
  ·omega
  rename_i K;split at g
  case isFalse s=>exact(s g).elim
  rename_i s;simp only[ez,opC,Cnd.kind,Cnd.op,qW,not_or,Ql,Bool.not_eq_false,zn,not_and,w7,xo,z6]at r;simp only[Q1,w1F,w2F,w3F,w4F,w5F,w6F,w7F,Cnd.kind,Cnd.attr,Cnd.op,Cnd.jd,Cnd.pat,Cnd.name,Cnd.args,qW,not_or,zn,not_and,Ql,w7,qM,zar,ne_eq,Bool.not_eq_false,List.isEmpty_iff,Decidable.not_not,z6]at J;obtain⟨⟨⟨⟨⟨⟨T,U⟩,L⟩,M⟩,N⟩,W⟩,X⟩:=J;have P:k≠5->n=[]:=fun e=>by simpa using U e
  have t:∀{α:Type} {l:List α},¬decide (0<l.length)=true->l=[]:=fun{α l} h=>by simp at h;exact qQ.1 (by simpa using h)
  have hx:fm o none v=0:=by
   unfold Yb at s;split at s
   ·omega
   ·exact s
  obtain⟨u1,_,Q⟩:=AU o v none hx;by_cases R:k=4
  ·subst R;have z:qS a=true:=by simpa[oP,Cnd.kind,Cnd.attr]using K
   have i:l=[]:=by exact t (L (by simp[xo]))
   have ho:1<=o/\o<=12:=⟨jb (r.2 rfl).1,jb (r.2 rfl).2⟩;rw[P (by omega),i];by_cases o1:o=1
   ·subst o1;have j:v=[]:=t (M ⟨rfl,by decide⟩);have A:p=[]:=by simpa using N ⟨rfl,by decide⟩
    rw[j,A];exact .has z
   by_cases op:7<=o/\o<=11
   ·have hu:K9 o=false:=by simp[K9,xo];omega
    have j:v=[]:=t (M ⟨rfl,hu⟩);have m:vE o=true:=by simp[vE,xo];omega
    have q:dm o p=0:=by simpa[Nf,Cnd.kind,Cnd.op,m]using g
    have B:¬(500:Int)<p.length/\wC 32 126 p=true:=by
     unfold dm at q;split at q
     ·omega
     ·rename_i h;split at q
      ·rename_i C;exact⟨h,C⟩
      ·omega
    rw[j];exact .pat z op.1 op.2 B.2 (by omega)
   have m:vE o=false:=by
    cases C:vE o
    ·rfl
    ·simp[vE,xo]at C;omega
   have A:p=[]:=by simpa using N ⟨rfl,m⟩
   rw[A];by_cases u:Q0 o=true
   ·have f:v.length=1:=by have:=X ⟨rfl,u⟩;omega
    obtain⟨x,rfl⟩:=List.length_eq_one_iff.1 f;simp[Q0,xo]at u;exact .ord z u.1 u.2 (Q x (by simp))
   ·have oo':¬(3<=o/\o<=6):=fun h=>u (by simp[Q0,xo,h.1,h.2])
    exact .jd z (by omega) Q u1
  ·have w1:=T (by simpa using R);obtain⟨⟨⟨D,E⟩,vz⟩,F⟩:=w1;have D:a=[]:=by simpa using D
   have E:o=0:=by simpa using E
   have v0:v=[]:=t vz;have F:p=[]:=by simpa using F
   subst D E v0 F;by_cases S:k=5
   ·subst S;have i:l=[]:=by exact t (L (by simp[xo]))
    have G:qS n=true:=by simpa[oP,Cnd.kind,Cnd.name]using K
    rw[i];exact .Xn G
   ·rw[P S];by_cases k3:k=3
    ·subst k3;have f:l.length=1:=by have:=W rfl;omega
     obtain⟨x,rfl⟩:=List.length_eq_one_iff.1 f;exact .not (I x (by simp) (d x (by simp)))
    ·have h11:1<=k/\k<=5:=⟨jb r.1.1,jb r.1.2⟩;exact .all (by omega) fun x hx=>I x hx (d x hx)
 where b:∀{l:List Cnd},xb l=0->∀x∈l,x.fault=0
  |y::l,h,x,hx=>by
   rw[xb]at h;split at h
   ·rename_i H;rcases zx.1 hx with rfl|hx
    ·exact H
    ·exact b h x hx
   ·rename_i H;exact(H h).elim
section
variable{s:za}{srt:List (za×Val)->List (za×Val)}{srv:List Val->List Val}
def RC(f:Pst->Cnd×Pst)(s:za)(d:Nat)(c:Cnd):Prop:=∀(p q i:Nat) (l:za),Ky l->kK s ⟨p,d,0,i⟩=⟨q,d,0,i⟩->kI s q (c.show++l)->f ⟨p,d,0,i⟩=(c,⟨q+c.show.length,d,0,i⟩)
def VF(c:Cnd):Prop:=∃x t,c.show=x::t/\x≠32/\x≠41
theorem VF.tight{c:Cnd}(h:VF c)(l:za):tight (c.show++l):=by obtain⟨x,t,a,b,_⟩:=h;rw[a];exact yl b
theorem b8{c:Cnd}(h:EH c):VF c:=by
 cases h with
 |all b _=>
  rcases b with rfl|rfl
  ·exact⟨97,_,by rw[jN,zj (by omega),zj (by omega)];rfl,by decide,by decide⟩
  ·exact⟨97,_,by rw[jN,zj (by omega),zj (by omega)];rfl,by decide,by decide⟩
 |not _=>exact⟨110,_,by rw[jN,zj (by omega),zj (by omega)];rfl,by decide,by decide⟩
 |Xn _=>exact⟨105,_,by rw[jN,zj (by omega),zl rfl];rfl,by decide,by decide⟩
 |has _=>exact⟨104,_,by rw[jN,zl rfl];rfl,by decide,by decide⟩
 |pat _ a d _ _=>exact⟨46,_,by rw[jN,zl rfl,ZQ,zj (by simp only[Cnd.op];omega)];rfl,by decide,by decide⟩
 |ord _ a d _=>exact⟨46,_,by rw[jN,zl rfl,ZQ,zj (by simp only[Cnd.op];omega)];rfl,by decide,by decide⟩
 |jd _ a _ _=>exact⟨46,_,by rw[jN,zl rfl,ZQ,zj (by simp only[Cnd.op];omega)];rfl,by decide,by decide⟩
theorem NZ{f:Pst->Cnd×Pst}{d:Nat}:∀(cs a:List Cnd) (k p i:Nat) (l:za),Ky l->(l.head?≠some 44)->(∀c∈cs,RC f s d c/\VF c)->kI s p (Lib.joinTail [44,32] (cs.map Cnd.show)++l)->cs.length<k ->
  Cj s f k a ⟨p,d,0,i⟩=(a++cs,⟨p+(Lib.joinTail [44,32] (cs.map Cnd.show)).length,d,0,i⟩)
 |[],a,k+1,p,i,l,hs,g,_,h,_=>by
  have h:kI s p l:=h;have j:¬jx l=[44]:=by
   cases l with
   |nil=>decide
   |cons c l=>
    rcases hs c rfl with rfl|rfl
    ·rw[kT (by decide) (by decide) (by decide)];decide
    ·exact(g rfl).elim
  rw[Cj,v7 (Zb h (eH hs)) h j];simp[Lib.joinTail]
 |c::cs,a,k+1,p,i,l,hs,g,m,h,r=>by
  rw[zG,yo]at h⊢;have h:kI s p (44::(32::(c.show++(Lib.joinTail [44,32] (cs.map Cnd.show)++l)))):=by simpa using h
  have o:=h.wA;have q:=o.wA;have t:=QS (i:=i) (d:=d) (Zb (e:=0) h (yl (by decide))) h (kT (by decide) (by decide) (by decide));have n:Ky (Lib.joinTail [44,32] (cs.map Cnd.show)++l):=by
   cases cs with
   |nil=>exact hs
   |cons w cs=>intro x b;rw[zG,yo]at b;simp at b;simp[<-b]
  have u:=(m c (by simp)).1 (p+1) (p+1+1) i _ n (YZ (e:=0) o ((m c (by simp)).2.tight _)) q;have v:=NZ cs (a++[c]) k _ i l hs g (fun x b=>m x (by simp[b])) q.app (by simp at r;omega);rw[Cj,t];simp only[vt,qh];rw[u];simp only;rw[v];simp;omega
theorem N0{p d i:Nat}{l:za}(hd:d<100)(h:kI s p (40::l)):AJ s ⟨p,d,0,i⟩=⟨p+1,d+1,0,i⟩:=by
 have a:=Zb (e:=0) (i:=i) (d:=d) h (yl (by decide));have b:jx (40::l)=[40]:=kT (by decide) (by decide) (by decide);have Y:=Vk a h;rw[b]at Y;have c:=fZ a h b;have f:¬100<=d:=by omega
 simp[AJ,a,Y,f,c,Pst.dn]
theorem XM:∀(xs:List za),xs.length<=(Lib.joinTail [44,32] xs).length
 |[]=>by simp
 |y::ys=>by rw[yo];have:=XM ys;simp;omega
theorem lY{p d i:Nat}{l:za}(h:kI s p (41::l)):Xi s ⟨p,d,0,i⟩ [41]=⟨p+1,d,0,i⟩:=
 fZ (Zb h (yl (by decide))) h (kT (by decide) (by decide) (by decide))
theorem D4(l:za):Ky (41::l):=fun c a=>by simp at a;simp[<-a]
theorem N1{f:Pst->Cnd×Pst}{cs:List Cnd}{p d i:Nat}{l:za}(hd:d<100)(k:∀c∈cs,RC f s (d+1) c/\VF c)(h:kI s p (40::(Lib.join (cs.map Cnd.show) [44,32]++41::l))) :
  lV s f ⟨p,d,0,i⟩=(cs,⟨p+(Lib.join (cs.map Cnd.show) [44,32]).length+2,d,0,i⟩):=by
 have q:=N0 (i:=i) hd h;have a:=h.wA;cases cs with
 |nil=>have a:kI s (p+1) (41::l):=a;have b:=Zb (e:=0) (i:=i) (d:=d+1) a (yl (by decide));have Y:=Vk b a;rw[kT (by decide) (by decide) (by decide)]at Y;have m:=lY (i:=i) (d:=d+1) a;simp[lV,q,Y,b,m,Pst.up,Lib.join_nil]
 |cons c cs=>
  rw[zG,tw]at a⊢;rw[z8]at a;have r:=(k c (by simp)).2;have b:=Zb (e:=0) (i:=i) (d:=d+1) a (r.tight _);have Y:=Vk b a;have n:¬KH s ⟨p+1,d+1,0,i⟩=[41]:=by rw[Y];obtain⟨x,t,u,_,v⟩:=r;rw[u,qC];intro e;exact v (eI (x:=41) (by rw[e];rfl)).symm
  have o:Ky (Lib.joinTail [44,32] (cs.map Cnd.show)++41::l):=by
   cases cs with
   |nil=>exact D4 l
   |cons A cs=>intro x g;rw[zG,yo]at g;simp at g;simp[<-g]
  have w:=(k c (by simp)).1 _ _ i _ o b a;have j:=a.len;have y:=XM (cs.map Cnd.show);have z:=NZ (f:=f) cs [c] (s.length+1) _ i (41::l) (D4 l) (by simp) (fun x g=>k x (by simp[g])) a.app (by simp at j y;omega);have m:=lY (i:=i) (d:=d+1) a.app.app;simp only[lV,q,qh,zj n,b,w,z,m,Pst.up];simp;omega
theorem zcS{f:Pst->Cnd×Pst}{c:Cnd}{p d i:Nat}{l:za}(hd:d<100)(b:RC f s (d+1) c/\VF c)(h:kI s p (40::(c.show++41::l))) :
  tv s f ⟨p,d,0,i⟩=([c],⟨p+c.show.length+2,d,0,i⟩):=by
 have g:=N0 (i:=i) hd h;have a:=h.wA;have j:=Zb (e:=0) (i:=i) (d:=d+1) a (b.2.tight _);have k:=b.1 _ _ i _ (D4 l) j a;have m:=lY (i:=i) (d:=d+1) a.app;simp only[tv,g,k,m,Pst.up];simp;omega
theorem N2(o:Int)(d:2<=o)(e:o<=12)(t:za):jx (ak o++32::t)=ak o/\sz (ak o)=o/\tight (ak o++32::t):=by
 have b:sD (32::t):=fun c a=>by simp at a;rw[<-a];decide
 have:o=2\/o=3\/o=4\/o=5\/o=6\/o=7\/o=8\/o=9\/o=10\/o=11\/o=12:=by omega
 rcases this with rfl|rfl|rfl|rfl|rfl|rfl|rfl|rfl|rfl|rfl|rfl
 ·exact⟨by rfl,by decide,yl (by decide)⟩
 ·exact⟨by rfl,by decide,yl (by decide)⟩
 ·exact⟨by rfl,by decide,yl (by decide)⟩
 ·exact⟨by rfl,by decide,yl (by decide)⟩
 ·exact⟨by rfl,by decide,yl (by decide)⟩
 all_goals exact⟨xB (by decide) (by decide) b,by decide,yl (by decide)⟩
theorem TE{a:za}{o:Int}{p d i:Nat}{t:za}(f:qS a=true)(n:2<=o)(q:o<=12)(h:kI s p (a++32::(ak o++32::t))) :
  fx s ⟨p,d,0,i⟩=(a,⟨p+a.length,d,0,i⟩)/\KH s ⟨p+a.length,d,0,i⟩=ak o/\kK s ⟨p+a.length,d,0,i⟩=⟨p+a.length+1,d,0,i⟩/\Xi s ⟨p+a.length+1,d,0,i⟩ (ak o)=⟨p+a.length+1+(ak o).length,d,0,i⟩/\kI s (p+a.length+1+(ak o).length) (32::t):=by
 obtain⟨n0,r,y⟩:=ga f;obtain⟨g,z,j⟩:=N2 o n q t;have u:sD (32::(ak o++32::t)):=fun c k=>by simp at k;rw[<-k];decide
 have v:tight (a++32::(ak o++32::t)):=by
  cases a with
  |nil=>exact(n0 rfl).elim
  |cons c a=>exact yl (V5 (r c (by simp))).2.2.2
 have w:=D3 (i:=i) (d:=d) f (Zb h v) h u;have b:=h.app;have l:=YZ (e:=0) (i:=i) (d:=d) b j;have m:=Vk l b.wA;rw[g]at m;have x:=fZ (i:=i) (d:=d) (Zb b.wA j) b.wA g;exact⟨w,m,l,x,b.wA.app⟩
theorem AV(k:Int)(a:za)(o:Int)(v:List Val)(p n:za)(l:List Cnd):Kx (.mk k a o v p n l)=if vE o=true then ju p else Qv v:=rfl
theorem HV(t l:za):tight (ju t++l):=by obtain⟨l',a⟩:∃l',ju t++l=34::l':=⟨_,rfl⟩;rw[a];exact yl (by decide)
theorem N3(b:∀l,EG l->srt l=l){t:za}(n:wC 32 126 t=true)(k:t.length<=500){p d i:Nat}{l:za}(f:Ky l)(h:kI s p (32::(ju t++l))) :
  kK s ⟨p,d,0,i⟩=⟨p+1,d,0,i⟩/\s[p+1]?=some 34/\Jm s srt ⟨p+1,d,0,i⟩=(.mk 3 0 t [] [],⟨p+1+(ju t).length,d,0,i⟩):=by
 have g:=h.wA;obtain⟨l',j⟩:∃l',ju t++l=34::l':=⟨_,rfl⟩;have m:=g;rw[j]at m;have a:tight (ju t++l):=HV t l;refine⟨YZ h a,m.get,?_⟩;have o:(Val.mk 3 0 t [] []).fault=0:=by
  rw[bt];have:xy 3 0 t 0 0=0:=by
   have f:¬(500:Int)<t.length:=by omega
   simp[xy,br,JV,VQ,Wz,E2,f,n,E1]
  simp[this,vw,ZK]
 have hs:(Val.mk 3 0 t [] []).show=ju t:=by simp[fO]
 have:=sF (i:=i) (d:=d) b o (fun c q=>by rcases f c q with h|h<;>simp[h]) (Zb (e:=0) g a) (by rw[hs];exact g);rw[hs]at this;exact this
theorem zcT(k:∀l,EG l->srt l=l)(y:∀l,NX l->srv l=l){a u:za}{o:Int}{v:List Val}{p d i:Nat}{l:za}(w:EH (.mk 4 a o v u [] []))(J:o≠1)(z:Ky l)(h:kI s p (a++32::(ak o++32::(Kx (.mk 4 a o v u [] [])++l)))) :
  tt s srt srv ⟨p,d,0,i⟩=(.mk 4 a o v u [] [],⟨p+a.length+1+(ak o).length+1+(Kx (.mk 4 a o v u [] [])).length,d,0,i⟩):=by
 have b:qS a=true/\2<=o/\o<=12:=by
  cases w with
  |all K _=>omega
  |has _=>exact(J rfl).elim
  |pat g m A _ _=>exact⟨g,by omega,by omega⟩
  |ord g m A _=>exact⟨g,by omega,by omega⟩
  |jd g m _ _=>exact⟨g,by omega,by omega⟩
 obtain⟨B,C,D,E,j⟩:=TE (i:=i) (d:=d) b.1 b.2.1 b.2.2 h;have F:=(N2 o b.2.1 b.2.2 []).2.1;have n:¬o<2:=by omega
 rw[AV]at j⊢;cases w with
 |all K _=>omega
 |has _=>exact(J rfl).elim
 |pat g m A Y q=>
  have f:vE o=true:=by simp[vE,xo];omega
  rw[zl f]at j⊢;obtain⟨r,L,M⟩:=N3 (i:=i) (d:=d) k Y q z j;simp only[tt,B,C,D,E,F,ne_eq,not_true,qz,n,f,qh,r,L,M,Val.s]
 |ord g m A G=>
  rename_i x;have f:vE o=false:=by simp[vE,xo];omega
  have H:Q0 o=true:=by simp[Q0,xo];omega
  have t:Qv [x]=x.show:=by simp[Qv,Lib.join_one]
  rw[f,zj (by decide),t]at j;rw[f,zj (by decide),t];have r:=sF (i:=i) (d:=d) k G (fun c w=>by rcases z c w with h|h<;>simp[h]) (YZ (e:=0) j (Ke _ _)) j.wA;simp only[tt,B,C,D,E,F,ne_eq,not_true,qz,n,f,H,qh,r,zv]
 |jd g m G I=>
  have f:vE o=false:=by rcases m with rfl|rfl<;>decide
  have H:Q0 o=false:=by rcases m with rfl|rfl<;>decide
  rw[f,zj (by decide)]at j;rw[f,zj (by decide)];have r:=zcR (i:=i) (d:=d) k y z G I j;simp only[tt,B,C,D,E,F,ne_eq,not_true,qz,n,f,H,r,zv]
theorem D5(z:∀l,EG l->srt l=l)(A:∀l,NX l->srv l=l):∀(k d:Nat) (c:Cnd),EH c->c.levels<=k->d+c.levels<=100->RC (dH s srt srv k) s d c
 | 0,d,c,_,hk,_=>by have:=JZ c;omega
 |k+1,d,c,T,hk,hd=>by
  intro p q i l L E h;have g:=Zb (e:=0) (i:=i) (d:=d) h ((b8 T).tight _);have F:=JZ c;have G:∀x∈c.args,x.levels<=jj c.args:=fun x C=>Gc C
  have P:∀(w:za) (t:za),w≠[]->(∀x∈w,au x=true)->c.show++l=w++t->sD t->jx (c.show++l)=w:=fun w t h0 b e he=>by rw[e];exact xB h0 b he
  have r:∀(x:UInt8) (t:za),au x=false->sD (x::t):=fun x t C y hy=>by simp at hy;rw[<-hy];exact C
  cases T with
  |all U I=>
   rename_i K cs;have hs:(Cnd.mk K [] 0 [] [] [] cs).show=vF K++([40]++(Lib.join (cs.map Cnd.show) [44,32]++[41])):=by rw[jN,zj (by omega),zj (by omega)]
   have j:∀x∈cs,RC (dH s srt srv k) s (d+1) x/\VF x:=fun x C=>⟨D5 z A k (d+1) x (I x C) (by have:=G x C;simp only[Cnd.args]at this F;omega) (by have:=G x C;simp only[Cnd.args]at this F;omega),b8 (I x C)⟩
   rcases U with rfl|rfl
   ·have b:=P [97,108,108] (40::(Lib.join (cs.map Cnd.show) [44,32]++41::l)) (by decide) (by decide) (by rw[hs];simp[vF]) (r _ _ (by decide));have f:=QS E h b;have u:kI s (q+3) (40::(Lib.join (cs.map Cnd.show) [44,32]++41::l)):=by rw[hs]at h;exact kI.app (a:=[97,108,108]) (by simpa[vF]using h)
    have H:=N1 (i:=i) (by omega) j u;rw[dH,f];simp only[qh,ze,zf,zu,Nat.reduceAdd];rw[H,hs];simp[vF];omega
   ·have b:=P [97,110,121] (40::(Lib.join (cs.map Cnd.show) [44,32]++41::l)) (by decide) (by decide) (by rw[hs];simp[vF]) (r _ _ (by decide));have f:=v7 (w:=[97,108,108]) E h (by rw[b];decide);have m:=QS g h b;have u:kI s (q+3) (40::(Lib.join (cs.map Cnd.show) [44,32]++41::l)):=by rw[hs]at h;exact kI.app (a:=[97,110,121]) (by simpa[vF]using h)
    have H:=N1 (i:=i) (by omega) j u;rw[dH,f];simp only[zv,qz];rw[m];simp only[qh,ze,zf,zu,Nat.reduceAdd];rw[H,hs];simp[vF];omega
  |not C=>
   rename_i x;have hs:(Cnd.mk 3 [] 0 [] [] [] [x]).show=vF 3++([40]++(x.show++[41])):=by rw[jN,zj (by omega),zj (by omega)];simp[Lib.join_one]
   have j:RC (dH s srt srv k) s (d+1) x/\VF x:=⟨D5 z A k (d+1) x C (by have:=G x (by simp[Cnd.args]);simp only[Cnd.args]at this F;omega) (by have:=G x (by simp[Cnd.args]);simp only[Cnd.args]at this F;omega),b8 C⟩;have b:=P [110,111,116] (40::(x.show++41::l)) (by decide) (by decide) (by rw[hs];simp[vF]) (r _ _ (by decide));have f:=v7 (w:=[97,108,108]) E h (by rw[b];decide);have m:=v7 (w:=[97,110,121]) g h (by rw[b];decide);have B:=QS g h b;have u:kI s (q+3) (40::(x.show++41::l)):=by rw[hs]at h;exact kI.app (a:=[110,111,116]) (by simpa[vF]using h)
   have H:=zcS (i:=i) (by omega) j u;rw[dH,f];simp only[zv,qz];rw[m];simp only[zv,qz];rw[B];simp only[qh,ze,zf,zu,Nat.reduceAdd];rw[H,hs];simp[vF];omega
  |Xn Q=>
   rename_i n;have hs:(Cnd.mk 5 [] 0 [] [] n []).show=[105,110,32]++n:=by rw[jN,zj (by omega),zl rfl]
   have b:=P [105,110] (32::(n++l)) (by decide) (by decide) (by rw[hs];simp) (r _ _ (by decide));have f:=v7 (w:=[97,108,108]) E h (by rw[b];decide);have m:=v7 (w:=[97,110,121]) g h (by rw[b];decide);have B:=v7 (w:=[110,111,116]) g h (by rw[b];decide);have D:=QS g h b;have u:kI s (q+2) (32::(n++l)):=by rw[hs]at h;exact kI.app (a:=[105,110]) (by simpa using h)
   have M:tight (n++l):=by
    obtain⟨n0,W,_⟩:=ga Q;cases n with
    |nil=>exact(n0 rfl).elim
    |cons c n=>exact yl (V5 (W c (by simp))).2.2.2
   have H:=D3 (i:=i) (d:=d) Q (YZ (e:=0) u M) u.wA (sE L);rw[dH,f];simp only[zv,qz];rw[m];simp only[zv,qz];rw[B];simp only[zv,qz];rw[D];simp only[qh,ze,zf,zu,Nat.reduceAdd];rw[H,hs];simp;omega
  |has Q=>
   rename_i a;have hs:(Cnd.mk 4 a 1 [] [] [] []).show=[104,97,115,32,46]++a:=by rw[jN,zl rfl];rfl
   have b:=P [104,97,115] (32::46::(a++l)) (by decide) (by decide) (by rw[hs];simp) (r _ _ (by decide));have f:=v7 (w:=[97,108,108]) E h (by rw[b];decide);have m:=v7 (w:=[97,110,121]) g h (by rw[b];decide);have B:=v7 (w:=[110,111,116]) g h (by rw[b];decide);have D:=v7 (w:=[105,110]) g h (by rw[b];decide);have N:=QS g h b;have u:kI s (q+3) (32::46::(a++l)):=by rw[hs]at h;exact kI.app (a:=[104,97,115]) (by simpa using h)
   have M:tight (a++l):=by
    obtain⟨n0,W,_⟩:=ga Q;cases a with
    |nil=>exact(n0 rfl).elim
    |cons c n=>exact yl (V5 (W c (by simp))).2.2.2
   have hm:=fZ (i:=i) (d:=d) (YZ (e:=0) u (yl (by decide))) u.wA (kT (by decide) (by decide) (by decide));have H:=D3 (i:=i) (d:=d) Q (Zb (e:=0) u.wA.wA M) u.wA.wA (sE L);rw[dH,f];simp only[zv,qz];rw[m];simp only[zv,qz];rw[B];simp only[zv,qz];rw[D];simp only[zv,qz];rw[N];simp only[qh,ze,zf,zu,Nat.reduceAdd];rw[hm];simp only[ze,zf,zu];rw[H,hs];simp;omega
  |pat I R u Y S=>exact test z A L E g h (.pat I R u Y S) (by omega)
  |ord I R u X=>exact test z A L E g h (.ord I R u X) (by omega)
  |jd I R X hu=>exact test z A L E g h (.jd I R X hu) (by omega)
 where
  Gc:∀{l:List Cnd} {x:Cnd},x∈l->x.levels<=jj l
   |y::l,x,h=>by
    simp only[jj];rcases zx.1 h with rfl|h
    ·omega
    ·have:=Gc h;omega
  test (z:∀l,EG l->srt l=l) (A:∀l,NX l->srv l=l) {k p q d i:Nat} {l a J:za} {o:Int} {v:List Val} (L:Ky l) (E:kK s ⟨p,d,0,i⟩=⟨q,d,0,i⟩) (g:kK s ⟨q,d,0,i⟩=⟨q,d,0,i⟩)
    (h:kI s q ((Cnd.mk 4 a o v J [] []).show++l)) (T:EH (.mk 4 a o v J [] [])) (ho:o≠1):dH s srt srv (k+1) ⟨p,d,0,i⟩=(.mk 4 a o v J [] [],⟨q+(Cnd.mk 4 a o v J [] []).show.length,d,0,i⟩):=by
   have hs:(Cnd.mk 4 a o v J [] []).show=[46]++(a++([32]++(ak o++([32]++Kx (.mk 4 a o v J [] []))))):=by rw[jN,zl rfl,ZQ,zj (by simpa[Cnd.op]using ho)];rfl
   rw[hs]at h⊢;have h:kI s q (46::(a++32::(ak o++32::(Kx (.mk 4 a o v J [] [])++l)))):=by simpa using h
   have b:jx (46::(a++32::(ak o++32::(Kx (.mk 4 a o v J [] [])++l))))=[46]:=kT (by decide) (by decide) (by decide);have f:=v7 (w:=[97,108,108]) E h (by rw[b];decide);have m:=v7 (w:=[97,110,121]) g h (by rw[b];decide);have B:=v7 (w:=[110,111,116]) g h (by rw[b];decide);have D:=v7 (w:=[105,110]) g h (by rw[b];decide);have N:=v7 (w:=[104,97,115]) g h (by rw[b];decide);have ha6:=QS g h b;have ht:=zcT (i:=i) (d:=d) z A T ho L h.wA;rw[dH,f];simp only[zv,qz];rw[m];simp only[zv,qz];rw[B];simp only[zv,qz];rw[D];simp only[zv,qz];rw[N];simp only[zv,qz];rw[ha6];simp only[qh,ze,zf,zu];rw[ht];simp;omega
end
theorem D6{srt:List (za×Val)->List (za×Val)}{srv:List Val->List Val}(b:∀l,EG l->srt l=l)(d:∀l,NX l->srv l=l){c:Cnd}(a:c.check=0)(f:c.show.length<=20000):av srt srv c.show=(c,0,0):=by
 have j:c.fault=0/\c.levels<=20:=by
  unfold Cnd.check at a;split at a
  ·omega
  ·rename_i h;simp at h;exact⟨a,by omega⟩
 have g:=pb c j.1;have i:kI c.show 0 (c.show++[]):=by simp[kI]
 have k:=(b8 g).tight [];have e:=D5 (s:=c.show) b d 102 0 c g (by omega) (by omega) 0 0 0 [] (fun x m=>by simp at m) (Zb i k) i;have n:kK c.show ⟨0+c.show.length,0,0,0⟩=⟨0+c.show.length,0,0,0⟩:=Zb (l:=[]) (by simp[kI]) rfl;rw[av,zj (by omega),e];simp only[n];simp[a]
def ym(l:za):Prop:=(10:UInt8) ∉ l
theorem ym.app{a b:za}(c:ym a)(d:ym b):ym (a++b):=fun h=>(wy.1 h).elim c d
theorem ym.tz{c:UInt8}{b:za}(a:c≠10)(d:ym b):ym (c::b):=fun h=>(zx.1 h).elim (fun e=>a e.symm) d
theorem ym.nil:ym []:=by simp[ym]
theorem QL{sep:za}(hs:ym sep):∀{l:List za},(∀x∈l,ym x)->ym (Lib.join l sep)
 |[],_=>ym.nil
 |[x],h=>by rw[show Lib.join [x] sep=x by simp[Lib.join]];exact h x (by simp)
 |x::y::l,h=>by
  have e:Lib.join (x::y::l) sep=x++(sep++Lib.join (y::l) sep):=by simp[Lib.join,List.intercalate]
  rw[e];exact(h x (by simp)).app (hs.app (QL hs fun z a=>h z (by simp[a])))
theorem lZ{a b:Nat}(c:10<a){l:za}(h:wC a b l=true):ym l:=fun d=>by have:=zP.1 h 10 d;simp[pr]at this;omega
theorem D7{l:za}(h:YS l=true):ym l:=fun a=>by have:=zP.1 h 10 a;simp[Wn]at this
theorem xR{l:za}(h:qS l=true):ym l:=D7 (by simp only[qS,zn]at h;exact h.2)
theorem AW:∀{l:za},ym l->ym (QE l)
 |[],_=>ym.nil
 |c::l,h=>by
  have a:c≠10:=fun e=>h (by simp[e])
  have b:=AW (l:=l) fun e=>h (by simp[e])
  rw[QE];split
  ·exact .tz (by decide) (.tz a b)
  ·exact .tz a b
theorem Jn{l:za}(h:wC 32 126 l=true):ym (ju l):=.tz (by decide) ((AW (lZ (by decide) h)).app (.tz (by decide) .nil))
theorem pc{l:za}(h:∀c∈l,jP c=true):ym l:=fun a=>by have:=h 10 a;simp[jP]at this
theorem AX(u:Nat):ym (Lib.decDigits u):=pc (Kc _ _ (PO _)).1
theorem HW(n:Int):ym (QW n):=by
 unfold QW;refine ym.app ?_ ((AX _).app ?_)
 ·split
  ·exact .tz (by decide) .nil
  ·exact .nil
 ·split
  ·exact .nil
  ·exact .tz (by decide) (pc (lS (by omega) (by omega)).1)
theorem N4(v:Val):v.fault=0->ym v.show:=by
 induction v using Val.ind with
 |h K n t g i k l=>
  intro c;have e:xy K n t g.length i.length=0/\vw g=0/\ZK none i=0:=by
   rw[bt]at c;split at c
   ·rename_i a;split at c
    ·rename_i b;exact⟨a,b,c⟩
    ·rename_i b;exact(b c).elim
   ·rename_i a;exact(a c).elim
  obtain⟨e,m,o⟩:=e;obtain⟨_,_,_,_,p⟩:=lW e;obtain⟨j,_,_⟩:=ax o;rw[fO];split
  ·simp[ym]
  split
  ·split<;>simp[ym]
  split
  ·exact HW n
  split
  ·exact Jn p
  split
  ·refine .tz (by decide) (ym.app (QL (.tz (by decide) .nil) fun x f=>?_) (.tz (by decide) .nil));obtain⟨y,d,rfl⟩:=zZ.1 f;exact k y d (aw m y d)
  ·refine .tz (by decide) (ym.app (QL (.tz (by decide) .nil) fun x f=>?_) (.tz (by decide) .nil));obtain⟨y,d,rfl⟩:=zZ.1 f;exact(Jn (j y d).2).app (.tz (by decide) (l y d (j y d).1))
theorem N5(o:Int):ym (ak o):=by
 unfold ak ym;intro a;cases b:VC[o.toNat]? with
 |none=>rw[b]at a;simp at a
 |some x=>
  rw[b]at a;have c:x∈VC:=zE b;have:∀y∈VC,(10:UInt8) ∉ y:=by decide
  exact this x c a
theorem N6{c:Cnd}(h:EH c):ym c.show:=by
 have e:∀{a p:za} {o:Int} {v:List Val},qS a=true->ym (ju p)->ym (Qv v)->ym (Cnd.mk 4 a o v p [] []).show:=fun{a p o v} b Y q=>by
  rw[jN,zl rfl];have i:ym (Kx (.mk 4 a o v p [] [])):=by
   rw[AV];split
   ·exact Y
   ·exact q
  unfold ZQ;split
  ·exact ym.app (by simp[ym]) (xR b)
  ·exact ym.app (by simp[ym]) ((xR b).app (ym.app (by simp[ym]) ((N5 _).app (ym.app (by simp[ym]) i))))
 have f:∀{v:List Val},(∀x∈v,x.fault=0)->ym (Qv v):=fun{v} g=>by
  unfold Qv;split
  ·simp[ym]
  ·refine QL (by simp[ym]) fun y d=>?_
   obtain⟨z,j,rfl⟩:=zZ.1 d;exact N4 z (g z j)
 induction h with
 |all r _ m=>
  rename_i k l t;rw[jN,zj (by omega),zj (by omega)];refine ym.app ?_ (ym.app (by simp[ym]) (ym.app (QL (by simp[ym]) fun y d=>?_) (by simp[ym])))
  ·rcases r with rfl|rfl<;>simp[ym,vF]
  ·obtain⟨z,j,rfl⟩:=zZ.1 d;exact m z j
 |not _ m=>rw[jN,zj (by decide),zj (by decide)];refine ym.app (by simp[ym,vF]) (ym.app (by simp[ym]) (ym.app (QL (by simp[ym]) fun y d=>?_) (by simp[ym])));simp at d;rw[d];exact m
 |Xn s=>rw[jN,zj (by decide),zl rfl];exact ym.app (by simp[ym]) (xR s)
 |has b=>exact e b (Jn rfl) (f (by simp))
 |pat b _ _ Y _=>exact e b (Jn Y) (f (by simp))
 |ord b _ _ n=>exact e b (Jn rfl) (f fun x g=>by simp at g;rw[g];exact n)
 |jd b _ n _=>exact e b (Jn rfl) (f n)
theorem l0{c:Cnd}(h:c.check=0):c.fault=0:=by
 unfold Cnd.check at h;split at h
 ·omega
 ·exact h
theorem N7{c:Cnd}(h:c.check=0):ym (vY c).1:=by
 unfold vY;rw[zl h];split
 ·exact .nil
 ·exact N6 (pb c (l0 h))
end Go.Q
namespace Go.Proofs
open Go.Shelf
end Go.Proofs
namespace Go.Q
theorem b9{a b:za}(h:xA a b=0):qS a=true/\Op.bytesLess b a=true:=by
 unfold xA at h;split at h
 ·rename_i c;split at h
  ·exact absurd h (by simp)
  ·rename_i d;exact⟨c,Yc (by simpa using d)⟩
 ·exact absurd h (by simp)
structure cE where
 ls:List yp
 hs:List y7
 xs:List Xp
 part:Nat
def kL(n:Int):Prop:=0<=n/\n<=4000000000
def Ko:Int->List Rg->Prop
 |_,[]=>True
 |lo,r::l=>r.1=lo/\kL r.2.1/\kL r.2.2/\Ko r.2.1 l
noncomputable def N8 (n l f s:za):Xp:=⟨n,l,f,zC,s,[],[]⟩
inductive Lb:cE->List UInt8->cE->Prop
 |lay {ls:List yp} {n s:List UInt8} {r:Int}:qS n=true->Qw s=true->kL r->Lb ⟨ls,[],[],0⟩ (Tw ⟨n,s,r⟩) ⟨ls++[⟨n,s,r⟩],[],[],0⟩
 |hld {ls:List yp} {hs:List y7} {n s:List UInt8} {r:Int} {p:Nat}:p=0/\hs=[]\/p=1->qS n=true->Qw s=true->kL r->Lb ⟨ls,hs,[],p⟩ (hldH ⟨n,s,r,[]⟩) ⟨ls,hs++[⟨n,s,r,[]⟩],[],1⟩
 |inn {ls:List yp} {hs:List y7} {h:y7} {t:List UInt8}:qS t=true->Lb ⟨ls,hs++[h],[],1⟩ (32::32::t) ⟨ls,hs++[⟨h.name,h.we,h.buckets,h.zr++[t]⟩],[],1⟩
 |exp {ls:List yp} {hs:List y7} {xs:List Xp} {n l f s:List UInt8} {p:Nat}:p=0/\hs=[]/\xs=[]\/p=1/\xs=[]\/p=5->qS n=true->qS l=true->qS f=true->Qw s=true->Lb ⟨ls,hs,xs,p⟩ (xpHL (N8 n l f s)) ⟨ls,hs,xs++[N8 n l f s],3⟩
 |cnd {ls:List yp} {hs:List y7} {xs:List Xp} {n l f s:List UInt8} {c:Cnd}:c.check=0->(vY c).2=0->Lb ⟨ls,hs,xs++[N8 n l f s],3⟩ (Lib.join [[32,32,105,102],(vY c).1] [32]) ⟨ls,hs,xs++[⟨n,l,f,c,s,[],[]⟩],4⟩
 |arm {ls:List yp} {hs:List y7} {xs:List Xp} {n l f s:List UInt8} {c:Cnd} {a:List Rg}:Ko 0 a->a.length<=200->Lb ⟨ls,hs,xs++[⟨n,l,f,c,s,[],[]⟩],4⟩ (Lib.join ([32,32,97,114,109,115]::a.map Q2) [32]) ⟨ls,hs,xs++[⟨n,l,f,c,s,a,[]⟩],5⟩
 |phs {ls:List yp} {hs:List y7} {xs:List Xp} {x:Xp} {p:yk}:kL p.at_->(∀s∈p.qw,kL s.1/\kL s.2)->p.qw.length<=100->Lb ⟨ls,hs,xs++[x],5⟩ (Ty p) ⟨ls,hs,xs++[⟨x.name,x.w9,x.flag,x.cond,x.we,x.ja,x.zQ++[p]⟩],5⟩
inductive tA:cE->List (List UInt8)->cE->Prop
 |nil {r:cE}:tA r [] r
 |cons {r r1 r2:cE} {s:List UInt8} {l:List (List UInt8)}:Lb r s r1->tA r1 l r2->tA r (s::l) r2
theorem tA.app{r a b:cE}{l m:List za}(h:tA r l a)(c:tA a m b):tA r (l++m) b:=by
 induction h with
 |nil=>exact c
 |cons hs _ d=>exact .cons hs (d c)
theorem l6:∀{xs:List yp} {a:za} {l:List za} (b:List yp),(ke a l xs).1=0->tA ⟨b,[],[],0⟩ (xs.map Tw) ⟨b++xs,[],[],0⟩
 |[],_,_,b,_=>by rw[wg];exact .nil
 |x::xs,a,l,b,h=>by
  simp only[ke]at h;split at h
  ·rename_i f;split at h
   ·rename_i d;split at h
    ·rename_i g;have e:=l6 (b++[x]) h;rw[z8,kh]at e;rw[YG]at g;refine .cons (.lay (b9 f).1 ?_ ⟨by omega,by omega⟩) e;unfold Zk at d;split at d
     ·assumption
     ·omega
    ·exact absurd h (by simp)
   ·rename_i c;exact absurd h c
  ·rename_i c;exact absurd h c
theorem Ft{l:List za}{s:za}(h:Zk l s=0):Qw s=true:=by
 unfold Zk at h;split at h
 ·assumption
 ·omega
theorem l7{L:List yp}:∀{l:List za} {p:Option za},Ka L p l=0->∀t∈l,t∈L.map yp.name
 |[],_,_,t,a=>by simp at a
 |s::l,p,h,t,a=>by
  rw[Ka]at h;split at h
  ·rename_i c;split at h
   ·omega
   ·rcases zx.1 a with rfl|a
    ·exact zE (DI c)
    ·exact l7 h t a
  ·omega
theorem pd:∀{xs:List yp} {a:za} {l:List za},(ke a l xs).1=0->∀t∈xs.map yp.name,qS t=true
 |[],_,_,_,t,b=>by simp at b
 |x::xs,a,l,h,t,b=>by
  simp only[ke]at h;split at h
  ·rename_i d;split at h
   ·split at h
    ·rw[zG]at b;rcases zx.1 b with rfl|b
     ·exact(b9 d).1
     ·exact pd h t b
    ·exact absurd h (by simp)
   ·rename_i c;exact absurd h c
  ·rename_i c;exact absurd h c
theorem pg(a:List yp)(hs:List y7):∀(l:List za) (h:y7),(∀t∈l,qS t=true)->tA ⟨a,hs++[h],[],1⟩ (l.map fun s=>32::32::s) ⟨a,hs++[⟨h.name,h.we,h.buckets,h.zr++l⟩],[],1⟩
 |[],h,_=>by rw[wg];exact .nil
 |t::l,h,b=>by
  have c:=pg a hs l ⟨h.name,h.we,h.buckets,h.zr++[t]⟩ fun x d=>b x (by simp[d])
  simp only[z8,kh]at c;exact .cons (.inn (b t (by simp))) c
theorem eJ{L:List yp}(e:∀t∈L.map yp.name,qS t=true):∀{xs:List y7} {a:za} {l:List za} (b:List yp) (hs:List y7) (p:Nat),(p=0/\hs=[]\/p=1)->(Za L a l xs).1=0->∃q,tA ⟨b,hs,[],p⟩ (xs.flatMap Tx) ⟨b,hs++xs,[],q⟩/\(q=0/\hs++xs=[]\/q=1)
 |[],_,_,b,hs,p,Y,_=>⟨p,by rw[wg];exact .nil,by rw[wg];exact Y⟩
 |x::xs,a,l,b,hs,p,Y,h=>by
  simp only[Za]at h;split at h
  ·rename_i i;split at h
   ·rename_i j;split at h
    ·rename_i d;obtain⟨q,f,g⟩:=eJ e b (hs++[x]) 1 (.inr rfl) h;rw[z8,kh]at f g;refine⟨q,?_,g⟩;rw[yM];refine tA.app ?_ f;unfold XJ at d;split at d
     ·rename_i k;rw[YG]at k;split at d
      ·omega
      ·have m:=pg b hs x.zr ⟨x.name,x.we,x.buckets,[]⟩ fun t n=>e t (l7 d t n)
       exact .cons (.hld Y (b9 i).1 (Ft j) (show kL x.buckets from⟨by omega,by omega⟩)) m
     ·omega
    ·rename_i c;exact absurd h c
   ·rename_i c;exact absurd h c
  ·rename_i c;exact absurd h c
theorem Fu:∀{l:List Rg} {n lo a:Int} {p:Option Int},Ah n lo a p l->0<=lo->n<=100->a<=100000->Ko lo l
 |[],_,_,_,_,_,_,_,_=>trivial
 |x::l,n,lo,a,p,h,f,b,c=>by obtain⟨d,g,i,j,k,m,e⟩:=h;exact⟨d,⟨by omega,by omega⟩,⟨by omega,by omega⟩,Fu e (by omega) b c⟩
theorem ph(a:List yp)(hs:List y7)(xs:List Xp):∀(l:List yk) (x:Xp),(∀p∈l,kL p.at_/\(∀s∈p.qw,kL s.1/\kL s.2)/\p.qw.length<=100)->tA ⟨a,hs,xs++[x],5⟩ (l.map Ty) ⟨a,hs,xs++[⟨x.name,x.w9,x.flag,x.cond,x.we,x.ja,x.zQ++l⟩],5⟩
 |[],x,_=>by rw[wg];exact .nil
 |p::l,x,Y=>by
  have b:=ph a hs xs l ⟨x.name,x.w9,x.flag,x.cond,x.we,x.ja,x.zQ++[p]⟩ fun y c=>Y y (by simp[c])
  simp only[z8,kh]at b;obtain⟨d,e,f⟩:=Y p (by simp);exact .cons (.phs d e f) b
theorem l8{L:List yp}(g:∀t∈L.map yp.name,qS t=true):∀{ys:List Xp} {a:za} {l:List za} (d:List yp) (hs:List y7) (xs:List Xp) (p:Nat),(p=0/\hs=[]/\xs=[]\/p=1/\xs=[]\/p=5)->(YF L a l ys).1=0->(∀y∈ys,(vY y.cond).2=0)->∃q,tA ⟨d,hs,xs,p⟩ (ys.flatMap xpL) ⟨d,hs,xs++ys,q⟩/\(q=0/\hs=[]/\xs++ys=[]\/q=1/\xs++ys=[]\/q=5)
 |[],_,_,d,hs,xs,p,Y,_,_=>⟨p,by rw[wg];exact .nil,by rw[wg];exact Y⟩
 |x::ys,a,l,d,hs,xs,p,Y,h,i=>by
  have j:cD x:=lO h x (by simp);simp only[YF]at h;split at h
  ·rename_i c;obtain⟨q,k,m⟩:=l8 g d hs (xs++[x]) 5 (.inr (.inr rfl)) h fun y n=>i y (by simp[n])
   rw[z8,kh]at k m;refine⟨q,?_,m⟩;rw[yM];refine tA.app ?_ k;unfold Wg at c;split at c
   ·rename_i o;split at c
    ·rename_i r;split at c
     ·rename_i u;split at c
      ·rename_i v;split at c
       ·rename_i w;split at c
        ·rename_i z;obtain⟨A,B,_⟩:=XI z;have e:ko x.zQ=0:=c;have f:=ph d hs xs x.zQ ⟨x.name,x.w9,x.flag,x.cond,x.we,x.ja,[]⟩ fun p Y=>⟨j.phs p Y,fun s hs=>by have:=j.spn p Y s hs;exact⟨⟨this.1,this.2.1⟩,this.2.2⟩,by obtain⟨_,_,_,C⟩:=XH (XK e p Y);exact C⟩
         exact .cons (.exp Y (b9 o).1 (g _ (zE (DI r))) u (Ft w)) (.cons (.cnd v (i x (by simp))) (.cons (.arm (Fu A (by omega) (by omega) (by omega)) B) f))
        ·rename_i b;exact absurd c b
       ·rename_i b;exact absurd c b
      ·rename_i b;exact absurd c b
     ·exact absurd c (by simp)
    ·exact absurd c (by simp)
   ·rename_i b;exact absurd c b
  ·rename_i c;exact absurd h c
theorem N9{b:Bk}(h:yT b=0)(f:nN b.wP=false):∃q,tA ⟨[],[],[],0⟩ (bkL b) ⟨b.zr,b.holds,b.wP,q⟩/\(q=0\/q=1\/q=5):=by
 have d:∀y∈b.wP,(vY y.cond).2=0:=fun y n=>by unfold nN at f;have:=List.any_eq_false.1 f y n;simpa using this
 unfold yT at h;split at h
 ·omega
 split at h
 ·rename_i g;split at h
  ·rename_i o;split at h
   ·rename_i p;have i:=l6 [] g;have j:=pd g;obtain⟨q,k,l⟩:=eJ j b.zr [] 0 (.inl ⟨rfl,rfl⟩) o;rw[ye]at i k l;obtain⟨r,m,e⟩:=l8 j b.zr b.holds [] q (by rcases l with⟨a,b⟩|a;exact .inl ⟨a,b,rfl⟩;exact .inr (.inl ⟨a,rfl⟩)) p d;rw[ye]at m;exact⟨r,i.app (k.app m),by rcases e with a|a|a;exact .inl a.1;exact .inr (.inl a.1);exact .inr (.inr a)⟩
   ·rename_i c;exact absurd h c
  ·rename_i c;exact absurd h c
 ·rename_i c;exact absurd h c
end Go.Q
namespace Go.AM
variable{dr:Prop}
def aO(u:O->O):Prop:=∀(w:World) (S:Nat->Prop) (y:O) (v:Value),wG w S y v->wG w S (u y) v
def Rx(k:Nat):O->O
 | .nil=>.sl k []
 |x=>x
def l9:List (O->O)->zb->zb
 |u::us,x::xs=>u x::l9 us xs
 |_,xs=>xs
def HX(us:List (O->O)):O->O
 | .agg cs=>.agg (l9 us cs)
 |x=>x
def TF(us:List (O->O)):O->O
 | .qZ cs=>.qZ (l9 us cs)
 |x=>x
theorem aO.id:aO fun x=>x:=fun _ _ _ _ h=>h
theorem aO.nz(k:Nat):aO (Rx k):=fun w S y v h=>by
 cases y<;>first
  |exact h
  |exact rq h (.inr ⟨rfl,k,rfl⟩)
theorem ma:∀(us:List (O->O)) (xs:zb),(l9 us xs).length=xs.length
 |[],_=>rfl
 |_::_,[]=>rfl
 |u::us,x::xs=>by simp[l9,ma us xs]
theorem mb:∀(us:List (O->O)) (_:∀u∈us,aO u) (xs:zb) (w:World) (S:Nat->Prop) (j:Nat) (y:O) (v:Value),(l9 us xs)[j]?=some y->(∀x,xs[j]?=some x->wG w S x v)->wG w S y v
 |[],_,_,_,_,_,y,_,a,b=>b y a
 |_::_,_,[],_,_,_,_,_,a,_=>by simp[l9]at a
 |u::us,c,x::xs,w,S,0,y,v,a,b=>by simp only[l9,XN,qV]at a;rw[<-a];exact c u (by simp) w S x v (b x rfl)
 |u::us,c,x::xs,w,S,j+1,y,v,a,b=>mb us (fun u h=>c u (by simp[h])) xs w S j y v (by simpa[l9]using a) (fun x d=>b x (by simpa using d))
theorem aO.agg{us:List (O->O)}(a:∀u∈us,aO u):aO (HX us):=fun w S y v h=>by
 cases h with
 |agg b c=>exact .agg (by rw[ma];exact b) fun j d x e f=>mb us a _ w S j d x e fun z g=>c j z x g f
 |_=>first
  |exact .v (by assumption)
  |exact .nil
  |exact .em (by assumption)
  |(simp only[HX];constructor<;>assumption)
theorem aO.qZ{us:List (O->O)}(a:∀u∈us,aO u):aO (TF us):=fun w S y v h=>by
 cases h with
 |qZ b c=>exact .qZ (by rw[ma];exact b) fun j d x e f=>mb us a _ w S j d x e fun z g=>c j z x g f
 |_=>first
  |exact .v (by assumption)
  |exact .nil
  |exact .em (by assumption)
  |(simp only[TF];constructor<;>assumption)
variable{dr:Prop}
def qe(T:TypeId)(cs:zb):Blk:=⟨T,cs.length,false,[cs]⟩
def cellsOf(T:TypeId)(b:Blk):Option zb:=match b.es with
 |[cs]=>if b.e=T/\b.s=cs.length/\b.arr=false/\cs.all O.isV=true then some cs else none
 |_=>none
theorem Vl{T:TypeId}{b:Blk}{cs:zb}(h:cellsOf T b=some cs):b=qe T cs/\cs.all O.isV=true:=by
 obtain⟨e,s,a,es⟩:=b;unfold cellsOf at h;simp only at h;split at h
 ·split at h
  ·rename_i c;obtain⟨d,f,g,i⟩:=c;injection h with h
   subst h;subst d;subst f;subst g;exact⟨rfl,i⟩
  ·cases h
 ·cases h
@[simp]theorem eK(T:TypeId)(cs:zb)(h:cs.all O.isV=true):cellsOf T (qe T cs)=some cs:=by simp only[cellsOf,qe];rw[zl ⟨trivial,trivial,trivial,h⟩]
def nP(T:TypeId)(F:zb->zb->Option (zb×O)):AM.Spec:=fun args Y Z=>match args with
 | .ref id 0 0::rest=>if rest.all O.isV=true then(Y id).bind fun b=>(cellsOf T b).bind fun cs=>(F cs rest).bind fun q=>if q.1.length=cs.length/\q.1.all O.isV=true then some (q.2,zI Y id (some (qe T q.1)),Z)else none else none
 |_=>none
theorem sG{T:TypeId}{F:zb->zb->Option (zb×O)}{id:Nat}{rest cs cs':zb}{Y:Hp}{Z:Nat}{r:O}(a:rest.all O.isV=true)(b:Y id=some (qe T cs))(c:cs.all O.isV=true)(d:F cs rest=some (cs',r))(e:cs'.length=cs.length)(f:cs'.all O.isV=true) :
  nP T F (.ref id 0 0::rest) Y Z=some (r,zI Y id (some (qe T cs')),Z):=by
 simp only[nP,zl a,b,zW,eK T cs c,d];rw[zl ⟨e,f⟩]
def AY(T:TypeId)(cs':zb)(r x:O)(Y':Hp)(_:Nat):Prop:=∃r0 Y2,AM.freeze Y' x=some (r0,Y2)/\Y2 0=some (qe T cs')/\∀(w:World) (S:Nat->Prop) (v:Value),wG w S r0 v->wG w S r v
theorem yj{T:TypeId}{cs':zb}{Y:Hp}{Z:Nat}{r:O}(a:AM.freeze Y r=some (r,Y))(h:Y 0=some (qe T cs')):AY T cs' r r Y Z:=⟨r,Y,a,h,fun _ _ _ h=>h⟩
theorem wc{T:TypeId}{cs':zb}{Y Y2:Hp}{Z:Nat}{x r0 r:O}(a:AM.freeze Y x=some (r0,Y2))(h:Y2 0=some (qe T cs')){u:O->O}(b:aO u)(c:u r0=r):AY T cs' r x Y Z:=⟨r0,Y2,a,h,fun w S v d=>c ▸ b w S r0 v d⟩
theorem ZR{e x:Int}(h:¬e=x):(e==x)=false:=by simpa using h
def wF(T:TypeId)(cs:zb):Hp:=zI (fun _=>none) 0 (some (qe T cs))
theorem TG{x:O}(h:x.isV=true):∃v,x=.v v:=by
 cases x<;>first
  |exact⟨_,rfl⟩
  |cases h
theorem Fv{w a:World}{S S':Nat->Prop}{G G':Nat->GI}{Z Z':Nat}{x:O}{u:Value}(b:x.isV=true)(h:qg w S G Z x u):qg a S' G' Z' x u:=by obtain⟨v,rfl⟩:=TG b;obtain⟨rfl,d⟩:=h.wZ;exact .c (.v d)
theorem Fw{P:Program}{w:World}{S S':Nat->Prop}{G G':Nat->GI}{Z Z':Nat}{b:GI}{T:TypeId}{cs:zb}(a:0<b.s)(m:cs.all O.isV=true)(h:kb P w S G Z b (qe T cs)):kb P w S' G' Z' b (qe T cs):=by
 refine kb.kG a h.bs ⟨h.size a,h.len a,h.fit a,?_⟩;obtain⟨cur,n,o,p⟩:=h.row a;refine⟨cur,n,o,fun i j c f g k=>?_⟩;obtain⟨u,q,l⟩:=p i j c f g k;have r:c=cs:=by have t:=zE g;simpa[qe]using t
 subst r;have d:=zP.1 m f (zE k);exact⟨u,q,fun e=>by simp[qe]at e,Fv d l.2.1,l.2.2⟩
section
variable{C:Ctx}{f:FuncId}{fn:Func}{code:Code}
theorem j9(A:C.P.funcs[f]?=some fn)(U:(fn.name== "runtime.NumGoroutine")=false)(B:fn.body=some code)(T:TypeId)(F:zb->zb->Option (zb×O))
  (hF:∀cs az cs' r,F cs az=some (cs',r)->az.length+1<=fn.ntmps/\Wp dr C fn.ntmps code ⟨kM (.ref 0 0 0::az),wF T cs,1⟩ (Xb C.P fn (AY T cs' r))):jl dr C.P f (nP T F):=by
 refine⟨⟨fn,A,U,by rw[B];rfl⟩,?_⟩;intro args Y Z r Y' Z' h w S G vs i hz;unfold nP at h;split at h
 case h_2=>cases h
 rename_i id rest;obtain⟨u,us,rfl,hu,D⟩:=hz.jr;split at h
 case isFalse=>cases h
 rename_i q;obtain⟨b,E,h⟩:=zL.1 h;obtain⟨cs,W,h⟩:=zL.1 h;obtain⟨⟨cs',r0⟩,X,h⟩:=zL.1 h;simp only at h;split at h
 case isFalse=>cases h
 rename_i H;injection h with h
 injection h with e1 h;injection h with e2 e3;subst e1;subst e2;subst e3;obtain⟨rfl,hcv⟩:=Vl W;obtain⟨hn,hW⟩:=hF cs rest cs' r0 X;have t:=hu.Qn;obtain⟨hid,rfl⟩:=hu.kW;have hbr:=i.live id _ E;have Q:∀k c,wF T cs k=some c->k=0/\c=qe T cs:=by
  intro k c a;unfold wF zI at a;split at a
  ·injection a with a;exact⟨by assumption,a.symm⟩
  ·cases a
 have I:Inv C.P w S (fun _=>G id) (wF T cs) 1:=⟨i.st,fun k c a=>by rw[(Q k c a).1];omega,fun k c a=>by rw[(Q k c a).2];exact Fw t hcv hbr,fun k c a=>i.apart id _ E,fun k k' c c' a z _=>by rw[(Q k c a).1,(Q k' c' z).1],i.aH⟩
 have hz2:Zip (qg w S (fun _=>G id) 1) (.ref 0 0 0::rest) (.pointer (some ⟨(G id).g,0*(G id).s+0,none⟩)::us):=
  .cons (qg.ref (G:=fun _=>G id) (id:=0) (by omega) t) ⟨D.1,fun j x u h1 h2=>Fv (zP.1 q x (zE h1)) (D.2 j x u h1 h2)⟩
 refine(Yv A B hW I hz2 (by simpa using hn)).mono fun e w' hh=>?_
 obtain⟨x,hpe,nxe,v,S',G',⟨y,Y2,hfz,h0,hup⟩,J,k,hxr⟩:=hh;obtain⟨R,k2,hc⟩:=vH (dr:=dr) k.inv hfz hxr;have d:=k.trans k2;have K:G' 0=G id:=d.loc 0 (by omega);have l:∀b,jv (wF T cs) (fun _=>G id) b->b=(G id).g:=by rintro b ⟨k,c,a,e⟩;exact e.symm
 have L:¬R (G id).g:=by rw[<-K];exact d.inv.apart 0 _ h0
 have m:∀b,R b->S b\/w.heap.size<=b:=fun b n=>by
  rcases d.from_ b n with h1|h1|h1
  ·exact .inl h1
  ·rw[l b h1]at n;exact(L n).elim
  ·exact .inr h1
 have hS:=d.same I;have o:∀k c,zI Y id none k=some c->(G k).g≠(G id).g:=fun k c a J=>by
  have hne:k≠id:=by rintro rfl;simp at a
  exact hne (i.inj k id c _ (jK a) E J)
 have M:kd dr C.P Y Z S G w (zI Y id none) Z R G w':=by
  refine⟨⟨d.inv.st,fun k c a=>i.top k c (jK a),fun k c a=>?_,fun k c a hs2=>?_,fun k k' c c' a z J=>i.inj k k' c c' (jK a) (jK z) J,i.aH.mono hS⟩,zk _,fun _ _=>rfl,d.kO,fun b n=>?_,fun k c a=>.inl ⟨k,c,jK a,rfl⟩,?_⟩
  ·have hl:=i.live k c (jK a);exact hl.mono hS (zk _) (fun _ _=>rfl) (d.fr.block _ hl.lt fun h=>o k c a (l _ h))
  ·rcases m _ hs2 with h1|h1
   ·exact i.apart k c (jK a) h1
   ·have:=(i.live k c (jK a)).lt;omega
  ·rcases m b n with h1|h1
   ·exact .inl h1
   ·exact .inr (.inr h1)
  ·exact⟨d.fr.os,d.fr.tape,d.fr.output,d.fr.size,d.fr.drawn,fun b hbl hnl=>d.fr.block b hbl fun h=>hnl ⟨id,_,E,(l b h).symm⟩⟩
 have N:=d.inv.live 0 _ h0;rw[K]at N;have p:=M.na (id:=id) (b:=qe T cs') E hid (Fw t H.2 N) L fun k c a _=>o k c a
 have hpe:zI (zI Y id none) id (some (qe T cs'))=zI Y id (some (qe T cs')):=by
  funext j;by_cases h1:j=id
  ·subst h1;simp
  ·rw[zc _ _ _ _ h1,zc _ _ _ _ h1,zc _ _ _ _ h1]
 rw[hpe]at p;exact⟨v,R,G,J,p,.c (hup _ _ _ hc)⟩
theorem yU{pf:FuncId->Bool}(c:kl dr C pf)(a:XP C pf f fn code)(T:TypeId)(F:zb->zb->Option (zb×O))
  (b:∀cs az cs' r,F cs az=some (cs',r)->az.length+1<=fn.ntmps/\Zs C code ⟨kM (.ref 0 0 0::az),wF T cs,1⟩ (Xb C.P fn (AY T cs' r))):jl dr C.P f (nP T F):=
 j9 a.func a.name a.body T F fun cs az cs' r h=>⟨(b cs az cs' r h).1,Wp.of c (b cs az cs' r h).2 a.ok⟩
end
open Classical in
noncomputable def pj {α:Type} (encC encA:α->zb) (pre:α->Prop) (out:α->zb×O):zb->zb->Option (zb×O):=fun cs az=>
 if h:∃a,cs=encC a/\az=encA a/\pre a then some (out (Classical.choose h))else none
theorem mc{α:Type}{encC encA:α->zb}{pre:α->Prop}{out:α->zb×O}(d:∀a b,encC a=encC b->encA a=encA b->a=b){a:α}(h:pre a):pj encC encA pre out (encC a) (encA a)=some (out a):=by have c:∃b,encC a=encC b/\encA a=encA b/\pre b:=⟨a,rfl,rfl,h⟩;unfold pj;rw[dif_pos c];have:=yz c;rw[<-d _ _ this.1 this.2.1]
theorem pk{α:Type}{encC encA:α->zb}{pre:α->Prop}{out:α->zb×O}{cs az:zb}{r:zb×O}(h:pj encC encA pre out cs az=some r):∃a,cs=encC a/\az=encA a/\pre a/\r=out a:=by
 unfold pj at h;split at h
 ·rename_i b;injection h with h
  have:=yz b;exact⟨_,this.1,this.2.1,this.2.2,h.symm⟩
 ·cases h
def eL(T:TypeId)(F:zb->zb->Option O):AM.Spec:=fun args Y Z=>match args with
 | .ref id 0 0::rest=>if rest.all O.isV=true then(Y id).bind fun b=>(cellsOf T b).bind fun cs=>(F cs rest).map fun r=>(r,Y,Z)else none
 |_=>none
theorem Oa{T:TypeId}{F:zb->zb->Option O}{id:Nat}{rest cs:zb}{Y:Hp}{Z:Nat}{r:O}(a:rest.all O.isV=true)(b:Y id=some (qe T cs))(c:cs.all O.isV=true)(d:F cs rest=some r) :
  eL T F (.ref id 0 0::rest) Y Z=some (r,Y,Z):=by
 simp only[eL,zl a,b,zW,eK T cs c,d,zY]
theorem xC(T:TypeId)(F:zb->zb->Option O):Qt (eL T F):=by
 intro args Y Z r Y' Z' h;unfold eL at h;split at h
 case h_2=>cases h
 rename_i id rest;split at h
 case isFalse=>cases h
 rename_i d;obtain⟨b,a,h⟩:=zL.1 h;obtain⟨cs,e,h⟩:=zL.1 h;obtain⟨r0,f,h⟩:=zJ h;injection h with g h
 injection h with i j;subst g;subst i;subst j;refine⟨⟨rfl,rfl⟩,fun l k=>?_⟩;have c:id≠Z:=by rintro rfl;rw[k]at a;cases a
 simp only[eL,zl d,zc _ _ _ _ c,a,zW,e,f,zY]
theorem AZ{P:Program}{f:FuncId}{T:TypeId}{F:zb->zb->Option O}(h:jl dr P f (nP T fun cs az=>(F cs az).map fun r=>(cs,r))):jl dr P f (eL T F):=by
 refine⟨h.1,fun args Y Z r Y' Z' e w S G vs g i=>?_⟩;refine h.2 args Y Z r Y' Z' ?_ w S G vs g i;unfold eL at e;split at e
 case h_2=>cases e
 rename_i id rest;split at e
 case isFalse=>cases e
 rename_i k;obtain⟨b,a,e⟩:=zL.1 e;obtain⟨cs,l,e⟩:=zL.1 e;obtain⟨r0,m,e⟩:=zJ e;injection e with n e
 injection e with o p;subst n;subst o;subst p;obtain⟨rfl,c⟩:=Vl l;rw[sG (cs':=cs) (r:=r0) k a c (by simp[m]) rfl c];have:zI Y id (some (qe T cs))=Y:=by
  funext j;by_cases d:j=id
  ·subst d;rw[qU,a]
  ·rw[zc _ _ _ _ d]
 rw[this]
theorem Ob{P:Program}{w:World}{S:Nat->Prop}{G:Nat->GI}{Y:Hp}{Z:Nat}(B:Inv P w S G Y Z){d dst e:TypeId}(hs:P.underlying d=some (.slice e))(C:P.underlying e=some (.int .u8))(hd:P.underlying dst=some .string){p:O}{u:Value}{l:za}(D:AM.view Y 1 p=some (l.map fa))(E:qg w S G Z p u) :
  (convert d dst u).run P w=.ok (.string ⟨l.toArray⟩) w:=by
 obtain⟨A,c,f,rfl,N,F⟩:=XQ B D E;have a:∀i,i<l.length->∃b,A=some b/\w.cell? (b.add i)=some (.int .u8 ((l.getD i 0).toNat:Int)):=fun i k=>by obtain⟨b,H,t,I⟩:=F i 0 (fa l[i]) (.v (.int .u8 l[i].toNat)) (by simp[k]) rfl;obtain⟨z,_⟩:=I.2.1.wZ;refine⟨b,H,?_⟩;rw[Nat.mul_one,xU]at t z;rw[t,z];simp[List.getD,k]
 rw[wx,run_convert_bytes_string w d dst e _ _ _ hs C hd];cases l with
 |nil=>
  cases A with
  |none=>simp[Conv.bytesToString];rfl
  |some b=>simp[Conv.bytesToString,loadCells,loadCellsFrom];rfl
 |cons x l=>
  obtain⟨b,rfl,_⟩:=a 0 (by simp);have J:(loadCells b (x::l).length).run P w=.ok (((x::l).map fun y=>((y.toNat:Nat):Int)).map (Value.int .u8)).toArray w:=by
   have:=run_loadCells_list (P:=P) w b (((x::l).map fun y=>((y.toNat:Nat):Int)).map (Value.int .u8)) (fun j v o=>by
    have g:j<(x::l).length:=by have:=(zd.1 o).1;simpa using this
    obtain⟨K,q,L⟩:=a j g;injection q with q;subst q;rw[L];rw[qq,qq,zm g]at o;simp only[zY,qV]at o;rw[<-o,List.getD,zm g];rfl)
   simpa using this
  have h:∀(m:za) (s:ByteArray),(m.map fun y=>((y.toNat:Nat):Int)).foldl (fun r n=>r.push (UInt8.ofNat n.toNat)) s=⟨s.data++m.toArray⟩:=by
   intro m
   induction m with
   |nil=>intro s;simp
   |cons n m M=>intro s;rw[zG,List.foldl_cons,M];simp[ByteArray.push]
  rw[run_bytesToString w _ _ _ _ J,h];simp[ByteArray.empty,ByteArray.emptyWithCapacity];rfl
section
variable{C:Ctx}{N:Nat}{pf:FuncId->Bool}
theorem kJ.zg8{g:Array Oper}{i:Nat}{d:Tmp}{x:Operand}{b dst e ty:TypeId}{p:String}{r:Array Edge}{l:List Nat}{st:St}{K:St->Prop}{q:O}{s:za}
  (t:g[i]?=some ⟨some d,.convert b dst x,ty,p,r,none⟩) (hd:d<N) (u:get st.σ x=some q) (y:AM.view st.Y 1 q=some (s.map fa)) (hs:C.P.underlying b=some (.slice e)) (z:C.P.underlying e=some (.int .u8)) (A:C.P.underlying dst=some .string)
  (h:kJ dr C N g l ⟨zI st.σ d (str s),st.Y,st.Z⟩ K):kJ dr C N g (i::l) st K:=by
 intro B D L E F n0 a w Q n H;simp only[wpOpsIn,t];obtain⟨S,G,j⟩:=n;rw[bb j.vR,zl (ee _ _ _ _ _ _)];have o:∀c,(Op.convert b dst x:Op)≠.defer c:=fun c I=>by cases I
 refine⟨fun f _=>trivial,?_⟩;rw[Oper.semAt_eq _ _ _ o];have J:=Ob j.inv hs z A y (Yp j.vR u);have k:=h B D L E F n0 (a.put (some d) (.string ⟨s.toArray⟩)) w Q ⟨S,G,j.step (dst:=some d) (.refl j.inv) (.c (.v rfl)) (fun _ e=>by cases e;exact hd)⟩ H;have m:(execOp a.eval ⟨some d,.convert b dst x,ty,p,r,none⟩).run C.P w=.ok (.value (.string ⟨s.toArray⟩)) w:=by simp[execOp,J,-bind_pure_comp]
 rw[m];exact k
end
end Go.AM
