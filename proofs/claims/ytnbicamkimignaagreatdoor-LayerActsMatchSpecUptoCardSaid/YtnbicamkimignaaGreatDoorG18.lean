/- Lemmas. -/
import Derived.Shelf.Spec.SlicesGrow
import Derived.Shelf.SlSortCmp.WholeK
import Derived.Shelf.SlSortCmp.NoneTotal
import Derived.Test.YtnbicamkimignaaGreatDoorProg
import Derived.Test.YtnbicamkimignaaGreatDoorG17
set_option maxRecDepth 8000
open Go Proofs Proofs.YtnbicamkimignaaGreatDoor Proofs.Tryz RowKit AM SpanLaw Q Zz
open Go.IntKind renaming i64→i6
namespace Go.Q
abbrev zM(s:Sp):zc:=[int s.1,int s.2]
theorem dO{a b:Sp}(h:zM a=zM b):a=b:=by simp only[zh,zK,O.v.injEq,Value.int.injEq,ab]at h;exact Th h.1 h.2
theorem jE{a b:List Sp}(h:O.sl 2 (a.map zM)=O.sl 2 (b.map zM)):a=b:=by injection h with _ h;exact y7 (fun _ _=>dO) h
def Tr(s:Sp):Bool:=!jg s.1 0 99999||decide ((100000:Int)<s.2)
def TE(p:Option Int)(s:Sp):Bool:=decide (s.2≤s.1)||(match p with
 |none=>false
 |some q=>decide (s.1≤q))
def Ms:Option Int→List Sp→Int
 |_,[]=>0
 |p,s::l=>if Tr s then 1 else if TE p s then 8 else Ms (some s.2) l
theorem Dq{l:List Sp}{k:Nat}(h:k<l.length)(p:Option Int):Ms p (l.drop k)=if Tr l[k]then 1 else if TE p l[k]then 8 else Ms (some l[k].2) (l.drop (k+1)):=by rw[zd h,Ms]
def JC(l:List Sp)(k:Nat):Option Int:=if k=0 then none else(l[k-1]?).map (·.2)
def w7(l:List Sp):Int:=if(100:Int)<l.length then 2 else Ms none l
theorem kV:zg prog 16 (zi false [] (F3 jg)):=
 qq (fn:=f16) w8 ⟨_,func16,by kernel_rfl,rfl,by kernel_rfl⟩ false [] _ fun args r h=>by obtain⟨a,b,c,rfl,rfl⟩:=mD h;exact⟨by simp[f16],_,zo rfl (by simp[f16,jg]),qm _⟩
noncomputable abbrev Cwl:Ctx:=qb prog [(16,zi false [] (F3 jg))]
theorem zlY(l:List Sp):zz Cwl f166 [.sl 2 (l.map zM)]=some (int (w7 l)):=by
 refine zo rfl ?_;rw[w7];by_cases r:(100:Int)<l.length
 ·simp[r,f166]
 simp[r];refine zQ (fun k i Y Z=>i 0=.sl 2 (l.map zM)∧i 8=.sl 2 (l.map zM)∧i 9=int l.length∧i 10=int k∧Ms none l=Ms (JC l k) (l.drop k)) l.length
  ⟨by simp,by simp,by simp,by simp,by simp[JC]⟩ ?_
 rintro k i Y Z A ⟨f,g,h,c,a⟩;by_cases b:k<l.length
 ·have B:i6.wrap ((k:Int)+1)=(k:Int)+1:=zn (by omega) (by omega);have en:(!jg l[k].1 0 99999||decide ((100000:Int)<l[k].2))=Tr l[k]:=rfl;rw[Dq b]at a;cases o:Tr l[k]
  case true=>rw[o]at en a;simp[f,g,h,c,b,en,a,f166]
  rw[o]at en;simp only[o,zU,wK]at a;have e:JC l (k+1)=some l[k].2:=by simp[JC,b]
  by_cases x:k=0
  ·subst x;simp only[JC,wi,TE,Bool.or_false]at a;by_cases d:l[0].2≤l[0].1
   ·simp only[d,Lm,wi]at a;simp[f,g,h,c,b,en,d,a,f166]
   ·simp only[d,zca,zU,wK]at a;have y:i6.wrap 1=1:=zn (by omega) (by omega);simp[f,g,h,c,b,en,d,y]
    and_intros<;>first|omega|(rw[a];rw[e];done)|(rw[a];rw[e];simp)
  ·obtain⟨j,rfl⟩:∃j,k=j+1:=⟨k-1,by omega⟩;have p:j<l.length:=by omega
   have s:i6.wrap ((j:Int)+1-1)=(j:Int):=by rw[zn (by omega) (by omega)];omega
   have m:i6.wrap (j:Int)=(j:Int):=zn (by omega) (by omega);have t:((j:Int)+1).toNat=j+1:=by omega
   have u:0<(j:Int)+1:=by omega
   have v:0≤(j:Int)+1:=by omega
   have w:(j:Int)+1<l.length:=by omega
   have z:i6.wrap ((j:Int)+1+1)=(j:Int)+1+1:=zn (by omega) (by omega);have q:JC l (j+1)=some l[j].2:=by simp[JC,p]
   have n:(decide (l[j+1].2≤l[j+1].1)||decide (l[j+1].1≤l[j].2))=TE (some l[j].2) l[j+1]:=rfl;rw[q]at a;cases d:TE (some l[j].2) l[j+1]
   ·rw[d]at n;simp only[d,zU,wK]at a;simp[f,g,h,c,b,p,en,s,m,t,u,v,w,n,z]
    and_intros<;>first|omega|(rw[a];rw[e])
   ·rw[d]at n;simp only[d,wi]at a;simp[f,g,h,c,b,p,en,s,m,t,u,v,w,n,a,f166]
 ·obtain rfl:k=l.length:=by omega
  rw[zl]at a;have a:Ms none l=0:=by rw[a];rfl
  simp[f,g,h,c,a,f166]
theorem rspR(s:Sp):(decide (s.1<0)||decide ((100000:Int)≤s.1)||decide ((100000:Int)<s.2))=Tr s:=by unfold Tr jg;by_cases a:s.1<0<;>by_cases b:(100000:Int)≤s.1<;>simp[a,b]<;>omega
theorem fP(l:List Sp):zz C0 f175 [.sl 2 (l.map zM)]=some (int (w7 l)):=by
 refine zo rfl ?_;rw[w7];by_cases r:(100:Int)<l.length
 ·simp[r,f175]
 simp[r];refine zQ (fun k i Y Z=>i 0=.sl 2 (l.map zM)∧i 8=.sl 2 (l.map zM)∧i 9=int l.length∧i 10=int k∧Ms none l=Ms (JC l k) (l.drop k)) l.length
  ⟨by simp,by simp,by simp,by simp,by simp[JC]⟩ ?_
 rintro k i Y Z A ⟨f,g,h,c,a⟩;by_cases b:k<l.length
 ·have B:i6.wrap ((k:Int)+1)=(k:Int)+1:=zn (by omega) (by omega);have en:(decide (l[k].1<0)||decide ((100000:Int)≤l[k].1)||decide ((100000:Int)<l[k].2))=Tr l[k]:=rspR l[k];rw[Dq b]at a;cases o:Tr l[k]
  case true=>rw[o]at en a;simp[f,g,h,c,b,en,a,f175]
  rw[o]at en;simp only[o,zU,wK]at a;have e:JC l (k+1)=some l[k].2:=by simp[JC,b]
  by_cases x:k=0
  ·subst x;simp only[JC,wi,TE,Bool.or_false]at a;by_cases d:l[0].2≤l[0].1
   ·simp only[d,Lm,wi]at a;simp[f,g,h,c,b,en,d,a,f175]
   ·simp only[d,zca,zU,wK]at a;have y:i6.wrap 1=1:=zn (by omega) (by omega);simp[f,g,h,c,b,en,d,y]
    and_intros<;>first|omega|(rw[a];rw[e];done)|(rw[a];rw[e];simp)
  ·obtain⟨j,rfl⟩:∃j,k=j+1:=⟨k-1,by omega⟩;have p:j<l.length:=by omega
   have s:i6.wrap ((j:Int)+1-1)=(j:Int):=by rw[zn (by omega) (by omega)];omega
   have m:i6.wrap (j:Int)=(j:Int):=zn (by omega) (by omega);have t:((j:Int)+1).toNat=j+1:=by omega
   have u:0<(j:Int)+1:=by omega
   have v:0≤(j:Int)+1:=by omega
   have w:(j:Int)+1<l.length:=by omega
   have z:i6.wrap ((j:Int)+1+1)=(j:Int)+1+1:=zn (by omega) (by omega);have q:JC l (j+1)=some l[j].2:=by simp[JC,p]
   have n:(decide (l[j+1].2≤l[j+1].1)||decide (l[j+1].1≤l[j].2))=TE (some l[j].2) l[j+1]:=rfl;rw[q]at a;cases d:TE (some l[j].2) l[j+1]
   ·rw[d]at n;simp only[d,zU,wK]at a;simp[f,g,h,c,b,p,en,s,m,t,u,v,w,n,z]
    and_intros<;>first|omega|(rw[a];rw[e])
   ·rw[d]at n;simp only[d,wi]at a;simp[f,g,h,c,b,p,en,s,m,t,u,v,w,n,a,f175]
 ·obtain rfl:k=l.length:=by omega
  rw[zl]at a;have a:Ms none l=0:=by rw[a];rfl
  simp[f,g,h,c,a,f175]
noncomputable def FP (out:List Sp→O) (pre:List Sp→Prop):zc→Option O:=qv (α:=List Sp) (fun l=>[.sl 2 (l.map zM)]) pre out
theorem Yw(out:List Sp→O)(pre:List Sp→Prop)(l:List Sp)(Y:Hp)(Z:Nat)(h:pre l):zi false [] (FP out pre) [.sl 2 (l.map zM)] Y Z=some (out l,Y,Z):=
 qe rfl (zJ (V:=fun l:List Sp=>[O.sl 2 (l.map zM)]) (a:=l) (fun a b e=>by simp only[zh,zK]at e;exact jE e) h) (.inr rfl)
theorem fQ:zg prog 166 (zi false [] (FP (fun l=>int (w7 l)) fun _=>True)):=
 qq (fn:=f166) (zI (q:=[16]) mixed ⟨kV,fun _=>zt _ _,trivial⟩:AM.Good Cwl _) ⟨_,func166,by kernel_rfl,rfl,by kernel_rfl⟩ false [] _ fun args r h=>by obtain⟨l,rfl,_,rfl⟩:=zr h;exact⟨zC (ze 1) (by decide),_,zlY l,qm _⟩
theorem dP:zg prog 175 (zi false [] (FP (fun l=>int (w7 l)) fun _=>True)):=
 qq (fn:=f175) w8 ⟨_,func175,by kernel_rfl,rfl,by kernel_rfl⟩ false [] _ fun args r h=>by obtain⟨l,rfl,_,rfl⟩:=zr h;exact⟨zC (ze 1) (by decide),_,fP l,qm _⟩
theorem s8:∀{l:List Sp} {p:Option Int},Ms p l=0→zlN (p.getD (-1)) l∧Below 100000 l∧∀s∈l,0≤s.1
 |[],_,_=>⟨trivial,fun s hs=>absurd hs (by simp),fun s hs=>absurd hs (by simp)⟩
 |s::l,p,h=>by
  simp only[Ms]at h;split at h
  ·cases h
  split at h
  ·cases h
  rename_i c b;obtain⟨d,e,f⟩:=s8 h;simp only[Tr,jg,qH,JK,Bool.and_eq_false_iff,jh,ql,not_or]at c;simp only[TE,qH,ql,not_or]at b;refine⟨⟨?_,by omega,d⟩,fun x a=>?_,fun x a=>?_⟩
  ·cases p with
   |none=>show -1<s.1;omega
   |some q=>have:=b.2;simp at this;exact this
  ·rcases zL.1 a with rfl|a
   ·omega
   ·exact e x a
  ·rcases zL.1 a with rfl|a
   ·omega
   ·exact f x a
theorem xM{l:List Sp}(h:w7 l=0):zlN (-1) l∧Below 100000 l∧(∀s∈l,0≤s.1)∧l.length≤100:=by
 unfold w7 at h;split at h
 ·cases h
 ·obtain⟨a,b,c⟩:=s8 h;exact⟨a,b,c,by omega⟩
def j7(b:List Sp):Prop:=zlN (-1) b∧Below 100000 b∧(∀s∈b,0≤s.1)∧b.length≤100000
theorem fR{b:List Sp}(h:w7 b=0):j7 b:=by obtain⟨a,c,d,e⟩:=xM h;exact⟨a,c,d,by omega⟩
theorem s9{l:List Sp}{k:Nat}(h:k<l.length):wM (l.drop k)=(l[k].2-l[k].1)+wM (l.drop (k+1)):=by rw[zd h,wM]
theorem kB:∀{lo:Int} {l:List Sp},zlN lo l→∀s∈l,s.1<s.2
 |_,r::l,h,s,hs=>by
  rcases zL.1 hs with rfl|hs
  ·exact h.2.1
  ·exact kB h.2.2 s hs
theorem nJ:∀{lo a:Int} {l:List Sp},zlN lo l→lo≤a→Below a l→0≤wM l∧wM l≤a-lo
 |lo,a,[],_,h,_=>by simp[wM];omega
 |lo,a,s::l,b,h,c=>by have g:=nJ b.2.2 (c s (by simp)) (fun x d=>c x (by simp[d]));have:=b.1;have:=b.2.1;simp only[wM];omega
theorem Mt(l:List Sp)(h:j7 l):zz C0 f19 [.sl 2 (l.map zM)]=some (int (wM l)):=by
 obtain⟨m,n,Y0,t⟩:=h;refine zo rfl ?_;simp;refine zQ (fun k c Y Z=>c 6=.sl 2 (l.map zM)∧c 7=int l.length∧c 8=int k∧∃a:Int,c 3=int a∧a+wM (l.drop k)=wM l∧0≤a∧a≤100000*k) l.length
  ⟨by simp,by simp,by simp,0,by simp,by simp,by simp,by simp⟩ ?_
 rintro k c Y Z u ⟨f,g,i,a,j,d,o,p⟩;by_cases b:k<l.length
 ·have q:i6.wrap ((k:Int)+1)=(k:Int)+1:=zn (by omega) (by omega);have e:=zm b;have v:=n _ e;have w:=Y0 _ e;have x:=kB m _ e;have r:i6.wrap (l[k].2-l[k].1)=l[k].2-l[k].1:=zn (by omega) (by omega);have s:i6.wrap (a+(l[k].2-l[k].1))=a+(l[k].2-l[k].1):=zn (by omega) (by omega);rw[s9 b]at d;simp[j,f,g,i,b,q,r,s];omega
 ·obtain rfl:k=l.length:=by omega
  rw[zl,wM]at d;have d:a=wM l:=by omega
  simp[j,f,g,i,d,f19]
theorem GP(l:List Sp)(h:j7 l):zz C0 f32 [.sl 2 (l.map zM)]=some (int (wM l)):=by
 obtain⟨m,n,Y0,t⟩:=h;refine zo rfl ?_;simp;refine zQ (fun k c Y Z=>c 6=.sl 2 (l.map zM)∧c 7=int l.length∧c 8=int k∧∃a:Int,c 3=int a∧a+wM (l.drop k)=wM l∧0≤a∧a≤100000*k) l.length
  ⟨by simp,by simp,by simp,0,by simp,by simp,by simp,by simp⟩ ?_
 rintro k c Y Z u ⟨f,g,i,a,j,d,o,p⟩;by_cases b:k<l.length
 ·have q:i6.wrap ((k:Int)+1)=(k:Int)+1:=zn (by omega) (by omega);have e:=zm b;have v:=n _ e;have w:=Y0 _ e;have x:=kB m _ e;have r:i6.wrap (l[k].2-l[k].1)=l[k].2-l[k].1:=zn (by omega) (by omega);have s:i6.wrap (a+(l[k].2-l[k].1))=a+(l[k].2-l[k].1):=zn (by omega) (by omega);rw[s9 b]at d;simp[j,f,g,i,b,q,r,s];omega
 ·obtain rfl:k=l.length:=by omega
  rw[zl,wM]at d;have d:a=wM l:=by omega
  simp[j,f,g,i,d,f32]
theorem ck:zg prog 19 (zi false [] (FP (fun l=>int (wM l)) fun l=>j7 l)):=
 qq (fn:=f19) w8 ⟨_,func19,by kernel_rfl,rfl,by kernel_rfl⟩ false [] _ fun args r h=>by obtain⟨l,rfl,a,rfl⟩:=zr h;exact⟨zC (ze 1) (by decide),_,Mt l a,qm _⟩
theorem XE:zg prog 32 (zi false [] (FP (fun l=>int (wM l)) fun l=>j7 l)):=
 qq (fn:=f32) w8 ⟨_,func32,by kernel_rfl,rfl,by kernel_rfl⟩ false [] _ fun args r h=>by obtain⟨l,rfl,a,rfl⟩:=zr h;exact⟨zC (ze 1) (by decide),_,GP l a,qm _⟩
def wS:List Sp→Int→List Sp
 |[],_=>[]
 |s::l,n=>if n=0 then[]else(s.1,s.1+min n (s.2-s.1))::wS l (n-min n (s.2-s.1))
theorem gV{l:List Sp}{k:Nat}(h:k<l.length)(n:Int):wS (l.drop k) n=if n=0 then[]else(l[k].1,l[k].1+min n (l[k].2-l[k].1))::wS (l.drop (k+1)) (n-min n (l[k].2-l[k].1)):=by rw[zd h,wS]
theorem GQ(l:List Sp)(n:Int)(h:j7 l)(E:0≤n∧n≤100000):∃e,zz C0 f21 [.sl 2 (l.map zM),int n]=some e∧qM e (.sl 2 ((wS l n).map zM)):=by
 obtain⟨F,x,Y0,R⟩:=h;have p:∀{code},f21.body=some code→Zf C0 code ⟨ve [.sl 2 (l.map zM),int n],fun _=>none,0⟩ (JT C0.P f21 (VW (.sl 2 ((wS l n).map zM))))→∃e,zz C0 f21 [.sl 2 (l.map zM),int n]=some e∧qM e (.sl 2 ((wS l n).map zM)):=by intro code x h;obtain⟨e,q,G⟩:=xr x h;exact⟨e,q,fun w S u H=>JU H G⟩
 refine p rfl ?_;simp;refine zQ (fun k o Y Z=>o 9=.sl 2 (l.map zM)∧o 10=int l.length∧o 11=int k∧∃(m:Int) (d:List Sp),o 1=int m∧q6 Y Z 82 2 (o 5) (d.map zM)∧d++wS (l.drop k) m=wS l n∧0≤m∧m≤100000∧d.length≤k) l.length
  ⟨by simp,by simp,by simp,n,[],by simp,.inl (by simp),by simp,E.1,E.2,by simp⟩ ?_
 rintro k o Y Z T ⟨y,f,g,m,d,q,z,hd,I,J,K⟩;by_cases b:k<l.length
 ·have L:i6.wrap ((k:Int)+1)=(k:Int)+1:=zn (by omega) (by omega);have i:=zm b;have U:=x _ i;have W:=Y0 _ i;have X:=kB F _ i;rw[gV b]at hd;have j:=z.more (some ⟨82,2,false,[zM l[k]]⟩);by_cases A:m=0
  ·subst A;rw[zf rfl,yh]at hd;rw[hd]at j;have:=j.freeze (Z+1);simp[q,y,f,g,b,f21];exact this
  ·rw[zj A]at hd;have B:(m==0)=false:=by simpa using A
   have M:i6.wrap (l[k].2-l[k].1)=l[k].2-l[k].1:=zn (by omega) (by omega);obtain⟨a,C⟩:∃a,a=min m (l[k].2-l[k].1):=⟨_,rfl⟩;have D:0≤a∧a≤m∧a≤100000:=by omega
   have N:i6.wrap (l[k].1+a)=l[k].1+a:=zn (by omega) (by omega);have Q:i6.wrap (m-a)=m-a:=zn (by omega) (by omega);rw[←C]at hd;have r:(if l[k].2-l[k].1<m then l[k].2-l[k].1 else m)=a:=by split<;>omega
   have s:=j.yx (P:=prog) (t:=48) (c:=zM (l[k].1,l[k].1+a)) iI ff iJ iK rfl (by omega) (by rw[qO];unfold maxLen;omega) (by rw[qO];omega);have v:∀Y Z,zv prog Y Z 48 1 [(0,.agg (zM (l[k].1,l[k].1+a)))]=some (.own Z 0 1,qZ Y Z (some ⟨82,2,true,[zM (l[k].1,l[k].1+a)]⟩),Z+1):=fun Y Z=>by simp[zv,zN,zy]
   simp only[zM]at s v;simp[q,y,f,g,b,B,M,r,N,Q,L,zR,qc,v,s];refine⟨b,d++[(l[k].1,l[k].1+a)],?_,by rw[qj];exact hd,D.2.1,by omega,by simp;omega⟩;rw[yz,aY];exact .inr ⟨Z+1+1,by omega,by simp,by simp⟩
 ·obtain rfl:k=l.length:=by omega
  rw[zl,wS,yh]at hd;rw[hd]at z;have:=z.freeze Z;simp[q,y,f,g,f21];exact this
theorem gW(l:List Sp):wS l 0=[]:=by cases l<;>simp[wS]
theorem Dr(l:List Sp)(n:Int)(h:j7 l)(D:0≤n∧n≤100000):∃f,zz C0 f34 [.sl 2 (l.map zM),int n]=some f∧qM f (.sl 2 ((wS l n).map zM)):=by
 obtain⟨H,x,Y0,T⟩:=h;have p:∀{code},f34.body=some code→Zf C0 code ⟨ve [.sl 2 (l.map zM),int n],fun _=>none,0⟩ (JT C0.P f34 (VW (.sl 2 ((wS l n).map zM))))→∃f,zz C0 f34 [.sl 2 (l.map zM),int n]=some f∧qM f (.sl 2 ((wS l n).map zM)):=by intro code x h;obtain⟨f,q,I⟩:=xr x h;exact⟨f,q,fun w S u J=>JU J I⟩
 refine p rfl ?_;simp;refine zQ (fun k o Y Z=>o 9=.sl 2 (l.map zM)∧o 10=int l.length∧o 11=int k∧∃(m:Int) (d:List Sp),o 1=int m∧q6 Y Z 82 2 (o 5) (d.map zM)∧d++wS (l.drop k) m=wS l n∧0≤m∧m≤100000∧d.length≤k) l.length
  ⟨by simp,by simp,by simp,n,[],by simp,.inl (by simp),by simp,D.1,D.2,by simp⟩ ?_
 rintro k o Y Z U ⟨y,g,i,m,d,q,z,hd,K,L,M⟩;by_cases b:k<l.length
 ·have E:i6.wrap ((k:Int)+1)=(k:Int)+1:=zn (by omega) (by omega);have j:=zm b;have W:=x _ j;have X:=Y0 _ j;have b3:=kB H _ j;rw[gV b]at hd;have r:=z.more (some ⟨82,2,false,[zM l[k]]⟩);have F:i6.wrap (l[k].2-l[k].1)=l[k].2-l[k].1:=zn (by omega) (by omega);by_cases G:m=0
  ·subst G;rw[zf rfl,yh]at hd;have e:(if l[k].2-l[k].1<0 then l[k].2-l[k].1 else 0)=0:=by split<;>omega
   have N:i6.wrap 0=0:=zn (by omega) (by omega);simp[q,y,g,i,b,F,e,N,E];exact⟨b,d,r,by rw[gW,yh];exact hd,by omega⟩
  ·rw[zj G]at hd;obtain⟨a,A⟩:∃a,a=min m (l[k].2-l[k].1):=⟨_,rfl⟩;have B:0<a:=by omega
   have C:0≤a∧a≤m∧a≤100000:=by omega
   have Q:i6.wrap (l[k].1+a)=l[k].1+a:=zn (by omega) (by omega);have R:i6.wrap (m-a)=m-a:=zn (by omega) (by omega);rw[←A]at hd;have e:(if l[k].2-l[k].1<m then l[k].2-l[k].1 else m)=a:=by split<;>omega
   have s:=r.yx (P:=prog) (t:=48) (c:=zM (l[k].1,l[k].1+a)) iI ff iJ iK rfl (by omega) (by rw[qO];unfold maxLen;omega) (by rw[qO];omega);have v:∀Y Z,zv prog Y Z 48 1 [(0,.agg (zM (l[k].1,l[k].1+a)))]=some (.own Z 0 1,qZ Y Z (some ⟨82,2,true,[zM (l[k].1,l[k].1+a)]⟩),Z+1):=fun Y Z=>by simp[zv,zN,zy]
   simp only[zM]at s v;simp[q,y,g,i,b,B,F,e,Q,R,E,zR,qc,v,s];refine⟨b,d++[(l[k].1,l[k].1+a)],?_,by rw[qj];exact hd,C.2.1,by omega,by simp;omega⟩;rw[yz,aY];exact .inr ⟨Z+1+1,by omega,by simp,by simp⟩
 ·obtain rfl:k=l.length:=by omega
  rw[zl,wS,yh]at hd;rw[hd]at z;have:=z.freeze Z;simp[q,y,g,i,f34];exact this
noncomputable def Mu (out:List Sp→Int→O) (pre:List Sp→Int→Prop):zc→Option O:=qv (α:=List Sp×Int) (fun a=>[.sl 2 (a.1.map zM),int a.2]) (fun a=>pre a.1 a.2) (fun a=>out a.1 a.2)
theorem ZR(out:List Sp→Int→O)(pre:List Sp→Int→Prop)(l:List Sp)(n:Int)(Y:Hp)(Z:Nat)(h:pre l n):zi false [] (Mu out pre) [.sl 2 (l.map zM),int n] Y Z=some (out l n,Y,Z):=
 qe rfl (zJ (V:=fun a:List Sp×Int=>[O.sl 2 (a.1.map zM),int a.2]) (a:=(l,n)) (fun a b e=>by obtain⟨f,g⟩:=a;obtain⟨i,j⟩:=b;simp only[zh,zK]at e;obtain⟨d,c⟩:=e;injection c with c;injection c with _ c;rw[jE d,c]) h) (.inr rfl)
theorem XF:zg prog 21 (zi false [] (Mu (fun l n=>.sl 2 ((wS l n).map zM)) fun l n=>j7 l∧0≤n∧n≤100000)):=
 jD (fn:=f21) w8 ⟨_,func21,by kernel_rfl,rfl,by kernel_rfl⟩ false [] _ fun args r h w S vs b=>by obtain⟨⟨l,n⟩,rfl,a,rfl⟩:=zr h;obtain⟨c,d,e⟩:=GQ l n a.1 a.2;exact⟨_,c,b,zC (ze 2) (by decide),d,e⟩
theorem Vw:zg prog 34 (zi false [] (Mu (fun l n=>.sl 2 ((wS l n).map zM)) fun l n=>j7 l∧0≤n∧n≤100000)):=
 jD (fn:=f34) w8 ⟨_,func34,by kernel_rfl,rfl,by kernel_rfl⟩ false [] _ fun args r h w S vs b=>by obtain⟨⟨l,n⟩,rfl,a,rfl⟩:=zr h;obtain⟨c,d,e⟩:=Dr l n a.1 a.2;exact⟨_,c,b,zC (ze 2) (by decide),d,e⟩
theorem IG{l:List Sp}(h:w7 l=0):wM l≤100000:=by
 obtain⟨b,a,Y0,_⟩:=xM h;cases l with
 |nil=>simp[wM]
 |cons s l=>have g:=nJ b.2.2 (a s (by simp)) (fun x c=>a x (by simp[c]));have:=Y0 s (by simp);simp only[wM];omega
def Z8(l:List Sp)(k:Int):Bool:=match l with
 |[]=>false
 |s::l=>(decide (s.1≤k)&&decide (k<s.2))||Z8 l k
theorem XG:∀(l:List Sp) (k:Int),Z8 l k=true↔mem l k
 |[],k=>by simp[Z8,mem]
 |s::l,k=>by rw[Z8,qH,mem_cons,XG l k];simp
theorem Mv{l:List Sp}{k:Nat}(h:k<l.length)(x:Int):Z8 (l.drop k) x=((decide (l[k].1≤x)&&decide (x<l[k].2))||Z8 (l.drop (k+1)) x):=by rw[zd h,Z8]
theorem GR{l:List Sp}{k:Nat}(h:k<l.length)(a o:Int):vF a o (l.drop k)=vF a (if a<l[k].2 then min (if a<l[k].1 then min o l[k].1 else o) l[k].2 else(if a<l[k].1 then min o l[k].1 else o)) (l.drop (k+1)):=by rw[zd h,vF]
theorem P2(l:List Sp)(x:Int)(h:l.length≤100000):zz C0 f89 [.sl 2 (l.map zM),int x]=some (wq (Z8 l x)):=by
 refine zo rfl ?_;simp;refine zQ (fun k c Y Z=>c 1=int x∧c 7=.sl 2 (l.map zM)∧c 8=int l.length∧c 9=int k∧Z8 l x=Z8 (l.drop k) x) l.length
  ⟨by simp,by simp,by simp,by simp,by simp⟩ ?_
 rintro k c Y Z m ⟨e,f,g,i,b⟩;by_cases a:k<l.length
 ·have j:i6.wrap ((k:Int)+1)=(k:Int)+1:=zn (by omega) (by omega);rw[Mv a]at b;cases d:(decide (l[k].1≤x)&&decide (x<l[k].2))
  ·rw[d,jo]at b;simp[e,f,g,i,a,d,j];exact⟨a,b⟩
  ·rw[d,eM]at b;simp[e,f,g,i,a,d,b,f89]
 ·obtain rfl:k=l.length:=by omega
  rw[zl,Z8]at b;simp[e,f,g,i,b,f89]
theorem Mw(l:List Sp)(x:Int)(h:l.length≤100000):zz C0 f88 [.sl 2 (l.map zM),int x]=some (int (vF x 100000 l)):=by
 refine zo rfl ?_;simp;refine zQ (fun k d Y Z=>d 1=int x∧d 8=.sl 2 (l.map zM)∧d 9=int l.length∧d 10=int k∧∃o:Int,d 5=int o∧vF x 100000 l=vF x o (l.drop k)) l.length
  ⟨by simp,by simp,by simp,by simp,100000,by simp,by simp⟩ ?_
 rintro k d Y Z s ⟨g,i,j,f,o,m,e⟩;by_cases c:k<l.length
 ·have q:i6.wrap ((k:Int)+1)=(k:Int)+1:=zn (by omega) (by omega);rw[GR c]at e;have r:∀a b:Int,(if b<a then b else a)=min a b:=fun a b=>by split<;>omega
  by_cases n:x<l[k].1<;>by_cases p:x<l[k].2<;>simp only[n,p,wi,wK]at e<;>simp[g,m,i,j,f,c,n,p,r,q]<;>first|exact⟨c,e⟩|exact⟨c,by rw[e];congr 1;omega⟩
 ·obtain rfl:k=l.length:=by omega
  rw[zl,vF]at e;simp[g,m,i,j,f,e,f88]
theorem ta:zg prog 89 (zi false [] (Mu (fun l x=>wq (Z8 l x)) fun l _=>l.length≤100000)):=
 qq (fn:=f89) w8 ⟨_,func89,by kernel_rfl,rfl,by kernel_rfl⟩ false [] _ fun args r h=>by obtain⟨⟨l,x⟩,rfl,a,rfl⟩:=zr h;exact⟨zC (ze 2) (by decide),_,P2 l x a,qm _⟩
theorem nK:zg prog 88 (zi false [] (Mu (fun l x=>int (vF x 100000 l)) fun l _=>l.length≤100000)):=
 qq (fn:=f88) w8 ⟨_,func88,by kernel_rfl,rfl,by kernel_rfl⟩ false [] _ fun args r h=>by obtain⟨⟨l,x⟩,rfl,a,rfl⟩:=zr h;exact⟨zC (ze 2) (by decide),_,Mw l x a,qm _⟩
noncomputable def lT (out:List Sp→List Sp→O) (pre:List Sp→List Sp→Prop):zc→Option O:=qv (α:=List Sp×List Sp) (fun a=>[.sl 2 (a.1.map zM),.sl 2 (a.2.map zM)]) (fun a=>pre a.1 a.2) (fun a=>out a.1 a.2)
theorem WI(out:List Sp→List Sp→O)(pre:List Sp→List Sp→Prop)(a b:List Sp)(Y:Hp)(Z:Nat)(h:pre a b):zi false [] (lT out pre) [.sl 2 (a.map zM),.sl 2 (b.map zM)] Y Z=some (out a b,Y,Z):=
 qe rfl (zJ (V:=fun a:List Sp×List Sp=>[O.sl 2 (a.1.map zM),.sl 2 (a.2.map zM)]) (a:=(a,b)) (fun a b e=>by obtain⟨c,d⟩:=a;obtain⟨f,g⟩:=b;simp only[zh,zK]at e;rw[jE e.1,jE e.2]) h) (.inr rfl)
theorem Mx{a:List Sp}{j:Nat}(h:j<a.length)(b:List Sp):vY (a.drop j) b=xZ a[j].1 a[j].2 (skip a[j].1 b)++vY (a.drop (j+1)) (skip a[j].1 b):=by rw[zd h,vY]
theorem tc{b:List Sp}{k:Nat}(h:k<b.length)(x:Int):skip x (b.drop k)=if b[k].2≤x then skip x (b.drop (k+1))else b.drop k:=by rw[zd h,skip]
theorem Vx{b:List Sp}{k:Nat}(h:k<b.length)(f t:Int):xZ f t (b.drop k)=if b[k].1<t then(if f<b[k].1 then(f,b[k].1)::xZ (max f b[k].2) t (b.drop (k+1))else xZ (max f b[k].2) t (b.drop (k+1)))else if f<t then[(f,t)]else[]:=by rw[zd h,xZ]
theorem IH{Y:Hp}{Z e s id:Nat}{v:O}{xs:List zc}(h:q6 Y Z e s v xs)(a:Z≤id)(m:Nat):v≠.own id 0 m:=by
 rcases h with⟨rfl,rfl⟩|⟨i,b,rfl,c⟩
 ·simp
 ·intro h;injection h with h;omega
theorem Dt(a b:List Sp)(ha:j7 a)(hb:j7 b):∃r0,zz C0 f43 [.sl 2 (a.map zM),.sl 2 (b.map zM)]=some r0∧qM r0 (.sl 2 ((vY a b).map zM)):=by
 obtain⟨hc,hbl,Y0,hl⟩:=ha;obtain⟨hc',hbl',hp0',hl'⟩:=hb;have hfin:∀{code},f43.body=some code→Zf C0 code ⟨ve [.sl 2 (a.map zM),.sl 2 (b.map zM)],fun _=>none,0⟩ (JT C0.P f43 (VW (.sl 2 ((vY a b).map zM))))→∃r0,zz C0 f43 [.sl 2 (a.map zM),.sl 2 (b.map zM)]=some r0∧qM r0 (.sl 2 ((vY a b).map zM)):=by intro code hb h;obtain⟨r0,h1,h2⟩:=xr hb h;exact⟨r0,h1,fun w S u hr=>JU hr h2⟩
 refine hfin rfl ?_;simp;refine zQ (fun j σ Y Z=>σ 1=.sl 2 (b.map zM)∧σ 11=.sl 2 (a.map zM)∧σ 12=int a.length∧σ 13=int j∧∃(k:Nat) (d:List Sp),σ 6=int k∧k≤b.length∧q6 Y Z 82 2 (σ 5) (d.map zM)∧d++vY (a.drop j) (b.drop k)=vY a b∧d.length≤100001*j) a.length
  ⟨by simp,by simp,by simp,by simp,0,[],by simp,by simp,.inl (by simp),by simp,by simp⟩ ?_
 rintro j σ Y Z hj ⟨h1,h11,h12,h13,k0,d,h6,hk0,hO,hd,hdl⟩;by_cases F:j<a.length
 ·have hw:i6.wrap ((j:Int)+1)=(j:Int)+1:=zn (by omega) (by omega);have hmm:=zm F;have b1:=hbl _ hmm;have b2:=Y0 _ hmm;have b3:=kB hc _ hmm;rw[Mx F]at hd;have hO1:=hO.more (some ⟨82,2,false,[zM a[j]]⟩);simp[h1,h11,h12,h13,F];refine Zi (fun e=>e.σ 1=.sl 2 (b.map zM)∧e.σ 11=.sl 2 (a.map zM)∧e.σ 12=int a.length∧e.σ 13=int j∧e.σ 8=.ref Z 0 0∧e.σ 5=σ 5∧e.Y=qZ Y Z (some ⟨82,2,false,[zM a[j]]⟩)∧e.Z=Z+1∧∃k:Nat,e.σ 6=int k∧k≤b.length∧skip a[j].1 (b.drop k)=skip a[j].1 (b.drop k0))
   (fun e=>b.length-(VV (e.σ 6)).toNat) ⟨by simp[h1],by simp[h11],by simp[h12],by simp[h13],by simp,by simp,by simp,by simp,k0,by simp[h6],hk0,rfl⟩ ?_
  rintro⟨σ1,Y1,nx1⟩ ⟨g1,M,N,Q,g8,g5,ghp,gnx,k,g6,hk,hs⟩;simp only at g1 M N Q g8 g5 ghp gnx g6;subst ghp;subst gnx;by_cases hgo:∃y:k<b.length,b[k].2≤a[j].1
  ·obtain⟨y,hto⟩:=hgo;have hwk:i6.wrap ((k:Int)+1)=(k:Int)+1:=zn (by omega) (by omega);rw[tc y,zf hto]at hs;simp[g1,g5,g6,g8,M,N,Q,y,hto,hwk];exact⟨⟨k+1,by simp,y,hs⟩,by omega⟩
  have hsk:b.drop k=skip a[j].1 (b.drop k0):=by
   rw[←hs];by_cases y:k<b.length
   ·rw[tc y,zj fun h=>hgo ⟨y,h⟩]
   ·rw[zb9 (by omega)];rfl
  rw[←hsk]at hd;by_cases y:k<b.length
  ·have hto:¬b[k].2≤a[j].1:=fun h=>hgo ⟨y,h⟩
   simp[g1,g5,g6,g8,M,N,Q,y,hto];refine Zi (fun e=>e.σ 1=.sl 2 (b.map zM)∧e.σ 11=.sl 2 (a.map zM)∧e.σ 12=int a.length∧e.σ 13=int j∧e.σ 8=.ref Z 0 0∧e.σ 6=int k∧e.Y Z=some ⟨82,2,false,[zM a[j]]⟩∧Z<e.Z∧∃(i:Nat) (f:Int) (C:List Sp),e.σ 10=int i∧e.σ 9=int f∧k≤i∧i≤b.length∧q6 e.Y e.Z 82 2 (e.σ 5) (C.map zM)∧(∀m,e.σ 5≠.own Z 0 m)∧C++xZ f a[j].2 (b.drop i)=d++xZ a[j].1 a[j].2 (b.drop k)∧C.length≤d.length+(i-k)∧0≤f∧f≤100000)
    (fun e=>b.length-(VV (e.σ 10)).toNat) ⟨by simp[g1],by simp[M],by simp[N],by simp[Q],by simp[g8],by simp[g6],by simp,by simp,k,a[j].1,d,by simp[g6],by simp,by omega,by omega,by simpa[g5]using hO1,by simp only[zw _ _ _ _ (by decide:(5:Nat)≠10),ne_eq];simp[g5];exact fun m=>IH hO (ze _) m,rfl,by omega,b2,by omega⟩ ?_
   rintro⟨σ2,Y2,R⟩ ⟨G,l,n,o,H,I,g,T,i,f,C,p,J,hki,hil,r,K,Y',hdl',hf0,hf1⟩;simp only at G l n o H I g T p J r K;by_cases z:∃hib:i<b.length,b[i].1<a[j].2
   ·obtain⟨hib,q⟩:=z;have U:i6.wrap ((i:Int)+1)=(i:Int)+1:=zn (by omega) (by omega);rw[Vx hib,zf q]at Y';have hbi:=hbl' _ (zm hib);have hbp:=hp0' _ (zm hib);obtain⟨W,L,D,E⟩:∃W,(if f<b[i].2 then b[i].2 else f)=W∧0≤W∧W≤100000:=⟨_,rfl,by split<;>omega,by split<;>omega⟩;have X:max f b[i].2=W:=by rw[←L];split<;>omega
    rw[X]at Y';by_cases B:f<b[i].1
    ·rw[zf B]at Y';have s:=r.yx (P:=prog) (t:=48) (c:=zM (f,b[i].1)) iI ff iJ iK rfl (by omega) (by rw[qO];unfold maxLen;omega) (by rw[qO];omega);have v:∀Y Z,zv prog Y Z 48 1 [(0,.agg (zM (f,b[i].1)))]=some (.own Z 0 1,qZ Y Z (some ⟨82,2,true,[zM (f,b[i].1)]⟩),Z+1):=fun Y Z=>by simp[zv,zN,zy]
     simp only[zM]at s v;simp[G,I,H,J,p,l,n,o,g,hib,q,B,U,L,zR,qc,v,s];refine⟨⟨?_,by omega,i+1,by simp,by omega,hib,C++[(f,b[i].1)],?_,by omega,by rw[qj];exact Y',by simp;omega,D,E⟩,by omega⟩
     ·rw[zw _ _ _ _ (by omega),yt r _ _ K,zw _ _ _ _ (by omega)];exact g
     ·rw[yz,aY];exact .inr ⟨R+1,by omega,by simp,by simp⟩
    ·rw[zj B]at Y';simp[G,I,H,J,p,l,n,o,g,hib,q,B,U,L];exact⟨⟨T,i+1,by simp,by omega,hib,C,r,K,Y',by omega,D,E⟩,by omega⟩
   ·have hpe:xZ f a[j].2 (b.drop i)=if f<a[j].2 then[(f,a[j].2)]else[]:=by
     by_cases hib:i<b.length
     ·rw[Vx hib,zj fun h=>z ⟨hib,h⟩]
     ·rw[zb9 (by omega),xZ]
    rw[hpe]at Y';have A:(∃hib:i<b.length,¬b[i].1<a[j].2)∨¬i<b.length:=by
     by_cases hib:i<b.length
     ·exact .inl ⟨hib,fun h=>z ⟨hib,h⟩⟩
     ·exact .inr hib
    by_cases x:f<a[j].2
    ·rw[zf x]at Y';have s:=r.yx (P:=prog) (t:=48) (c:=zM (f,a[j].2)) iI ff iJ iK rfl (by omega) (by rw[qO];unfold maxLen;omega) (by rw[qO];omega);have v:∀Y Z,zv prog Y Z 48 1 [(0,.agg (zM (f,a[j].2)))]=some (.own Z 0 1,qZ Y Z (some ⟨82,2,true,[zM (f,a[j].2)]⟩),Z+1):=fun Y Z=>by simp[zv,zN,zy]
     simp only[zM]at s v;rcases A with⟨hib,q⟩|hib
     all_goals simp[G,I,H,J,p,l,n,o,g,hib,x,hw,zR,qc,v,s]
     all_goals try simp[q,G,I,H,J,p,l,n,o,g,hib,x,hw,zR,qc,v,s]
     all_goals refine⟨F,k,rfl,hk,C++[(f,a[j].2)],?_,by rw[Y',qj];exact hd,by simp;omega⟩
     all_goals rw[yz,aY]
     all_goals exact .inr ⟨R+1,by omega,by simp,by simp⟩
    ·rw[zj x,yh]at Y';rcases A with⟨hib,q⟩|hib
     all_goals simp[G,I,H,J,p,l,n,o,g,hib,x,hw]
     all_goals try simp[q,G,I,H,J,p,l,n,o,g,hib,x,hw]
     all_goals exact⟨F,k,rfl,hk,C,r,by rw[Y',qj];exact hd,by omega⟩
  ·simp[g1,g5,g6,g8,M,N,Q,y];refine Zi (fun e=>e.σ 1=.sl 2 (b.map zM)∧e.σ 11=.sl 2 (a.map zM)∧e.σ 12=int a.length∧e.σ 13=int j∧e.σ 8=.ref Z 0 0∧e.σ 6=int k∧e.Y Z=some ⟨82,2,false,[zM a[j]]⟩∧Z<e.Z∧∃(i:Nat) (f:Int) (C:List Sp),e.σ 10=int i∧e.σ 9=int f∧k≤i∧i≤b.length∧q6 e.Y e.Z 82 2 (e.σ 5) (C.map zM)∧(∀m,e.σ 5≠.own Z 0 m)∧C++xZ f a[j].2 (b.drop i)=d++xZ a[j].1 a[j].2 (b.drop k)∧C.length≤d.length+(i-k)∧0≤f∧f≤100000)
    (fun e=>b.length-(VV (e.σ 10)).toNat) ⟨by simp[g1],by simp[M],by simp[N],by simp[Q],by simp[g8],by simp[g6],by simp,by simp,k,a[j].1,d,by simp[g6],by simp,by omega,by omega,by simpa[g5]using hO1,by simp only[zw _ _ _ _ (by decide:(5:Nat)≠10),ne_eq];simp[g5];exact fun m=>IH hO (ze _) m,rfl,by omega,b2,by omega⟩ ?_
   rintro⟨σ2,Y2,R⟩ ⟨G,l,n,o,H,I,g,T,i,f,C,p,J,hki,hil,r,K,Y',hdl',hf0,hf1⟩;simp only at G l n o H I g T p J r K;by_cases z:∃hib:i<b.length,b[i].1<a[j].2
   ·obtain⟨hib,q⟩:=z;have U:i6.wrap ((i:Int)+1)=(i:Int)+1:=zn (by omega) (by omega);rw[Vx hib,zf q]at Y';have hbi:=hbl' _ (zm hib);have hbp:=hp0' _ (zm hib);obtain⟨W,L,D,E⟩:∃W,(if f<b[i].2 then b[i].2 else f)=W∧0≤W∧W≤100000:=⟨_,rfl,by split<;>omega,by split<;>omega⟩;have X:max f b[i].2=W:=by rw[←L];split<;>omega
    rw[X]at Y';by_cases B:f<b[i].1
    ·rw[zf B]at Y';have s:=r.yx (P:=prog) (t:=48) (c:=zM (f,b[i].1)) iI ff iJ iK rfl (by omega) (by rw[qO];unfold maxLen;omega) (by rw[qO];omega);have v:∀Y Z,zv prog Y Z 48 1 [(0,.agg (zM (f,b[i].1)))]=some (.own Z 0 1,qZ Y Z (some ⟨82,2,true,[zM (f,b[i].1)]⟩),Z+1):=fun Y Z=>by simp[zv,zN,zy]
     simp only[zM]at s v;simp[G,I,H,J,p,l,n,o,g,hib,q,B,U,L,zR,qc,v,s];refine⟨⟨?_,by omega,i+1,by simp,by omega,hib,C++[(f,b[i].1)],?_,by omega,by rw[qj];exact Y',by simp;omega,D,E⟩,by omega⟩
     ·rw[zw _ _ _ _ (by omega),yt r _ _ K,zw _ _ _ _ (by omega)];exact g
     ·rw[yz,aY];exact .inr ⟨R+1,by omega,by simp,by simp⟩
    ·rw[zj B]at Y';simp[G,I,H,J,p,l,n,o,g,hib,q,B,U,L];exact⟨⟨T,i+1,by simp,by omega,hib,C,r,K,Y',by omega,D,E⟩,by omega⟩
   ·have hpe:xZ f a[j].2 (b.drop i)=if f<a[j].2 then[(f,a[j].2)]else[]:=by
     by_cases hib:i<b.length
     ·rw[Vx hib,zj fun h=>z ⟨hib,h⟩]
     ·rw[zb9 (by omega),xZ]
    rw[hpe]at Y';have A:(∃hib:i<b.length,¬b[i].1<a[j].2)∨¬i<b.length:=by
     by_cases hib:i<b.length
     ·exact .inl ⟨hib,fun h=>z ⟨hib,h⟩⟩
     ·exact .inr hib
    by_cases x:f<a[j].2
    ·rw[zf x]at Y';have s:=r.yx (P:=prog) (t:=48) (c:=zM (f,a[j].2)) iI ff iJ iK rfl (by omega) (by rw[qO];unfold maxLen;omega) (by rw[qO];omega);have v:∀Y Z,zv prog Y Z 48 1 [(0,.agg (zM (f,a[j].2)))]=some (.own Z 0 1,qZ Y Z (some ⟨82,2,true,[zM (f,a[j].2)]⟩),Z+1):=fun Y Z=>by simp[zv,zN,zy]
     simp only[zM]at s v;rcases A with⟨hib,q⟩|hib
     all_goals simp[G,I,H,J,p,l,n,o,g,hib,x,hw,zR,qc,v,s]
     all_goals try simp[q,G,I,H,J,p,l,n,o,g,hib,x,hw,zR,qc,v,s]
     all_goals refine⟨F,k,rfl,hk,C++[(f,a[j].2)],?_,by rw[Y',qj];exact hd,by simp;omega⟩
     all_goals rw[yz,aY]
     all_goals exact .inr ⟨R+1,by omega,by simp,by simp⟩
    ·rw[zj x,yh]at Y';rcases A with⟨hib,q⟩|hib
     all_goals simp[G,I,H,J,p,l,n,o,g,hib,x,hw]
     all_goals try simp[q,G,I,H,J,p,l,n,o,g,hib,x,hw]
     all_goals exact⟨F,k,rfl,hk,C,r,by rw[Y',qj];exact hd,by omega⟩
 ·obtain rfl:j=a.length:=by omega
  rw[zl,vY,yh]at hd;rw[hd]at hO;have:=hO.freeze Z;simp[h1,h11,h12,h13,f43];exact this
theorem dQ:zg prog 43 (zi false [] (lT (fun a b=>.sl 2 ((vY a b).map zM)) fun a b=>j7 a∧j7 b)):=
 jD (fn:=f43) w8 ⟨_,func43,by kernel_rfl,rfl,by kernel_rfl⟩ false [] _ fun args r h w S vs d=>by obtain⟨⟨a,b⟩,rfl,c,rfl⟩:=zr h;obtain⟨e,f,g⟩:=Dt a b c.1 c.2;exact⟨_,e,d,zC (ze 2) (by decide),f,g⟩
def Jh(l:List Sp):Option jz:=if l.isEmpty then none else some ⟨82,2,true,l.map zM⟩
theorem fS(l:List Sp)(s:Sp):Jh (l++[s])=some ⟨82,2,true,(l++[s]).map zM⟩:=by simp[Jh]
open Classical in
noncomputable def Du (b:Option jz) (args:zc):Option (Option jz):=
 if h:∃a:List Sp×Int×Int,b=Jh a.1∧args=[int a.2.1,int a.2.2]∧a.1.length≤100000 then some (Jh (eU h.choose.1 h.choose.2.1 h.choose.2.2))else none
theorem Dv{a b:List Sp}(h:Jh a=Jh b):a=b:=by
 unfold Jh at h;cases a with
 |nil=>cases b with
  |nil=>rfl
  |cons s l=>simp at h
 |cons s l=>cases b with
  |nil=>simp at h
  |cons r m=>simp only[List.isEmpty_cons,zU,wK,qw,jz.mk.injEq,ab]at h;exact y7 (fun _ _=>dO) h
theorem zaf(l:List Sp)(f t:Int)(h:l.length≤100000):Du (Jh l) [int f,int t]=some (Jh (eU l f t)):=by
 have e:∃a:List Sp×Int×Int,Jh l=Jh a.1∧[int f,int t]=[int a.2.1,int a.2.2]∧a.1.length≤100000:=⟨(l,f,t),rfl,rfl,h⟩;unfold Du;rw[zjj e];obtain⟨g,b,_⟩:=e.choose_spec;generalize e.choose=c at g b;have i:=Dv g;injection b with b d
 injection d with d _;injection b with b;injection b with _ b;injection d with d;injection d with _ d;rw[←i,←b,←d]
theorem Dw{b:Option jz}{args:zc}{r:Option jz}(h:Du b args=some r):∃(l:List Sp) (f t:Int),b=Jh l∧args=[int f,int t]∧l.length≤100000∧r=Jh (eU l f t):=by
 unfold Du at h;split at h
 ·rename_i a;obtain⟨c,d,e⟩:=a.choose_spec;injection h with h
  exact⟨_,_,_,c,d,e,h.symm⟩
 ·cases h
theorem zag(f t:Int):∃x Y Z,yr C0 f90 [.nil,int f,int t] (fun _=>none) 0=some (x,Y,Z)∧kd (Jh [(f,t)]) x Y Z:=by refine zT rfl ?_;simp[f90,kd,zv,wU,AM.view,maxLen,zN,zy,zR,qc,Jh]
theorem zah(l:List Sp)(s:Sp)(f t:Int)(j:l.length<100000):∃x Y Z,yr C0 f90 [.own 0 0 (l.length+1),int f,int t] (qZ (fun _=>none) 0 (some ⟨82,2,true,(l++[s]).map zM⟩)) 1=some (x,Y,Z)∧kd (Jh (eU (l++[s]) f t)) x Y Z:=by
 refine zT rfl ?_;have g:i6.wrap (l.length:Int)=l.length:=zn (by omega) (by omega);have h:(l.length:Int)<l.length+1:=by omega
 unfold eU;by_cases e:s.2=f
 ·have a:(s.2==f)=true:=by simpa using e
  simp[g,h,e,f90];rw[fS];exact⟨0,by simp,by simp,rfl⟩
 ·have a:(s.2==f)=false:=by simpa using e
  have i:q6 (qZ (fun _=>none) 0 (some ⟨82,2,true,l.map zM++[zM s]⟩)) 1 82 2 (.own 0 0 (l.length+1)) (l.map zM++[zM s]):=.inr ⟨0,by omega,by simp,by simp⟩;have b:=i.yx (P:=prog) (t:=48) (c:=zM (f,t)) iI ff iJ iK rfl (by omega) (by simp[maxLen];omega) (by simp;omega);have d:∀Y Z,zv prog Y Z 48 1 [(0,.agg (zM (f,t)))]=some (.own Z 0 1,qZ Y Z (some ⟨82,2,true,[zM (f,t)]⟩),Z+1):=fun Y Z=>by simp[zv,zN,zy]
  simp only[zM]at b d;simp[g,h,e,a,zR,qc,d,b,f90];rw[show l++[s,(f,t)]=(l++[s])++[(f,t)] by simp,fS];exact⟨2,by simp,by simp,rfl⟩
theorem P3(f t:Int):eU [] f t=[(f,t)]:=rfl
theorem td:zg prog 90 (mz [] Du):=
 Cr (fn:=f90) (code:=_) w8 ⟨func90,by kernel_rfl,rfl,by kernel_rfl⟩ [] _
  (fun args r h=>by obtain⟨l,f,t,a,rfl,_,rfl⟩:=Dw h;obtain rfl:l=[]:=Dv (a.symm.trans (by rfl));exact⟨zC (ze 3) (by decide),by rw[P3];exact zag f t⟩)
  (fun b args r h=>by
   obtain⟨l,f,t,a,rfl,c,rfl⟩:=Dw h;refine⟨zC (ze 3) (by decide),fun _=>?_⟩;rcases List.eq_nil_or_concat l with rfl|⟨m,s,rfl⟩
   ·cases a
   ·rw[List.concat_eq_append]at a c⊢;rw[fS]at a;injection a with a
    subst a;have:=zah m s f t (by simp at c;omega);simpa using this)
end Go.Q
namespace Go.AM
variable{dr:Prop}
def pA(P:Program)(f e s b:Nat):Prop:=
 (∀w,Calls P f #[.slice none 0 0,.int .i64 0] w fun r c=>r=.returned (.slice none 0 0)∧c=w) ∧
 ∀(n:Nat) (w:World),0<n→n*b≤140737488355328→n≤4611686018427387904→Calls P f #[.slice none 0 0,.int .i64 n] w fun r c=>
  ∃cap a,cap≤maxLen∧a.size=cap*s∧r=.returned (.slice (some ⟨w.heap.size,0,none⟩) 0 cap)∧c=w.drew.alloc (.cells a e)
theorem pA.of{P:Program}{c:Go.Shelf.Ren}(L:Lays8.n4 P c){s d:Nat}{z:zc}(hs:q8 P (c.t 25)=some s)(e:kr P (c.t 25)=some d)(l:jr P (c.t 25)=some z)(m:z.length=s)(y:0<s):pA P (c.f 4) (c.t 25) s d:=by
 obtain⟨i,v,g,o,p⟩:=Ym l;obtain⟨i',b,q⟩:=Yl hs;rw[g]at b;injection b with b;subst b;have j:i.bytes=d:=by unfold kr at e;rw[g]at e;simpa using e
 have k:v.cells.size=s:=by have:=(ku (w:=default) (S:=fun _=>False) p).1;rw[m]at this;simpa using this.symm
 refine⟨fun w=>Any8.slices_Grow_room L none 0 0 0 w (by omega) (by omega) (by omega) (by omega),fun n w A e B=>?_⟩;refine(Any8.slices_Grow_grow L i v g o (by omega) none 0 0 n [] w (by omega) (by omega) (by rw[j];simpa using e) (by omega) (by simp) (fun _=>rfl) (fun a h=>(nomatch h))).mono fun r C u=>?_
 obtain⟨rfl,rfl⟩:=u;rw[wD]at *;have x:n≤grownCap w n 0 (c.t 25):=grownCap_ge _ _ _ _;refine⟨_,_,grownCap_le_maxLen w n 0 (c.t 25) (by unfold maxLen;omega),?_,rfl,rfl⟩;rw[JL,JL,Ti,Ti,k];simp only[yN,vV,wD,Nat.sub_zero];rw[←yL];congr 1;omega
def bz(e s a:Nat):AM.Spec:=fun args Y Z=>match args with
 |[.nil,.v (.int .i64 n)]=>if n=0 then some (.nil,Y,Z)else if 0<n∧n*a≤140737488355328∧n≤4611686018427387904 then some (.own Z 0 0,qZ Y Z (some ⟨e,s,true,[]⟩),Z+1)else none
 |_=>none
theorem gX{P:Program}{f e s g:Nat}(l:∃fn,P.funcs[f]?=some fn∧(fn.name== "runtime.NumGoroutine")=false∧fn.body.isNone=false)(o:q8 P e=some s)(j:0<s)(h:pA P f e s g):km dr P f (bz e s g):=by
 refine⟨l,?_⟩;intro args Y Z r Y' N a w S G vs z C;unfold bz at a;split at a
 ·rename_i n;obtain⟨u,us,rfl,D,d⟩:=C.jl;obtain⟨v,us,rfl,E,d⟩:=d.jl;obtain rfl:=d.Yi;obtain rfl:=D.xc;obtain⟨rfl,_⟩:=E.yH;split at a
  ·rename_i F;subst F;injection a with a
   injection a with p a;injection a with q t;subst p;subst q;subst t;refine(h.1 w).mono fun r H x=>?_
   obtain⟨rfl,rfl⟩:=x;exact⟨_,_,_,rfl,.refl z,.c .nil⟩
  ·split at a
   ·rename_i I A;injection a with a
    injection a with p a;injection a with q t;subst p;subst q;subst t;obtain⟨m,rfl⟩:∃m:Nat,n=m:=⟨n.toNat,by omega⟩;refine(h.2 m w (by omega) (Int.ofNat_le.1 (by rw[Int.natCast_mul];exact A.2.1)) (by have:=A.2.2;omega)).mono fun r H x=>?_
    obtain⟨cap,b,J,K,rfl,rfl⟩:=x;have B:=kJ.drew (dr:=dr) z;obtain⟨i,y,k⟩:=Yl o;have L:=kJ.alloc (dr:=dr) B.inv b e true [] s j (by rw[y];simp[k]) (by simp) (by simp) (by simp);refine⟨_,_,_,rfl,B.trans L,?_⟩;have:=qK.own (w:=w.drew.alloc (.cells b e)) (S:=S) (G:=qZ G Z ⟨w.drew.heap.size,b.size,s⟩) (Z:=Z+1) (id:=Z) (off:=0) (n:=0) (cap:=cap) (by omega) (by omega) J (by rw[w9];show(0+cap)*s=b.size;rw[K,wD]) (by rw[w9];exact j);rw[w9]at this;have M:0*s=0:=Nat.zero_mul s;simp only[M]at this;exact this
   ·cases a
 ·cases a
theorem q6.lX{P:Program}{Y:Hp}{Z e s b:Nat}{v:O}{xs:List zc}{ys:List zc}{z:zc}{t:TypeId}(h:q6 Y Z e s v xs)(c:yK P t=some e)(hs:q8 P e=some s)(d:kr P e=some b)(f:jr P e=some z)
  (a:z.length=s) (g:0<s) (i:xs.length+ys.length≤maxLen) (j:(xs.length+ys.length)*b≤140737488355328) :
  ∃l Y' k,wU P Y Z t t v (.sl s ys)=some (l,Y',k)∧q6 Y' k e s l (xs++ys)∧Z≤k:=by
 rcases h with⟨rfl,rfl⟩|⟨id,hid,rfl,n⟩
 ·simp at i j;by_cases m:ys=[]
  ·subst m;exact⟨.nil,Y,Z,by simp[wU,c,hs,d,f,a,g,AM.view,maxLen],.inl ⟨rfl,rfl⟩,ze _⟩
  ·exact⟨.own Z 0 ys.length,_,Z+1,by simp[wU,c,hs,d,f,a,g,i,j,AM.view,m];rfl,.inr ⟨Z,by omega,by simp,by simp⟩,by omega⟩
 ·exact⟨.own Z 0 (xs.length+ys.length),_,Z+1,by simp[wU,c,hs,d,f,a,g,i,j,AM.view,n];rfl,.inr ⟨Z,by omega,by simp,by simp⟩,by omega⟩
end Go.AM
namespace Go.Proofs
open Go.Shelf
def Tryz.N8:Go.Shelf.Ren:=⟨fun|6=>85|15=>68|14=>120|28=>106|29=>107|20=>150|21=>151|22=>152|23=>153|24=>154|25=>155|26=>156|27=>157|46=>176|47=>133|48=>134|49=>177|50=>178|57=>190|n=>n,fun|22=>48|24=>82|25=>123|3=>3|39=>109|0=>0|53=>147|55=>149|4=>4|46=>141|45=>140|50=>43|5=>5|9=>9|66=>172|70=>176|76=>196|77=>191|n=>n,fun|n=>n⟩
theorem Tryz.zdb:Go.Proofs.SlLaysF0.n6 prog Tryz.N8:={
 mixed:=by kernel_rfl
 f6:=⟨f85.name,by decide,func85.trans (zD some (by kernel_rfl))⟩
 f14:=⟨f120.name,by decide,func120.trans (zD some (by kernel_rfl))⟩
 f15:=func68.trans (zD some (by kernel_rfl))
 f20:=⟨f150.name,by decide,func150.trans (zD some (by kernel_rfl))⟩
 f21:=⟨f151.name,by decide,func151.trans (zD some (by kernel_rfl))⟩
 f22:=⟨f152.name,by decide,func152.trans (zD some (by kernel_rfl))⟩
 f23:=⟨f153.name,by decide,func153.trans (zD some (by kernel_rfl))⟩
 f24:=⟨f154.name,by decide,func154.trans (zD some (by kernel_rfl))⟩
 f25:=⟨f155.name,by decide,func155.trans (zD some (by kernel_rfl))⟩
 f26:=⟨f156.name,by decide,func156.trans (zD some (by kernel_rfl))⟩
 f27:=⟨f157.name,by decide,func157.trans (zD some (by kernel_rfl))⟩
 f28:=func106.trans (zD some (by kernel_rfl))
 f29:=func107.trans (zD some (by kernel_rfl))
 f46:=⟨f176.name,by decide,func176.trans (zD some (by kernel_rfl))⟩
 f47:=func133.trans (zD some (by kernel_rfl))
 f48:=func134.trans (zD some (by kernel_rfl))
 f49:=⟨f177.name,by decide,func177.trans (zD some (by kernel_rfl))⟩
 f50:=⟨f178.name,by decide,func178.trans (zD some (by kernel_rfl))⟩
 f57:=⟨f190.name,by decide,func190.trans (zD some (by kernel_rfl))⟩
 t0:=underlying0
 a0:=isAgg0
 z0:=sizeOf0
 v0:=zeroValue0
 t3:=underlying3
 a3:=isAgg3
 z3:=sizeOf3
 v3:=zeroValue3
 t4:=underlying4
 a4:=isAgg4
 z4:=sizeOf4
 v4:=zeroValue4
 t5:=underlying5
 a5:=isAgg5
 z5:=sizeOf5
 v5:=zeroValue5
 t9:=underlying9
 a9:=isAgg9
 z9:=sizeOf9
 v9:=zeroValue9
 t22:=underlying48
 a22:=isAgg48
 z22:=sizeOf48
 v22:=zeroValue48
 t25:=underlying123
 a25:=isAgg123
 z25:=sizeOf123
 v25:=zeroValue123
 t39:=underlying109
 a39:=isAgg109
 z39:=sizeOf109
 v39:=zeroValue109
 t45:=underlying140
 a45:=isAgg140
 z45:=sizeOf140
 v45:=zeroValue140
 t46:=underlying141
 a46:=isAgg141
 z46:=sizeOf141
 v46:=zeroValue141
 t50:=underlying43
 a50:=isAgg43
 z50:=sizeOf43
 v50:=zeroValue43
 t53:=underlying147
 a53:=isAgg147
 z53:=sizeOf147
 v53:=zeroValue147
 t55:=underlying149
 a55:=isAgg149
 z55:=sizeOf149
 v55:=zeroValue149
 t66:=underlying172
 a66:=isAgg172
 z66:=sizeOf172
 v66:=zeroValue172
 t70:=underlying176
 a70:=isAgg176
 z70:=sizeOf176
 v70:=zeroValue176
 t76:=underlying196
 a76:=isAgg196
 z76:=sizeOf196
 v76:=zeroValue196
 t77:=underlying191
 a77:=isAgg191
 z77:=sizeOf191
 v77:=zeroValue191}
theorem Tryz.TL:Ap prog 85 2:=⟨fun _ _ V e f h i g blk off cap d w j a k b c=>AnyQ.slices_SortFunc_eq Tryz.zdb 2 isAgg82 sizeOf82 V e f h i g #[] blk off cap d w j a k b c,
 fun p cap l w=>AnyF.slices_SortFunc_none Tryz.zdb p cap l w⟩
def Tryz.N9:Go.Shelf.Ren:=⟨fun|4=>87|n=>n,fun|22=>48|25=>82|0=>0|3=>3|4=>4|9=>9|20=>20|n=>n,fun|n=>n⟩
theorem Tryz.zh8:Go.Proofs.Lays8.n4 prog Tryz.N9:={
 mixed:=by kernel_rfl
 f4:=⟨f87.name,by decide,func87.trans (zD some (by kernel_rfl))⟩
 t0:=underlying0
 a0:=isAgg0
 z0:=sizeOf0
 v0:=zeroValue0
 t3:=underlying3
 a3:=isAgg3
 z3:=sizeOf3
 v3:=zeroValue3
 t4:=underlying4
 a4:=isAgg4
 z4:=sizeOf4
 v4:=zeroValue4
 t9:=underlying9
 a9:=isAgg9
 z9:=sizeOf9
 v9:=zeroValue9
 t20:=underlying20
 a20:=isAgg20
 z20:=sizeOf20
 v20:=zeroValue20
 t22:=underlying48
 a22:=isAgg48
 z22:=sizeOf48
 v22:=zeroValue48}
end Go.Proofs
namespace Go.Q
theorem Dx(args:zc)(r:Option jz)(h:yV 82 2 args=some r):args.length≤f84.ntmps∧∃x Y Z,yr C0 f84 args (fun _=>none) 0=some (x,Y,Z)∧kd r x Y Z:=by
 unfold yV at h;split at h
 ·injection h with h;subst h;exact⟨by simp[f84],zT rfl (by simp[jP,ji,f84,kd])⟩
 ·injection h with h;subst h;exact⟨by simp[f84],zT rfl (by simp[jP,ji,f84,kd,zv,wU,AM.view,maxLen,zN,zy])⟩
 ·rename_i es;split at h
  ·rename_i d;obtain⟨rfl,a,b⟩:=d;injection h with h;subst h
   cases es with
   |nil=>exact absurd rfl a
   |cons c es=>
    unfold zG at b;simp at b;have e:es.length+1≤maxLen:=by unfold maxLen;omega
    have f:(es.length+1)*16≤140737488355328:=by omega
    refine⟨by simp[f84],zT rfl ?_⟩;simp[jP,ji,f84,kd,zv,wU,AM.view,zN,zy,e,f]
  ·cases h
 ·cases h
theorem Vy:zg prog 84 (yO [] (yV 82 2)):=
 jw (fn:=f84) (code:=_) w8 ⟨func84,by kernel_rfl,rfl,by kernel_rfl⟩ [] _ Dx
theorem Dy:zg prog 87 (bz 82 2 16):=
 gX ⟨_,func87,by decide,by kernel_rfl⟩ ff (by decide) (pA.of Tryz.zh8 ff iJ iK rfl (by omega))
noncomputable def FSS (out:Sp→Sp→O):zc→Option O:=qv (α:=Sp×Sp) (fun a=>[.agg (zM a.1),.agg (zM a.2)]) (fun _=>True) (fun a=>out a.1 a.2)
theorem P4(out:Sp→Sp→O)(a b:Sp)(Y:Hp)(Z:Nat):zi false [] (FSS out) [.agg (zM a),.agg (zM b)] Y Z=some (out a b,Y,Z):=
 qe rfl (zJ (V:=fun a:Sp×Sp=>[O.agg (zM a.1),.agg (zM a.2)]) (a:=(a,b)) (fun a b e=>by obtain⟨c,d⟩:=a;obtain⟨f,g⟩:=b;simp only[zh,zK,O.agg.injEq]at e;exact Th (dO (by simp[e.1])) (dO (by simp[e.2]))) trivial) (.inr rfl)
theorem Dz:zg prog 86 (zi false [] (FSS fun a b=>int (i6.wrap (a.1-b.1)))):=
 qq (fn:=f86) w8 ⟨_,func86,by kernel_rfl,rfl,by kernel_rfl⟩ false [] _ fun args r h=>by obtain⟨⟨a,b⟩,rfl,_,rfl⟩:=zr h;exact⟨zC (ze 2) (by decide),_,zo rfl (by simp[f86]),qm _⟩
def P5:zc→Int
 | .v (.int _ a)::_=>a
 |_=>0
def T6(x y:zc):Int:=i6.wrap (P5 x-P5 y)
def T9(x:zc):Prop:=∃s:Sp,x=zM s∧0≤s.1∧s.1≤100000
theorem zai:IC prog 86 2 T6 T9:=
 ⟨fun args w=>enters_of func86 (by kernel_rfl) rfl args w,_,Dz,fun x y _ _ c d=>by obtain⟨a,rfl,_⟩:=c;obtain⟨b,rfl,_⟩:=d;exact P4 _ a b _ _⟩
theorem gY:zg prog 85 (KA 2 86 T6 T9):=
 Xw (by omega) ⟨_,func85,by decide,by kernel_rfl⟩ Tryz.TL zai
theorem XH{a b:Sp}(c:0≤a.1∧a.1≤100000)(d:0≤b.1∧b.1≤100000):T6 (zM a) (zM b)=a.1-b.1:=by show i6.wrap (a.1-b.1)=_;exact zn (by omega) (by omega)
theorem DA{l:List Sp}(h:∀s∈l,0≤s.1∧s.1≤100000):Je T6 (l.map zM) where
 irrefl x d:=by obtain⟨s,hs,rfl⟩:=qX.1 d;rw[XH (h s hs) (h s hs)];omega
 trans x d y i z j k m:=by obtain⟨a,e,rfl⟩:=qX.1 d;obtain⟨b,f,rfl⟩:=qX.1 i;obtain⟨c,g,rfl⟩:=qX.1 j;rw[XH (h _ e) (h _ f)]at k;rw[XH (h _ f) (h _ g)]at m;rw[XH (h _ e) (h _ g)];omega
 ntrans x d y i z j k m:=by obtain⟨a,e,rfl⟩:=qX.1 d;obtain⟨b,f,rfl⟩:=qX.1 i;obtain⟨c,g,rfl⟩:=qX.1 j;rw[XH (h _ e) (h _ f)]at k;rw[XH (h _ f) (h _ g)]at m;rw[XH (h _ e) (h _ g)];omega
theorem dR{α d:Type}{f:α→d}:∀{l:List α} {m:List d},m.Perm (l.map f)→∃l':List α,l'.Perm l∧m=l'.map f:=by
 have e:∀{m n:List d},m.Perm n→∀l:List α,n=l.map f→∃l':List α,l'.Perm l∧m=l'.map f:=by
  intro m n h
  induction h with
  |nil=>intro l c;exact⟨l,.refl _,c⟩
  |cons x _ o=>
   intro l c;cases l with
   |nil=>cases c
   |cons a l=>simp only[qF,zh]at c;obtain⟨l',g,i⟩:=o l c.2;exact⟨a::l',g.cons a,by rw[qF,c.1,i]⟩
  |swap x y r=>
   intro l c
   match l,c with
   |a::b::l,c=>simp only[qF,zh]at c;exact⟨b::a::l,.swap _ _ _,by rw[qF,qF,c.1,c.2.1,c.2.2]⟩
  |trans _ _ j k=>intro l c;obtain⟨p,g,i⟩:=k l c;obtain⟨q,s,t⟩:=j p i;exact⟨q,s.trans g,t⟩
 intro l m h;exact e h l rfl
theorem gZ{l:List Sp}(h:∀s∈l,0≤s.1∧s.1≤100000):∃m:List Sp,Zo T6 (l.map zM)=m.map zM∧m.Perm l∧m.Pairwise (fun a b=>a.1≤b.1):=by
 obtain⟨m,c,e⟩:=dR (YW (DA h));refine⟨m,e,c,?_⟩;have f:=Vp (DA h);rw[e,Ll]at f;refine f.imp_of_mem fun{a b} g i d=>?_
 rw[XH (h _ (c.mem_iff.1 i)) (h _ (c.mem_iff.1 g))]at d;omega
noncomputable def FCat (out:List Sp→List Sp→O) (pre:List Sp→List Sp→Prop):zc→Option O:=qv (α:=List Sp×List Sp) (fun a=>[.sl 1 [[.sl 2 (a.1.map zM)],[.sl 2 (a.2.map zM)]]]) (fun a=>pre a.1 a.2) (fun a=>out a.1 a.2)
noncomputable abbrev TM:Ctx:=qb prog [(87,bz 82 2 16)]
theorem DB(a b:List Sp)(K:a.length≤100000)(C:b.length≤100000):∃g,zz TM f46 [.sl 1 [[.sl 2 (a.map zM)],[.sl 2 (b.map zM)]]]=some g∧qM g (.sl 2 ((a++b).map zM)):=by
 have r:∀{code},f46.body=some code→Zf TM code ⟨ve [.sl 1 [[.sl 2 (a.map zM)],[.sl 2 (b.map zM)]]],fun _=>none,0⟩ (JT TM.P f46 (VW (.sl 2 ((a++b).map zM))))→∃g,zz TM f46 [.sl 1 [[.sl 2 (a.map zM)],[.sl 2 (b.map zM)]]]=some g∧qM g (.sl 2 ((a++b).map zM)):=by intro code C h;obtain⟨g,E,F⟩:=xr C h;exact⟨g,E,fun w S u G=>JU G F⟩
 refine r rfl ?_;let cs:List (List Sp):=[a,b];have c:cs=[a,b]:=rfl;simp;refine zQ (fun k d Y Z=>d 0=.sl 1 [[.sl 2 (a.map zM)],[.sl 2 (b.map zM)]]∧d 9=.sl 1 [[.sl 2 (a.map zM)],[.sl 2 (b.map zM)]]∧d 10=int 2∧d 11=int k∧d 3=int (((cs.take k).map List.length).sum:Nat)) 2
  ⟨by simp,by simp,by simp,by simp,by simp⟩ ?_
 rintro k d Y Z H ⟨x,y,i,j,q⟩;obtain rfl|rfl|rfl:k=0∨k=1∨k=2:=by omega
 ·simp[c]at q;have z:i6.wrap (a.length:Int)=a.length:=zn (by omega) (by omega);have l:i6.wrap 1=1:=zn (by omega) (by omega);have A:¬(a.length:Int)<0:=by omega
  simp[x,y,i,j,q,z,l,A,c]
 ·simp[c]at q;have z:i6.wrap ((a.length:Int)+b.length)=a.length+b.length:=zn (by omega) (by omega);have l:i6.wrap 2=2:=zn (by omega) (by omega);have A:¬(a.length:Int)+b.length<0:=by omega
  simp[x,y,i,j,q,z,l,A,c]
 ·simp[c]at q;have I:∀Y Z,∃v Y' s,bz 82 2 16 [.nil,int ((a.length:Int)+b.length)] Y Z=some (v,Y',s)∧q6 Y' s 82 2 v []:=fun Y Z=>by
   by_cases D:(a.length:Int)+b.length=0
   ·exact⟨.nil,Y,Z,by simp[bz,D],.inl ⟨rfl,rfl⟩⟩
   ·exact⟨.own Z 0 0,qZ Y Z (some ⟨82,2,true,[]⟩),Z+1,by show(if(a.length:Int)+b.length=0 then _ else _)=_;rw[zj D,zf ⟨by omega,by omega,by omega⟩],.inr ⟨Z,by omega,rfl,by simp⟩⟩
  obtain⟨v,Y',s,B,f⟩:=I Y Z;simp[x,y,i,j,q,B];refine zQ (fun k d Y Z=>d 25=.sl 1 [[.sl 2 (a.map zM)],[.sl 2 (b.map zM)]]∧d 26=int 2∧d 27=int k∧q6 Y Z 82 2 (d 6) (((cs.take k).flatten).map zM)) 2
   ⟨by simp,by simp,by simp,by simpa using f⟩ ?_
  rintro k d Y Z H ⟨m,n,o,f⟩;obtain rfl|rfl|rfl:k=0∨k=1∨k=2:=by omega
  ·simp[c]at f;obtain⟨J,Y',s,p,e,_⟩:=f.lX (P:=prog) (t:=48) (ys:=a.map zM) iI ff iJ iK rfl (by omega) (by simp[maxLen];omega) (by simp;omega);have l:i6.wrap 1=1:=zn (by omega) (by omega);simp at e;simp[m,n,o,p,l,c];exact e
  ·simp[c]at f;obtain⟨J,Y',s,p,e,_⟩:=f.lX (P:=prog) (t:=48) (ys:=b.map zM) iI ff iJ iK rfl (by omega) (by simp[maxLen];omega) (by simp;omega);have l:i6.wrap 2=2:=zn (by omega) (by omega);simp[m,n,o,p,l,c];simpa using e
  ·simp[c]at f;have:=f.freeze Z;simp[m,n,o,f46];exact this
noncomputable def My:zc→Option O:=FCat (fun a b=>.sl 2 ((a++b).map zM)) fun a b=>a.length≤100000∧b.length≤100000
theorem Aw:zg prog 46 (zi true [] My):=
 jD (fn:=f46) (zI (q:=[]) mixed ⟨Dy,by simp,trivial⟩:AM.Good TM _) ⟨_,func46,by kernel_rfl,rfl,by kernel_rfl⟩ true [] _ fun args r h w S vs d=>by unfold My FCat at h;obtain⟨⟨a,b⟩,rfl,c,rfl⟩:=zr h;obtain⟨e,f,g⟩:=DB a b c.1 c.2;exact⟨_,e,d,zC (ze 1) (by decide),f,g⟩
end Go.Q
