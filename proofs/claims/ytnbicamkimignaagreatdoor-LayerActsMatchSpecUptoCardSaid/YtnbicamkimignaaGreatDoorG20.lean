/- Lemmas. -/
import Derived.Test.YtnbicamkimignaaGreatDoorG19
set_option maxRecDepth 100000
set_option maxHeartbeats 4000000
open Go Proofs Proofs.YtnbicamkimignaaGreatDoor Proofs.Tryz RowKit AM SpanLaw Q Zz
open Go.IntKind renaming i64→i6
namespace Go.Q
def cq(p:Option Int)(x:Int):Bool:=match p with
 |none=>false
 |some q=>decide (x≤q)
def DN:Option Int→List Sp→List wc→Int
 |_,_,[]=>0
 |p,b,x::l=>if vT x.at_=true then(if cq p x.at_=true then 8 else if w7 x.qS=0 then(if x.qS=b then 7 else DN (some x.at_) x.qS l)else w7 x.qS)else 1
def je(l:List wc):Int:=if(50:Int)<l.length then 2 else DN none [] l
def hK(l:List wc)(k:Nat):Option Int:=if k=0 then none else(l[k-1]?).map (·.at_)
theorem rb:zg prog 118 (zi false [2,2] (lT (fun a b=>wq (decide (a=b))) fun a _=>a.length≤zG)):=
 qq (fn:=f118) w8 ⟨_,func118,by kernel_rfl,rfl,by kernel_rfl⟩ false [2,2] _ fun args r h=>by obtain⟨⟨a,b⟩,rfl,c,rfl⟩:=zr h;exact⟨zC (ze 2) (by decide),_,hI a b c,qm _⟩
theorem Ri(a b:List Sp)(v:O)(Y:Hp)(Z:Nat)(h:a.length≤zG)(c:v=.sl 2 (b.map zM)∨(v=.nil∧b=[])):zi false [2,2] (lT (fun a b=>wq (decide (a=b))) fun a _=>a.length≤zG) [.sl 2 (a.map zM),v] Y Z=some (wq (decide (a=b)),Y,Z):=by
 have hs:lT (fun a b=>wq (decide (a=b))) (fun a _=>a.length≤zG) [.sl 2 (a.map zM),.sl 2 (b.map zM)]=some (wq (decide (a=b))):=
  zJ (V:=fun a:List Sp×List Sp=>[O.sl 2 (a.1.map zM),.sl 2 (a.2.map zM)]) (a:=(a,b)) (fun a b e=>by obtain⟨d,f⟩:=a;obtain⟨g,i⟩:=b;simp only[zh,zK]at e;rw[jE e.1,jE e.2]) h
 rcases c with rfl|⟨rfl,rfl⟩
 ·exact qe rfl hs (.inl rfl)
 ·exact qe rfl hs (.inl rfl)
noncomputable abbrev Cph:Ctx:=qb prog [(17,zi false [] (fK vT)),(166,zi false [] (FP (fun l=>int (w7 l)) fun _=>True)),(118,zi false [2,2] (lT (fun a b=>wq (decide (a=b))) fun a _=>a.length≤zG))]
theorem zea:AM.Good Cph (fun g=>([]:List Nat).contains g):=zI mixed ⟨VA,by simp,fQ,by simp,rb,by simp,trivial⟩
noncomputable def FPh (out:List wc→O):zc→Option O:=qv (α:=List wc) (fun l=>[.sl 2 (l.map wc.V)]) (fun l=>wg wc.cb l≤zG) out
theorem DO{a b:List wc}(h:O.sl 2 (a.map wc.V)=O.sl 2 (b.map wc.V)):a=b:=by injection h with _ h;exact y7 (fun _ _=>dU) h
theorem DP(out:List wc→O)(l:List wc)(Y:Hp)(Z:Nat)(h:wg wc.cb l≤zG):zi false [] (FPh out) [.sl 2 (l.map wc.V)] Y Z=some (out l,Y,Z):=
 qe rfl (zJ (V:=fun l:List wc=>[O.sl 2 (l.map wc.V)]) (a:=l) (fun a b e=>by simp only[zh,zK]at e;exact DO e) h) (.inr rfl)
theorem DQ(l:List wc)(h:wg wc.cb l≤zG):zz Cph f127 [.sl 2 (l.map wc.V)]=some (int (je l)):=by
 have G:=qJ vG l;unfold zG at h;refine zo rfl ?_;by_cases q:(50:Int)<l.length
 ·have F:je l=2:=by unfold je;rw[zf q]
  simp[q,F,f127]
 have F:je l=DN none [] l:=by unfold je;rw[zj q]
 rw[F];simp[q];refine zQ (fun k u Y Z=>u 0=.sl 2 (l.map wc.V)∧u 10=.sl 2 (l.map wc.V)∧u 11=int l.length∧u 12=int k∧∃b,(u 3=.sl 2 (b.map zM)∨(u 3=.nil∧b=[]))∧DN none [] l=DN (hK l k) b (l.drop k)) l.length
  ⟨by simp,by simp,by simp,by simp,[],.inr ⟨by simp,rfl⟩,by simp[hK]⟩ ?_
 rintro k u Y Z P ⟨r,d,e,g,b,H,a⟩;by_cases c:k<l.length
 ·have I:=yg (f:=wc.cb) (zm c);obtain⟨x,n⟩:∃x,l[k]=x:=⟨_,rfl⟩;have y:hK l (k+1)=some x.at_:=by simp[hK,c,n]
  rw[n]at I;have J:x.cb=1+x.qS.length:=rfl;rw[zd c,n]at a;simp only[DN]at a;have K:∀h:k<(l.map wc.V).length,(l.map wc.V)[k]=x.V:=fun h=>by simp[n]
  have m:=fun Y Z=>Yw (fun l=>int (w7 l)) (fun _=>True) x.qS Y Z trivial
  have i:=fun Y Z=>Ri x.qS b (u 3) Y Z (by unfold zG;omega) H
  have L:i6.wrap ((k:Int)+1)=(k:Int)+1:=zn (by omega) (by omega);cases p:vT x.at_
  case false=>rw[p,zj (by simp)]at a;simp[r,d,e,g,c,n,wc.V,p,a,f127]
  rw[p,zf rfl]at a;have step:∀(Y:Hp) (Z:Nat) (o:cq (hK l k) x.at_=false),DN none [] l=if w7 x.qS=0 then(if x.qS=b then 7 else DN (some x.at_) x.qS (l.drop (k+1)))else w7 x.qS:=fun _ _ o=>by rw[o,zj (by simp)]at a;exact a
  by_cases M:k=0
  ·subst M;have a:=step Y Z rfl;by_cases hs:w7 x.qS=0
   case neg=>
    rw[zj hs]at a;have v:(w7 x.qS != 0)=true:=by simpa using hs
    simp[r,d,e,g,c,n,wc.V,p,m,v,a,f127]
   rw[zf hs]at a;by_cases s:x.qS=b
   ·rw[zf s]at a;rw[xE s]at i;simp[r,d,e,g,c,n,wc.V,p,m,hs,i,a,f127]
   ·rw[zj s]at a;rw[Ze s]at i;simp[r,d,e,g,c,n,wc.V,p,m,hs,i,L];exact⟨by omega,x.qS,rfl,by rw[a,show hK l 1=some x.at_ from y];simp⟩
  ·obtain⟨j,rfl⟩:∃j,k=j+1:=⟨k-1,by omega⟩;have z:j<l.length:=by omega
   have A:i6.wrap ((j:Int)+1-1)=(j:Int):=by rw[zn (by omega) (by omega)];omega
   have t:i6.wrap (j:Int)=(j:Int):=zn (by omega) (by omega);have N:i6.wrap ((j:Int)+1+1)=(j:Int)+1+1:=zn (by omega) (by omega);have B:((j:Int)+1).toNat=j+1:=by omega
   have C:0<(j:Int)+1:=by omega
   have D:0≤(j:Int)+1:=by omega
   have E:(j:Int)+1<l.length:=by omega
   have o:cq (hK l (j+1)) x.at_=decide (x.at_≤l[j].at_):=by simp[hK,z,cq]
   by_cases w:x.at_≤l[j].at_
   ·rw[o,zf (by simpa using w)]at a;simp[r,d,e,g,c,z,n,wc.V,p,A,t,B,C,D,E,w,a,f127]
   have a:=step Y Z (by rw[o];simpa using w);by_cases hs:w7 x.qS=0
   case neg=>
    rw[zj hs]at a;have v:(w7 x.qS != 0)=true:=by simpa using hs
    simp[r,d,e,g,c,z,n,wc.V,p,A,t,B,C,D,E,w,m,v,a,f127]
   rw[zf hs]at a;by_cases s:x.qS=b
   ·rw[zf s]at a;rw[xE s]at i;simp[r,d,e,g,c,z,n,wc.V,p,A,t,B,C,D,E,w,m,hs,i,a,f127]
   ·rw[zj s]at a;rw[Ze s]at i;simp[r,d,e,g,c,z,n,wc.V,p,A,t,N,B,C,D,E,w,m,hs,i];exact⟨by omega,x.qS,rfl,by rw[a,y]⟩
 ·obtain rfl:k=l.length:=by omega
  rw[zl]at a;simp only[DN]at a;simp[r,d,e,g,a,f127]
theorem Az:zg prog 127 (zi false [] (FPh fun l=>int (je l))):=
 qq (fn:=f127) zea ⟨_,func127,by kernel_rfl,rfl,by kernel_rfl⟩ false [] _ fun args r h=>by obtain⟨l,rfl,a,rfl⟩:=zr h;exact⟨by simp[f127],_,DQ l a,qm _⟩
def WJ(l:List wc)(i:Nat):Int:=match l[i+1]? with
 |some p=>p.at_
 |none=>1125899906842624
noncomputable def FPi2 (f:List wc→Nat→O):zc→Option O:=qv (α:=List wc×Nat) (fun a=>[.sl 2 (a.1.map wc.V),int a.2]) (fun a=>a.1.length≤zG∧a.2≤zG) (fun a=>f a.1 a.2)
theorem fW(f:List wc→Nat→O)(l:List wc)(i:Nat)(Y:Hp)(Z:Nat)(h:l.length≤zG∧i≤zG):zi false [] (FPi2 f) [.sl 2 (l.map wc.V),int i] Y Z=some (f l i,Y,Z):=
 qe rfl (zJ (V:=fun a:List wc×Nat=>[O.sl 2 (a.1.map wc.V),int a.2]) (a:=(l,i)) (fun a b e=>by obtain⟨g,c⟩:=a;obtain⟨j,d⟩:=b;simp only[zh,zK]at e;have:=qn e.2;rw[DO e.1,show c=d by omega]) h) (.inr rfl)
theorem ti:zg prog 58 (zi false [] (FPi2 fun l i=>int (WJ l i))):=
 qq (fn:=f58) w8 ⟨_,func58,by kernel_rfl,rfl,by kernel_rfl⟩ false [] _ fun args r h=>by
  obtain⟨⟨l,i⟩,rfl,⟨d,e⟩,rfl⟩:=zr h;unfold zG at d e;simp only at d e;refine⟨by simp[f58],_,zo rfl ?_,qm _⟩;have f:i6.wrap ((i:Int)+1)=(i:Int)+1:=zn (by omega) (by omega);by_cases b:i+1<l.length
  ·have a:(i:Int)+1<l.length:=by omega
   have g:((i:Int)+1).toNat=i+1:=by omega
   have j:0≤(i:Int)+1:=by omega
   simp[f,b,a,g,j,WJ,wc.V,f58]
  ·have a:¬(i:Int)+1<l.length:=by omega
   have c:l[i+1]?=none:=Jj (by omega);simp[f,a,WJ,c,f58]
def kS:List Sp→List Sp→Bool
 |a::l,b::m=>if a.2≤b.1 then kS l (b::m)else if b.2≤a.1 then kS (a::l) m else true
 |_,_=>false
termination_by a b=>a.length+b.length
theorem GZ{a b:List Sp}{i k:Nat}(c:i<a.length)(d:k<b.length):kS (a.drop i) (b.drop k)=if a[i].2≤b[k].1 then kS (a.drop (i+1)) (b.drop k)else if b[k].2≤a[i].1 then kS (a.drop i) (b.drop (k+1))else true:=by rw[zd c,zd d,kS]
theorem zlV(b:List Sp):kS [] b=false:=by unfold kS;rfl
theorem hU(a:List Sp):kS a []=false:=by cases a<;>(unfold kS;rfl)
theorem G3(a b:List Sp)(o:a.length≤zG)(p:b.length≤zG):zz C0 f168 [.sl 2 (a.map zM),.sl 2 (b.map zM)]=some (wq (kS a b)):=by
 unfold zG at o p;refine zo rfl ?_;simp;refine Zi (fun f=>f.σ 0=.sl 2 (a.map zM)∧f.σ 1=.sl 2 (b.map zM)∧∃i k:Nat,f.σ 5=int i∧f.σ 6=int k∧i≤a.length∧k≤b.length∧kS a b=kS (a.drop i) (b.drop k))
  (fun f=>a.length+b.length-(VV (f.σ 5)).toNat-(VV (f.σ 6)).toNat) ⟨by simp,by simp,0,0,by simp,by simp,by simp,by simp,by simp⟩ ?_
 rintro⟨u,Y,Z⟩ ⟨g,h,i,k,j,l,q,r,c⟩;simp only at g h j l;by_cases d:i<a.length
 ·by_cases e:k<b.length
  ·rw[GZ d e]at c;have s:i6.wrap ((i:Int)+1)=(i:Int)+1:=zn (by omega) (by omega);have t:i6.wrap ((k:Int)+1)=(k:Int)+1:=zn (by omega) (by omega);by_cases m:a[i].2≤b[k].1
   ·rw[zf m]at c;simp[g,h,j,l,d,e,m,s];exact⟨⟨i+1,by omega,k,rfl,by omega,r,c⟩,by omega⟩
   ·rw[zj m]at c;by_cases n:b[k].2≤a[i].1
    ·rw[zf n]at c;simp[g,h,j,l,d,e,m,n,t];exact⟨⟨i,rfl,k+1,by omega,q,by omega,c⟩,by omega⟩
    ·rw[zj n]at c;simp[g,h,j,l,d,e,m,n,c,f168]
  ·obtain rfl:k=b.length:=by omega
   rw[zl,hU]at c;simp[g,h,j,l,d,c,f168]
 ·obtain rfl:i=a.length:=by omega
  rw[zl,zlV]at c;simp[g,h,j,l,c,f168]
theorem DR:zg prog 168 (zi false [] (lT (fun a b=>wq (kS a b)) fun a b=>a.length≤zG∧b.length≤zG)):=
 qq (fn:=f168) w8 ⟨_,func168,by kernel_rfl,rfl,by kernel_rfl⟩ false [] _ fun args r h=>by obtain⟨⟨a,b⟩,rfl,c,rfl⟩:=zr h;exact⟨by simp[f168],_,G3 a b c.1 c.2,qm _⟩
def tj(a b:List wc)(i k:Nat)(p q:wc)(c:Int):Bool:=(decide (p.at_≤q.at_)&&decide (q.at_<WJ a i+c))||(decide (q.at_≤p.at_)&&decide (p.at_<WJ b k+c))
def DS(a b:List wc)(i k:Nat)(p q:wc)(c:Int):Bool:=tj a b i k p q c&&kS p.qS q.qS
def zjk(a b:List wc)(i:Nat)(p:wc)(c:Int):Nat→List wc→Bool
 |_,[]=>false
 |k,q::l=>DS a b i k p q c||zjk a b i p c (k+1) l
def W4(a b:List wc)(c:Int):Nat→List wc→Bool
 |_,[]=>false
 |i,p::l=>zjk a b i p c 0 b||W4 a b c (i+1) l
def J3(a b:Xp)(c:Int):Bool:=W4 a.zs b.zs c 0 a.zs
def VB(l:List wc):Prop:=∀p∈l,0≤p.at_∧p.at_≤4000000000
theorem fX{l:List wc}(h:VB l)(i:Nat):0≤WJ l i∧WJ l i≤1125899906842624:=by
 unfold WJ;split
 ·rename_i p Y;have:=h p (zO Y);omega
 ·omega
def Xp.rX(x:Xp):Prop:=VB x.zs∧x.cb≤zG
noncomputable def G5:zc→Option O:=qv (α:=Xp×Xp×Int) (fun a=>[.agg a.1.V,.agg a.2.1.V,int a.2.2]) (fun a=>a.1.rX∧a.2.1.rX∧0≤a.2.2∧a.2.2≤100000000) (fun a=>wq (J3 a.1 a.2.1 a.2.2))
theorem Qh(Y:Hp)(x:Xp):qf Y (.agg x.V)=some (.agg x.V,Y):=by rw[zZ];simp
theorem XI(x:Xp):O.noOwn (.agg x.V)=true:=by rw[zZ];simp
theorem DT(a b:Xp)(c:Int)(Y:Hp)(Z:Nat)(h:a.rX∧b.rX∧0≤c∧c≤100000000):zi false [] G5 [.agg a.V,.agg b.V,int c] Y Z=some (wq (J3 a b c),Y,Z):=
 qe (Y1:=Y) (show zA Y [.agg a.V,.agg b.V,int c]=some ([.agg a.V,.agg b.V,int c],Y) by simp only[zA,Qh];rfl) (zJ (V:=fun a:Xp×Xp×Int=>[.agg a.1.V,.agg a.2.1.V,int a.2.2]) (a:=(a,b,c)) (fun x y e=>by obtain⟨d,f,g⟩:=x;obtain⟨i,j,k⟩:=y;simp only[zh,zK,O.agg.injEq]at e;rw[xQ e.1,xQ e.2.1,qn e.2.2]) h) (.inl rfl)
noncomputable abbrev Ccla:Ctx:=qb prog [(58,zi false [] (FPi2 fun l i=>int (WJ l i))),(168,zi false [] (lT (fun a b=>wq (kS a b)) fun a b=>a.length≤zG∧b.length≤zG))]
theorem zak:AM.Good Ccla (fun g=>[58,168].contains g):=zI mixed ⟨ti,fun _=>zt _ _,DR,fun _=>zt _ _,trivial⟩
@[simp]theorem zf8:yB Ccla 58:=wC (by rfl) (zt _ _)
@[simp]theorem zf9:yB Ccla 168:=wC (by rfl) (zt _ _)
theorem DU{a b:List wc}{c:Int}{i:Nat}{l:List wc}(h:i<l.length):W4 a b c i (l.drop i)=(zjk a b i l[i] c 0 b||W4 a b c (i+1) (l.drop (i+1))):=by rw[zd h,W4]
theorem DV{a b:List wc}{c:Int}{i k:Nat}{p:wc}{l:List wc}(h:k<l.length):zjk a b i p c k (l.drop k)=(DS a b i k p l[k] c||zjk a b i p c (k+1) (l.drop (k+1))):=by rw[zd h,zjk]
theorem G6(a b:Xp)(rest:Int)(ha:a.rX)(hb:b.rX)(hr:0≤rest∧rest≤100000000):zz Ccla f130 [.agg a.V,.agg b.V,int rest]=some (wq (J3 a b rest)):=by
 obtain⟨B,J⟩:=ha;obtain⟨C,K⟩:=hb;have hla:=qJ vG a.zs;have hlb:=qJ vG b.zs;have xca:a.cb=a.name.length+a.qi.length+a.flag.length+a.cond.cb+a.qI.length+a.jX.length+wg wc.cb a.zs:=rfl;have xcb:b.cb=b.name.length+b.qi.length+b.flag.length+b.cond.cb+b.qI.length+b.jX.length+wg wc.cb b.zs:=rfl;unfold zG at J K;refine zo rfl ?_;simp[zZ];have D:J3 a b rest=W4 a.zs b.zs rest 0 a.zs:=rfl;refine zQ (fun i c Y Z=>c 2=int rest∧c 3=.ref 0 0 0∧c 4=.ref 1 0 0∧c 13=.sl 2 (a.zs.map wc.V)∧c 14=int a.zs.length∧c 15=int i∧2≤Z∧Y 0=some ⟨34,13,false,[a.V]⟩∧Y 1=some ⟨34,13,false,[b.V]⟩∧J3 a b rest=W4 a.zs b.zs rest i (a.zs.drop i)) a.zs.length
  ⟨by simp,by simp,by simp,by simp,by simp,by simp,by simp,by simp[zZ],by simp[zZ],by rw[D];simp⟩ ?_
 rintro i c Y Z hi ⟨s,t,u,d,e,g,L,v,w,j⟩;by_cases o:i<a.zs.length
 ·obtain⟨p,r⟩:∃p,a.zs[i]=p:=⟨_,rfl⟩;have hpm:=B p (by rw[←r];exact zm o);have hsp:=yg (f:=wc.cb) (show p∈a.zs by rw[←r];exact zm o);have hpc:p.cb=1+p.qS.length:=rfl;rw[DU o,r]at j;have M:i6.wrap ((i:Int)+1)=(i:Int)+1:=zn (by omega) (by omega);have E:¬0=Z:=by omega
  have n1:¬1=Z:=by omega
  simp[s,t,u,d,e,g,o,r,wc.V,v,w,E,n1,zZ];obtain⟨P,S⟩:∃P,Z=P:=⟨_,rfl⟩;rw[S];have hea:=fX B i;refine zQ (fun k c Y Z=>c 2=int rest∧c 3=.ref 0 0 0∧c 4=.ref 1 0 0∧c 13=.sl 2 (a.zs.map wc.V)∧c 14=int a.zs.length∧c 15=int i∧c 7=int i∧c 8=.ref P 0 0∧c 21=.sl 2 (b.zs.map wc.V)∧c 22=int b.zs.length∧c 23=int k∧2≤P∧P<Z ∧
    Y 0=some ⟨34,13,false,[a.V]⟩∧Y 1=some ⟨34,13,false,[b.V]⟩∧Y P=some ⟨54,2,false,[p.V]⟩∧J3 a b rest=(zjk a.zs b.zs i p rest k (b.zs.drop k)||W4 a.zs b.zs rest (i+1) (a.zs.drop (i+1)))) b.zs.length
   ⟨by simp[s],by simp[t],by simp[u],by simp[d],by simp[e],by simp[g],by simp,by simp,by simp,by simp,by simp,by omega,(by show P<P+1;omega),by simp[v,show¬0=P by omega],by simp[w,show¬1=P by omega],by simp[wc.V],by simpa using j⟩ ?_
  clear s t u d e g L v w E n1 S hi c Y Z;rintro k c Y Z hk ⟨s,t,u,d,e,g,T,U,y,z,A,N,hPn,v,w,Q,j⟩;by_cases h:k<b.zs.length
  ·obtain⟨q,m⟩:∃q,b.zs[k]=q:=⟨_,rfl⟩;have hqm:=C q (by rw[←m];exact zm h);have hsq:=yg (f:=wc.cb) (show q∈b.zs by rw[←m];exact zm h);have hqc:q.cb=1+q.qS.length:=rfl;rw[DV h,m]at j;have R:i6.wrap ((k:Int)+1)=(k:Int)+1:=zn (by omega) (by omega);have heb:=fX C k;have W:i6.wrap (WJ a.zs i+rest)=WJ a.zs i+rest:=zn (by omega) (by omega);have X:i6.wrap (WJ b.zs k+rest)=WJ b.zs k+rest:=zn (by omega) (by omega);have F:=fun Y Z=>fW (fun l i=>int (WJ l i)) a.zs i Y Z ⟨by unfold zG;omega,by unfold zG;omega⟩
   have G:=fun Y Z=>fW (fun l i=>int (WJ l i)) b.zs k Y Z ⟨by unfold zG;omega,by unfold zG;omega⟩
   have H:=fun Y Z=>WI (fun a b=>wq (kS a b)) (fun a b=>a.length≤zG∧b.length≤zG) p.qS q.qS Y Z ⟨by unfold zG;omega,by unfold zG;omega⟩
   have E:¬0=Z:=by omega
   have n1:¬1=Z:=by omega
   have nP:¬P=Z:=by omega
   have n:((decide (p.at_≤q.at_)&&decide (q.at_<WJ a.zs i+rest))||(decide (q.at_≤p.at_)&&decide (p.at_<WJ b.zs k+rest)))=tj a.zs b.zs i k p q rest:=rfl;have x:(tj a.zs b.zs i k p q rest&&kS p.qS q.qS)=DS a.zs b.zs i k p q rest:=rfl;rw[wc.V]at Q;rw[zZ]at v w;cases I:DS a.zs b.zs i k p q rest
   ·rw[I]at j;simp[s,t,u,T,U,d,e,g,y,z,A,h,m,wc.V,v,w,Q,E,n1,nP,F,G,H,W,X,n,x,I,R];exact⟨by omega,N,by omega,(zZ a).symm,(zZ b).symm,by rw[j];rfl⟩
   ·rw[I]at j;simp[s,t,u,T,U,d,e,g,y,z,A,h,m,wc.V,v,w,Q,E,n1,nP,F,G,H,W,X,n,x,I,j,f130]
  ·obtain rfl:k=b.zs.length:=by omega
   rw[zl]at j;simp only[zjk,jo]at j;simp[s,t,u,d,e,g,y,z,A,M];exact⟨by omega,by omega,by rw[←zZ];exact v,by rw[←zZ];exact w,j⟩
 ·obtain rfl:i=a.zs.length:=by omega
  rw[zl]at j;simp only[W4]at j;simp[s,t,u,d,e,g,j,f130]
theorem DW:zg prog 130 (zi false [] G5):=
 qq (fn:=f130) zak ⟨_,func130,by kernel_rfl,rfl,by kernel_rfl⟩ false [] _ fun args r h=>by obtain⟨⟨a,b,c⟩,rfl,⟨d,e,f⟩,rfl⟩:=zr h;exact⟨by simp[f130],_,G6 a b c d e f,qm _⟩
end Go.Q
namespace Go.AM
section
variable(C:Ctx)(ρ:Operand→Option O)(Y:Hp)(Z:Nat)
@[simp]theorem zga(t:TypeId)(x i:Operand)(a:Bool):qt C ρ Y Z (.lookup t x i a)=(do let p ←ρ x;let q ←ρ i;let r ←Jl C.P Y t p q a;some (r,Y,Z)):=by simp only[qt];cases ρ x<;>cases ρ i<;>(try rfl);simp;cases Jl C.P Y t _ _ a<;>rfl
@[simp]theorem zal(t:TypeId)(m k x:Operand):qt C ρ Y Z (.mapUpdate t m k x)=(do let p ←ρ m;let q ←ρ k;let y ←ρ x;let h ←Jm C.P Y t p q y;some (.yb [],h,Z)):=by simp only[qt];cases ρ m<;>cases ρ k<;>cases ρ x<;>(try rfl);simp;cases Jm C.P Y t _ _ _<;>rfl
@[simp]theorem zeb(t:TypeId):qt C ρ Y Z (.makeMap t none)=(do let _ ←cS C.P t;some (.mp Z,qZ Y Z (some ⟨t,0,false,[]⟩),Z+1)):=by simp only[qt];cases cS C.P t<;>rfl
end
end Go.AM
namespace Go.Q
def AA(l:List za):List zc:=l.map fun s=>[str s,wq true]
def W5(l:List za):jz:=⟨88,0,false,AA l⟩
theorem fY(s:za):∀(l:List za) (i:Nat),(s ∉ l→Ke (.string ⟨s.toArray⟩) (AA l) i=some none)∧(s∈l→∃j,Ke (.string ⟨s.toArray⟩) (AA l) i=some (some (j,wq true)))
 |[],i=>⟨fun _=>rfl,fun h=>by simp at h⟩
 |x::l,i=>by
  obtain⟨c,d⟩:=fY s l (i+1);by_cases a:s=x
  ·refine⟨fun h=>absurd (by simp[a]) h,fun _=>⟨i,?_⟩⟩;subst a;simp[AA,Ke,Yk]
  ·have f:Yk (.string ⟨s.toArray⟩) (.string ⟨x.toArray⟩)=some false:=by simp only[Yk];congr 1;rw[q7];intro e;exact a (by simpa[Lj]using e)
   have b:Ke (.string ⟨s.toArray⟩) (AA (x::l)) i=Ke (.string ⟨s.toArray⟩) (AA l) (i+1):=by simp only[AA,qF,Ke,f]
   refine⟨fun h=>by rw[b];exact c fun g=>h (List.mem_cons_of_mem _ g),fun h=>?_⟩;rcases zL.1 h with h|h
   ·exact absurd h a
   ·rw[b];exact d h
@[simp]theorem zgb:cS prog 88=some (none,4):=by kernel_rfl
@[simp]theorem zec:cT prog 4=some (wq false):=by kernel_rfl
theorem Rj{Y:Hp}{id:Nat}{l:List za}(s:za)(h:Y id=some (W5 l)):Jl prog Y 88 (.mp id) (str s) false=some (wq (decide (s∈l))):=by
 obtain⟨b,c⟩:=fY s l 0;by_cases a:s∈l
 ·obtain⟨j,d⟩:=c a;simp[Jl,zl8,h,W5,gx,d,a]
 ·simp[Jl,zl8,h,W5,gx,b a,a]
theorem zam{Y:Hp}{id:Nat}{l:List za}(s:za)(h:Y id=some (W5 l))(hs:s ∉ l):Jm prog Y 88 (.mp id) (str s) (wq true)=some (qZ Y id (some (W5 (l++[s])))):=by obtain⟨a,b⟩:=fY s l 0;simp[Jm,h,W5,gx,a hs];simp[AA]
def KI(b:Bk)(m g:Nat)(a:Bool):jz:=⟨90,6,false,[b.V++[.mp m,.mp g,wq a]]⟩
theorem Z1(b:Bk)(m g:Nat)(a:Bool):KI b m g a=⟨90,6,false,[[.sl 3 (b.zk.map wh.V),.sl 4 (b.holds.map yI.V),.sl 13 (b.zE.map Xp.V),.mp m,.mp g,wq a]]⟩:=rfl
def jJ(l:List za)(s:za):Int:=if zlR s=true then(if s∈l then 7 else 0)else 3
def xn(l:List za)(s:za):List za:=if jJ l s=0 then l++[s]else l
noncomputable abbrev MG:Ctx:=qb prog [(158,zi false [] (FS zlR))]
theorem zan:AM.Good MG (fun g=>([]:List Nat).contains g):=zI mixed ⟨Ay,by simp,trivial⟩
theorem cr:zg prog 122 (wP MG f122):=wZ (code:=_) zan ⟨func122,by kernel_rfl,rfl,by kernel_rfl⟩
theorem nR(b:Bk)(l:List za)(s:za)(hs:s.length≤zG)(i:Bool)(Y:Hp)(Z id m g:Nat)(j:Y id=some (KI b m g i))(f:Y m=some (W5 l)) :
  wP MG f122 [.ref id 0 0,str s] Y Z=some (int (jJ l s),qZ Y m (some (W5 (xn l s))),Z):=by
 unfold wP;rw[zf (by simp[f122])];refine kU rfl ?_;rw[Z1]at j;have h:=Rj s f;cases c:zlR s
 ·have a:jJ l s=3:=by simp[jJ,c]
  have d:qZ Y m (some (W5 (xn l s)))=Y:=O8 _ _ _ (by rw[xn,a];exact f);simp[hs,c,a,d,f122]
 ·by_cases e:s∈l
  ·have a:jJ l s=7:=by simp[jJ,c,e]
   have d:qZ Y m (some (W5 (xn l s)))=Y:=O8 _ _ _ (by rw[xn,a];exact f);rw[xE e]at h;simp[hs,c,a,d,j,h,f122]
  ·have a:jJ l s=0:=by simp[jJ,c,e]
   have d:xn l s=l++[s]:=by rw[xn,a];rfl
   have Y:=zam s f e;rw[Ze e]at h;simp[hs,c,a,d,j,h,Y,f122]
def ZS(r:O)(l:List za)(m:Nat)(Y:Hp)(Z:Nat)(x:O)(Y':Hp)(a:Nat):Prop:=x=r∧Z≤a∧Y' m=some (W5 l)∧∀j,j<Z→j≠m→Y' j=Y j
def ym:za→List za→List wh→Int×List za
 |_,l,[]=>(0,l)
 |before,l,x::xs=>if kb x.name before=0 then(if jJ l x.qI=0 then(if jg x.rest 0 100000000=true then ym x.name (xn l x.qI) xs else(1,xn l x.qI))else(jJ l x.qI,xn l x.qI))else(kb x.name before,l)
noncomputable abbrev Clay:Ctx:=qb prog [(121,zi false [] (Rb fun a b=>int (kb a b))),(122,wP MG f122),(16,zi false [] (F3 jg))]
theorem zao:AM.Good Clay (fun g=>([]:List Nat).contains g):=zI mixed ⟨W0,by simp,cr,by simp,kV,by simp,trivial⟩
theorem AB:zg prog 91 (wP Clay f91):=wZ (code:=_) zao ⟨func91,by kernel_rfl,rfl,by kernel_rfl⟩
theorem G7(b:Bk)(l:List za)(S:b.cb≤zG)(t:Bool)(Y0:Hp)(Z0 id m g:Nat)(hid:id<Z0)(T:m<Z0)(E:id≠m)(z:Y0 id=some (KI b m g t))(F:Y0 m=some (W5 l)) :
  ∃x Y' N,wP Clay f91 [.ref id 0 0] Y0 Z0=some (x,Y',N)∧ZS (int (ym [] l b.zk).1) (ym [] l b.zk).2 m Y0 Z0 x Y' N:=by
 unfold wP;rw[zf (by simp[f91])];refine zT rfl ?_;have P:=qJ xa b.zk;have U:b.cb=wg wh.cb b.zk+wg yI.cb b.holds+wg Xp.cb b.zE:=rfl;unfold zG at S;have Q:=z;rw[Z1]at Q;simp[Q];refine zQ (fun k v Y Z=>v 0=.ref id 0 0∧v 12=.sl 3 (b.zk.map wh.V)∧v 13=int b.zk.length∧v 14=int k∧Z0≤Z∧(∀j,j<Z0→j≠m→Y j=Y0 j)∧∃(c:za) (l':List za),v 3=str c∧Y m=some (W5 l')∧ym [] l b.zk=ym c l' (b.zk.drop k)) b.zk.length
  ⟨by simp,by simp,by simp,by simp,ze _,fun _ _ _=>rfl,[],l,by simp,F,by simp⟩ ?_
 rintro k v Y Z hk ⟨A,n,o,p,G,h,c,l',C,H,e⟩;by_cases i:k<b.zk.length
 ·obtain⟨x,w⟩:∃x,b.zk[k]=x:=⟨_,rfl⟩;have I:=yg (f:=wh.cb) (zm i);rw[w]at I;have W:x.cb=1+x.name.length+x.qI.length:=rfl;rw[zd i,w]at e;simp only[ym]at e;have X:i6.wrap ((k:Int)+1)=(k:Int)+1:=zn (by omega) (by omega);have q:=fun Y Z=>fV (fun a b=>int (kb a b)) x.name c Y Z (by unfold zG;omega) (by simp)
  have R:¬m=Z:=by omega
  have ni:¬id=Z:=by omega
  have J:qZ Y Z (some ⟨61,3,false,[x.V]⟩) id=some (KI b m g t):=by rw[zw _ _ _ _ ni,h id hid E];exact z
  have K:qZ Y Z (some ⟨61,3,false,[x.V]⟩) m=some (W5 l'):=by rw[zw _ _ _ _ R];exact H
  have r:=nR b l' x.qI (by unfold zG;omega) t _ (Z+1) id m g J K;simp only[wh.V]at r;have s:¬Z=m:=by omega
  by_cases y:kb x.name c=0
  case neg=>
   rw[zj y]at e;have L:(kb x.name c != 0)=true:=by simpa using y
   simp[A,C,n,o,p,i,w,wh.V,q,L,f91,ZS,e];exact⟨by omega,by rw[zw _ _ _ _ R];exact H,fun j u d=>by rw[zw _ _ _ _ (by omega)];exact h j u d⟩
  rw[zf y]at e;by_cases B:jJ l' x.qI=0
  case neg=>
   rw[zj B]at e;have M:(jJ l' x.qI != 0)=true:=by simpa using B
   simp[A,C,n,o,p,i,w,wh.V,q,y,r,M,f91,ZS,e];exact⟨by omega,fun j u d=>by rw[zw _ _ _ _ d,zw _ _ _ _ (by omega)];exact h j u d⟩
  rw[zf B]at e;cases D:jg x.rest 0 100000000
  ·rw[D,zj (by simp)]at e;simp[A,C,n,o,p,i,w,wh.V,q,y,r,B,D,s,f91,ZS,e];exact⟨by omega,fun j u d=>by rw[zw _ _ _ _ d,zw _ _ _ _ (by omega)];exact h j u d⟩
  ·rw[D,zf rfl]at e;simp[A,C,n,o,p,i,w,wh.V,q,y,r,B,D,s,X];exact⟨by omega,by omega,fun j u d=>by rw[zw _ _ _ _ d,zw _ _ _ _ (by omega)];exact h j u d,xn l' x.qI,rfl,e⟩
 ·obtain rfl:k=b.zk.length:=by omega
  rw[zl]at e;simp only[ym]at e;simp[A,n,o,p,f91,ZS,e];exact⟨G,H,h⟩
def leP(p:Option za)(s:za):Bool:=match p with
 |none=>false
 |some q=>fg s q
noncomputable def xS (L:List wh):Option za→List za→Int
 |_,[]=>0
 |p,s::l=>if(vd (L.map wh.name) s).2=true then(if leP p s=true then 8 else xS L (some s) l)else 9
noncomputable def dV (L:List wh) (x:yI):Int:=if jg x.buckets 1 100000=true then(if x.zk.length=0 then 9 else xS L none x.zk)else 1
noncomputable def jA (L:List wh):za→List za→List yI→Int×List za
 |_,l,[]=>(0,l)
 |before,l,x::xs=>if kb x.name before=0 then(if jJ l x.qI=0 then(if dV L x=0 then jA L x.name (xn l x.qI) xs else(dV L x,xn l x.qI))else(jJ l x.qI,xn l x.qI))else(kb x.name before,l)
def Qi(l:List za)(k:Nat):Option za:=if k=0 then none else l[k-1]?
noncomputable abbrev Chol:Ctx:=qb prog [(121,zi false [] (Rb fun a b=>int (kb a b))),(122,wP MG f122),(16,zi false [] (F3 jg)),(15,zi false [] GX)]
theorem zap:AM.Good Chol (fun g=>([]:List Nat).contains g):=zI mixed ⟨W0,by simp,cr,by simp,kV,by simp,KH,by simp,trivial⟩
theorem DX:zg prog 92 (wP Chol f92):=wZ (code:=_) zap ⟨func92,by kernel_rfl,rfl,by kernel_rfl⟩
theorem MH(b:Bk)(l:List za)(hb:b.cb≤zG)(J:Bool)(Y0:Hp)(Z0 id m g:Nat)(hid:id<Z0)(hmd:m<Z0)(W:id≠m)(M:Y0 id=some (KI b m g J))(hm0:Y0 m=some (W5 l)) :
  ∃x Y' Z',wP Chol f92 [.ref id 0 0] Y0 Z0=some (x,Y',Z')∧ZS (int (jA b.zk [] l b.holds).1) (jA b.zk [] l b.holds).2 m Y0 Z0 x Y' Z':=by
 unfold wP;rw[zf (by simp[f92])];refine zT rfl ?_;have hlen:=qJ JF b.holds;have TN:=qJ xa b.zk;have Om:b.cb=wg wh.cb b.zk+wg yI.cb b.holds+wg Xp.cb b.zE:=rfl;unfold zG at hb;have hc:=M;rw[Z1]at hc;simp[hc];refine zQ (fun k t Y Z=>t 0=.ref id 0 0∧t 16=.sl 4 (b.holds.map yI.V)∧t 17=int b.holds.length∧t 18=int k∧Z0≤Z∧(∀j,j<Z0→j≠m→Y j=Y0 j)∧∃(c:za) (l':List za),t 3=str c∧Y m=some (W5 l')∧jA b.zk [] l b.holds=jA b.zk c l' (b.holds.drop k)) b.holds.length
  ⟨by simp,by simp,by simp,by simp,ze _,fun _ _ _=>rfl,[],l,by simp,hm0,by simp⟩ ?_
 rintro k t Y Z hk ⟨z,e,n,o,X,d,c,l',R,I,r⟩;by_cases w:k<b.holds.length
 ·obtain⟨x,N⟩:∃x,b.holds[k]=x:=⟨_,rfl⟩;have Oj:=yg (f:=yI.cb) (zm w);rw[N]at Oj;have Tn:x.cb=1+x.name.length+x.qI.length+wg (fun s=>1+s.length) x.zk:=rfl;have Tv:=qJ (f:=fun s:List UInt8=>1+s.length) (fun _=>by omega) x.zk;rw[zd w,N]at r;simp only[jA]at r;have hw:i6.wrap ((k:Int)+1)=(k:Int)+1:=zn (by omega) (by omega);have C:=fun Y Z=>fV (fun a b=>int (kb a b)) x.name c Y Z (by unfold zG;omega) (by simp)
  have nm:¬m=Z:=by omega
  have ni:¬id=Z:=by omega
  have u:qZ Y Z (some ⟨71,4,false,[x.V]⟩) id=some (KI b m g J):=by rw[zw _ _ _ _ ni,d id hid W];exact M
  have hmi:qZ Y Z (some ⟨71,4,false,[x.V]⟩) m=some (W5 l'):=by rw[zw _ _ _ _ nm];exact I
  have D:=nR b l' x.qI (by unfold zG;omega) J _ (Z+1) id m g u hmi;simp only[yI.V]at D;have A:¬Z=m:=by omega
  by_cases Q:kb x.name c=0
  case neg=>
   rw[zj Q]at r;have H9:(kb x.name c != 0)=true:=by simpa using Q
   simp[z,R,e,n,o,w,N,yI.V,C,H9,f92,ZS,r];exact⟨by omega,by rw[zw _ _ _ _ nm];exact I,fun j B p=>by rw[zw _ _ _ _ (by omega)];exact d j B p⟩
  rw[zf Q]at r;by_cases S:jJ l' x.qI=0
  case neg=>
   rw[zj S]at r;have c2':(jJ l' x.qI != 0)=true:=by simpa using S
   simp[z,R,e,n,o,w,N,yI.V,C,Q,D,c2',f92,ZS,r];exact⟨by omega,fun j B p=>by rw[zw _ _ _ _ p,zw _ _ _ _ (by omega)];exact d j B p⟩
  rw[zf S]at r;cases T:jg x.buckets 1 100000
  ·have hf:dV b.zk x=1:=by unfold dV;rw[T,zj (by simp)]
   rw[hf,zj (by decide)]at r;simp[z,R,e,n,o,w,N,yI.V,C,Q,D,S,T,A,f92,ZS,r];exact⟨by omega,fun j B p=>by rw[zw _ _ _ _ p,zw _ _ _ _ (by omega)];exact d j B p⟩
  by_cases c4:x.zk.length=0
  ·have hf:dV b.zk x=9:=by unfold dV;rw[T,zf rfl,zf c4]
   rw[hf,zj (by decide)]at r;have v:(qd x.zk).length=0:=by simpa[qd]using c4
   simp[z,R,e,n,o,w,N,yI.V,v,C,Q,D,S,T,A,f92,ZS,r];exact⟨by omega,fun j B p=>by rw[zw _ _ _ _ p,zw _ _ _ _ (by omega)];exact d j B p⟩
  have hf:dV b.zk x=xS b.zk none x.zk:=by unfold dV;rw[T,zf rfl,zj c4]
  rw[hf]at r;have c4':((x.zk.length:Int)==0)=false:=by rw[q7];omega
  have v:(qd x.zk).length=x.zk.length:=by simp[qd]
  simp[z,R,e,n,o,w,N,yI.V,v,C,Q,D,S,T,c4',A];obtain⟨P,hP⟩:∃P,Z=P:=⟨_,rfl⟩;rw[hP];refine zQ (fun i t Y Z=>t 0=.ref id 0 0∧t 16=.sl 4 (b.holds.map yI.V)∧t 17=int b.holds.length∧t 18=int k∧t 5=.ref P 0 0∧t 47=.sl 1 (qd x.zk)∧t 48=int x.zk.length∧t 49=int i∧Z0≤P∧P<Z∧Y P=some ⟨71,4,false,[x.V]⟩∧(∀j,j<Z0→j≠m→Y j=Y0 j)∧Y m=some (W5 (xn l' x.qI))∧xS b.zk none x.zk=xS b.zk (Qi x.zk i) (x.zk.drop i)) x.zk.length
   ⟨by simp[z],by simp[e],by simp[n],by simp[o],by simp,by simp,by simp,by simp,by omega,(by show P<P+1;omega),by simp[yI.V,show¬P=m by omega],fun j B p=>by simp only;rw[zw _ _ _ _ p,zw _ _ _ _ (by omega)];exact d j B p,by simp,by simp[Qi]⟩ ?_
  clear z R e n o X d I D u hmi C nm ni A hP t Y Z;rintro i t Y Z hi ⟨z,e,n,o,h5,F,G,H,hP,hPn,E,d,I,y⟩;have u:Y id=some (KI b m g J):=by rw[d id hid W];exact M
  rw[Z1]at u;by_cases q:i<x.zk.length
  ·obtain⟨s,hs⟩:∃s,x.zk[i]=s:=⟨_,rfl⟩;have hms:=yg (f:=fun s:List UInt8=>1+s.length) (zm q);rw[hs]at hms;have hpn:Qi x.zk (i+1)=some s:=by simp[Qi,q,hs]
   rw[zd q,hs]at y;simp only[xS]at y;have K:∀h:i<(qd x.zk).length,(qd x.zk)[i]=[str s]:=fun h=>by simp[qd,hs]
   have L:=fun Y Z=>KG b.zk s Y Z (by unfold zG;omega)
   have hwi:i6.wrap ((i:Int)+1)=(i:Int)+1:=zn (by omega) (by omega);have v:i<(qd x.zk).length:=by simp[qd,q]
   cases U:(vd (b.zk.map wh.name) s).2
   ·rw[U,zj (by simp)]at y;rw[y,zj (by decide)]at r;simp[z,h5,e,n,o,F,G,H,q,v,K,u,L,U,r,f92,ZS];exact⟨by omega,I,d⟩
   rw[U,zf rfl]at y;by_cases k0:i=0
   ·subst k0;rw[show leP (Qi x.zk 0) s=false from rfl,zj (by simp)]at y;simp[z,h5,e,n,o,F,G,H,q,v,K,u,L,U,hwi];exact⟨by omega,hP,hPn,E,d,I,by rw[y,show Qi x.zk 1=some s from hpn];simp⟩
   ·obtain⟨j,rfl⟩:∃j,i=j+1:=⟨i-1,by omega⟩;have B:j<x.zk.length:=by omega
    have hej:j<(qd x.zk).length:=by simp[qd,B]
    have hkj:∀h:j<(qd x.zk).length,(qd x.zk)[j]=[str x.zk[j]]:=fun h=>by simp[qd]
    have wj:i6.wrap ((j:Int)+1-1)=(j:Int):=by rw[zn (by omega) (by omega)];omega
    have wj':i6.wrap (j:Int)=(j:Int):=zn (by omega) (by omega);have wk:i6.wrap ((j:Int)+1+1)=(j:Int)+1+1:=zn (by omega) (by omega);have j1:((j:Int)+1).toNat=j+1:=by omega
    have j2:0<(j:Int)+1:=by omega
    have j3:0≤(j:Int)+1:=by omega
    have j4:(j:Int)+1<x.zk.length:=by omega
    have hlp:leP (Qi x.zk (j+1)) s=fg s x.zk[j]:=by simp[Qi,B,leP]
    rw[hlp]at y;have hle:(Op.bytesLess s x.zk[j]||s==x.zk[j])=fg s x.zk[j]:=rfl;rw[yI.V]at E;cases d2:fg s x.zk[j]
    ·rw[d2,zj (by simp)]at y;simp[z,h5,e,n,o,F,G,H,q,v,K,u,L,U,wj,wj',wk,j1,j2,j3,j4,E,hej,hkj,hle,d2,B];exact⟨by omega,hP,hPn,rfl,d,I,by rw[y,hpn]⟩
    ·rw[d2,zf rfl]at y;rw[y,zj (by decide)]at r;simp[z,h5,e,n,o,F,G,H,q,v,K,u,L,U,wj,wj',wk,j1,j2,j3,j4,E,hej,hkj,hle,d2,B,r,f92,ZS];exact⟨by omega,I,d⟩
  ·obtain rfl:i=x.zk.length:=by omega
   rw[zl]at y;simp only[xS]at y;rw[y,zf rfl]at r;have hnP:¬P=m:=by omega
   rw[yI.V]at E;simp[z,h5,e,n,o,F,G,H,E,hw];exact⟨by omega,by omega,d,_,I,r⟩
 ·obtain rfl:k=b.holds.length:=by omega
  rw[zl]at r;simp only[jA]at r;simp[z,e,n,o,f92,ZS,r];exact⟨X,I,d⟩
noncomputable abbrev Cnam:Ctx:=qb prog []
theorem zaq:AM.Good Cnam (fun g=>[163].contains g):=zI mixed trivial
theorem DY:zg prog 125 (wP Cnam f125):=wZ (code:=_) zaq ⟨func125,by kernel_rfl,rfl,by kernel_rfl⟩
theorem MI(b:Bk)(c:wV)(Y:Hp)(Z id m g:Nat)(hid:id<Z)(a:Y id=some (KI b m g true)) :
  ∃Y',wP Cnam f125 [.ref id 0 0,.agg c.V] Y Z=some (wq true,Y',Z+2)∧∀j,j<Z→Y' j=Y j:=by
 unfold wP;rw[zf (by simp[f125])];refine⟨qZ (qZ Y Z (some ⟨86,1,false,[[.ref id 0 0]]⟩)) (Z+1) (some ⟨30,7,false,[c.V]⟩),?_,fun j e=>by rw[zw _ _ _ _ (by omega),zw _ _ _ _ (by omega)]⟩;refine kU rfl ?_;rw[Z1]at a;have n1:¬id=Z:=by omega
 have d:¬id=Z+1:=by omega
 simp[yU,a,n1,d,f125]
noncomputable def Z9 (L:List wh) (a:za) (l:List za) (x:Xp):Int×List za:=
 if kb x.name a=0 then(if(vd (L.map wh.name) x.qi).2=true then(if yn x.flag=true then(if x.cond.check=0 then(if jJ l x.qI=0 then(if vo x.jX 20=0 then(je x.zs,xn l x.qI)else(vo x.jX 20,xn l x.qI))else(jJ l x.qI,xn l x.qI))else(x.cond.check,l))else(5,l))else(9,l))else(kb x.name a,l)
noncomputable abbrev Cexp:Ctx:=qb prog [(121,zi false [] (Rb fun a b=>int (kb a b))),(15,zi false [] GX),(123,zi false [] (FS yn)),(124,GC fun c=>int c.check),(125,wP Cnam f125),(122,wP MG f122),(126,zi false [] (FRN (fun l n=>int (vo l n)) fun _ n=>1≤n∧n≤20)),(127,zi false [] (FPh fun l=>int (je l)))]
theorem zar:AM.Good Cexp (fun g=>[15].contains g):=zI mixed ⟨W0,by simp,KH,fun _=>zt _ _,Yo,by simp,Au,by simp,DY,by simp,cr,by simp,dT,by simp,Az,by simp,trivial⟩
theorem fZ:zg prog 93 (wP Cexp f93):=wZ (code:=_) zar ⟨func93,by kernel_rfl,rfl,by kernel_rfl⟩
theorem nS(b:Bk)(l:List za)(d:za)(x:Xp)(W:b.cb≤zG)(J:x.cb≤zG)(Y0:Hp)(Z0 id m g:Nat)(hid:id<Z0)(X:m<Z0)(hne:id≠m)(B:Y0 id=some (KI b m g true))(p:Y0 m=some (W5 l)) :
  ∃S Y' T,wP Cexp f93 [.ref id 0 0,.agg x.V,str d] Y0 Z0=some (S,Y',T)∧ZS (int (Z9 b.zk d l x).1) (Z9 b.zk d l x).2 m Y0 Z0 S Y' T:=by
 unfold wP;rw[zf (by simp[f93])];refine zT rfl ?_;have U:=qJ xa b.zk;have Om:b.cb=wg wh.cb b.zk+wg yI.cb b.holds+wg Xp.cb b.zE:=rfl;have Tn:x.cb=x.name.length+x.qi.length+x.flag.length+x.cond.cb+x.qI.length+x.jX.length+wg wc.cb x.zs:=rfl;unfold zG at W J;have G:¬m=Z0:=by omega
 have y:¬id=Z0:=by omega
 have f:=fun Y Z=>fV (fun a b=>int (kb a b)) x.name d Y Z (by unfold zG;omega) (by simp)
 have i:=fun Y Z=>KG b.zk x.qi Y Z (by unfold zG;omega)
 have q:x.flag.length≤zG:=by unfold zG;omega
 have r:=fun Y Z=>Wu (fun c=>int c.check) x.cond Y Z (by unfold zG;omega)
 have H:=fun Y Z=>DJ (fun l n=>int (vo l n)) (fun _ n=>1≤n∧n≤20) x.jX 20 Y Z ⟨by omega,by omega⟩
 have K:=fun Y Z=>DP (fun l=>int (je l)) x.zs Y Z (by unfold zG;omega)
 obtain⟨Y1,s,v⟩:=MI b x.cond (qZ Y0 Z0 (some ⟨34,13,false,[x.V]⟩)) (Z0+1) id m g (by omega) (by rw[zw _ _ _ _ y];exact B);have L:Y1 id=some (KI b m g true):=by rw[v id (by omega),zw _ _ _ _ y];exact B
 have M:Y1 m=some (W5 l):=by rw[v m (by omega),zw _ _ _ _ G];exact p
 have w:Y1 Z0=some ⟨34,13,false,[x.V]⟩:=by rw[v Z0 (by omega)];simp
 have C:∀j,j<Z0→Y1 j=Y0 j:=fun j t=>by rw[v j (by omega),zw _ _ _ _ (by omega)]
 have D:=nR b l x.qI (by unfold zG;omega) true Y1 (Z0+1+2) id m g L M;have z:¬Z0=m:=by omega
 have E:=B;rw[Z1]at E;rw[zZ]at s w;rw[yU]at s;simp only[yU]at r;rw[zZ];by_cases h:kb x.name d=0
 case neg=>
  have k:Z9 b.zk d l x=(kb x.name d,l):=by unfold Z9;rw[zj h]
  have N:(kb x.name d != 0)=true:=by simpa using h
  simp[f,N,k,f93,ZS];exact⟨by rw[zw _ _ _ _ G];exact p,fun j t e=>by rw[zw _ _ _ _ (by omega)]⟩
 cases o:(vd (b.zk.map wh.name) x.qi).2
 ·have k:Z9 b.zk d l x=(9,l):=by unfold Z9;rw[zf h,o,zj (by simp)]
  simp[f,h,y,E,i,o,k,f93,ZS];exact⟨by rw[zw _ _ _ _ G];exact p,fun j t e=>by rw[zw _ _ _ _ (by omega)]⟩
 cases u:yn x.flag
 ·have k:Z9 b.zk d l x=(5,l):=by unfold Z9;rw[zf h,o,zf rfl,u,zj (by simp)]
  simp[f,h,y,E,i,o,q,u,k,f93,ZS];exact⟨by rw[zw _ _ _ _ G];exact p,fun j t e=>by rw[zw _ _ _ _ (by omega)]⟩
 by_cases A:x.cond.check=0
 case neg=>
  have k:Z9 b.zk d l x=(x.cond.check,l):=by unfold Z9;rw[zf h,o,zf rfl,u,zf rfl,zj A]
  have P:(x.cond.check != 0)=true:=by simpa using A
  simp[f,h,y,E,i,o,q,u,r,P,k,f93,ZS];exact⟨by rw[zw _ _ _ _ G];exact p,fun j t e=>by rw[zw _ _ _ _ (by omega)]⟩
 by_cases F:jJ l x.qI=0
 case neg=>
  have k:Z9 b.zk d l x=(jJ l x.qI,xn l x.qI):=by unfold Z9;rw[zf h,o,zf rfl,u,zf rfl,zf A,zj F]
  have Q:(jJ l x.qI != 0)=true:=by simpa using F
  simp[f,h,y,E,i,o,q,u,r,A,s,w,D,Q,k,f93,ZS];exact⟨by omega,fun j t e=>by rw[zw _ _ _ _ e];exact C j t⟩
 by_cases I:vo x.jX 20=0
 case neg=>
  have k:Z9 b.zk d l x=(vo x.jX 20,xn l x.qI):=by unfold Z9;rw[zf h,o,zf rfl,u,zf rfl,zf A,zf F,zj I]
  have R:(vo x.jX 20 != 0)=true:=by simpa using I
  simp[f,h,y,E,i,o,q,u,r,A,s,w,z,D,F,H,R,k,f93,ZS];exact⟨by omega,fun j t e=>by rw[zw _ _ _ _ e];exact C j t⟩
 ·have k:Z9 b.zk d l x=(je x.zs,xn l x.qI):=by unfold Z9;rw[zf h,o,zf rfl,u,zf rfl,zf A,zf F,zf I]
  simp[f,h,y,E,i,o,q,u,r,A,s,w,z,D,F,H,I,K,k,f93,ZS];exact⟨by omega,fun j t e=>by rw[zw _ _ _ _ e];exact C j t⟩
def aR(x:Xp):jz:=⟨34,13,false,[x.V]⟩
def MJ(n:Int):jz:=⟨3,1,false,[[int n]]⟩
def dW(x:Xp)(a:Int)(y:Xp):Bool:=decide (y.qi=x.qi)&&J3 x y a
noncomputable abbrev Ccl1:Ctx:=qb prog [(130,zi false [] G5)]
theorem zas:AM.Good Ccl1 (fun g=>[130].contains g):=zI mixed ⟨DW,fun _=>zt _ _,trivial⟩
theorem G8:zg prog 129 (wP Ccl1 f129):=wZ (code:=_) zas ⟨func129,by kernel_rfl,rfl,by kernel_rfl⟩
theorem Rk(x y:Xp)(rest:Int)(i:x.rX)(j:y.rX)(g:0≤rest∧rest≤100000000)(Y:Hp)(Z b c:Nat)(k:b<Z)(l:c<Z)(bx:Y b=some (aR x))(e:Y c=some (MJ rest)) :
  wP Ccl1 f129 [.agg y.V,.ref b 0 0,.ref c 0 0] Y Z=some (wq (dW x rest y),qZ Y Z (some (aR y)),Z+1):=by
 unfold wP;rw[zf (by simp[f129])];refine kU rfl ?_;have n1:¬b=Z:=by omega
 have h:¬c=Z:=by omega
 have a:=fun Y Z=>DT x y rest Y Z ⟨i,j,g.1,g.2⟩
 rw[aR,zZ]at bx;rw[MJ]at e;simp only[zZ]at a;by_cases d:y.qi=x.qi
 ·have hd:(y.qi==x.qi)=true:=by simpa using d
  have f:dW x rest y=J3 x y rest:=by simp[dW,d]
  simp[zZ,aR,n1,h,bx,e,hd,a,f,f129]
 ·have hd:(y.qi==x.qi)=false:=by simpa using d
  have f:dW x rest y=false:=by simp[dW,d]
  simp[zZ,aR,n1,h,bx,e,hd,f,f129]
def ga(x:Xp)(a:Int):Nat→List Xp→Int
 |_,[]=>-1
 |k,y::l=>if dW x a y=true then k else ga x a (k+1) l
theorem DZ(x:Xp)(a:Int):∀(l:List Xp) (k:Nat),decide (0≤ga x a k l)=l.any (dW x a)
 |[],k=>by simp[ga]
 |s::l,k=>by
  by_cases h:dW x a s=true
  ·have e:ga x a k (s::l)=k:=by simp only[ga,zf h]
   rw[e,yy,h];simp
  ·have e:ga x a k (s::l)=ga x a (k+1) l:=by simp only[ga,zj h]
   rw[e,DZ x a l (k+1),yy,eP.2 h];rfl
noncomputable abbrev Cxix:Ctx:=qb prog [(129,wP Ccl1 f129)]
theorem zat:AM.Good Cxix (fun g=>([]:List Nat).contains g):=zI mixed ⟨G8,by simp,trivial⟩
theorem MK:zg prog 167 (wP Cxix f167):=wZ (code:=_) zat ⟨func167,by kernel_rfl,rfl,by kernel_rfl⟩
def T7(a b:Nat):O:=.fn (.func 129) [] [.ref a 0 0,.ref b 0 0]
def tk(r:O)(Y:Hp)(Z:Nat)(x:O)(Y':Hp)(a:Nat):Prop:=x=r∧Z≤a∧∀j,j<Z→Y' j=Y j
theorem zau(l:List Xp)(x:Xp)(a:Int)(z:l.length≤zG)(hs:∀s∈l,s.rX)(A:x.rX)(B:0≤a∧a≤100000000)(Y0:Hp)(Z0 f g:Nat)(m:f<Z0)(n:g<Z0)(bx:Y0 f=some (aR x))(C:Y0 g=some (MJ a)) :
  ∃v Y' w,wP Cxix f167 [.sl 13 (l.map Xp.V),T7 f g] Y0 Z0=some (v,Y',w)∧tk (int (ga x a 0 l)) Y0 Z0 v Y' w:=by
 unfold wP;rw[zf (by simp[f167])];refine zT rfl ?_;unfold zG at z;simp[T7];refine zQ (fun k h Y Z=>h 0=.sl 13 (l.map Xp.V)∧h 1=T7 f g∧h 7=int l.length∧h 8=int k∧Z0≤Z∧(∀j,j<Z0→Y j=Y0 j)∧ga x a 0 l=ga x a k (l.drop k)) l.length ⟨by simp,by simp[T7],by simp,by simp,ze _,fun _ _=>rfl,by simp⟩ ?_;rintro k h Y Z D ⟨o,p,q,r,t,c,e⟩;by_cases d:k<l.length
 ·have y:i6.wrap ((k:Int)+1)=(k:Int)+1:=zn (by omega) (by omega);have b:=Rk x l[k] a A (hs _ (zm d)) B Y Z f g (by omega) (by omega) (by rw[c f m];exact bx) (by rw[c g n];exact C);simp only[zZ]at b;rw[zd d]at e;simp only[ga]at e;cases i:dW x a l[k]
  ·rw[i,zj (by simp)]at e;rw[i]at b;simp[o,p,q,r,T7,d,zZ,b,y];exact⟨d,by omega,fun j u=>by rw[zw _ _ _ _ (by omega)];exact c j u,e⟩
  ·rw[i,zf rfl]at e;rw[i]at b;simp[o,p,q,r,T7,d,zZ,b,y,f167];exact⟨by rw[e],by omega,fun j u=>by rw[zw _ _ _ _ (by omega)];exact c j u⟩
 ·obtain rfl:k=l.length:=by omega
  rw[zl]at e;simp only[ga]at e;simp[o,p,q,r,f167];exact⟨by rw[e],t,c⟩
noncomputable abbrev Cxtn:Ctx:=qb prog [(167,wP Cxix f167)]
theorem zav:AM.Good Cxtn (fun g=>([]:List Nat).contains g):=zI mixed ⟨MK,by simp,trivial⟩
theorem ML:zg prog 128 (wP Cxtn f128):=wZ (code:=_) zav ⟨func128,by kernel_rfl,rfl,by kernel_rfl⟩
theorem zaw(l:List Xp)(x:Xp)(a:Int)(i:l.length≤zG)(hs:∀s∈l,s.rX)(j:x.rX)(k:0≤a∧a≤100000000)(Y0:Hp)(Z0 b c:Nat)(d:b<Z0)(e:c<Z0)(bx:Y0 b=some (aR x))(m:Y0 c=some (MJ a)) :
  ∃f Y' g,wP Cxtn f128 [.sl 13 (l.map Xp.V),T7 b c] Y0 Z0=some (f,Y',g)∧tk (wq (l.any (dW x a))) Y0 Z0 f Y' g:=by
 unfold wP;rw[zf (by simp[f128])];refine zT rfl ?_;obtain⟨f,Y',g,h,n,o,p⟩:=zau l x a i hs j k Y0 Z0 b c d e bx m;subst n;have q:=DZ x a l 0;simp only[T7]at h;simp[T7,h,q,tk,o,f128];exact p
theorem slX(Y:Hp)(l:List Xp)(k:Nat)(h:k≤l.length):js prog Y 24 (.sl 13 (l.map Xp.V)) none (some (some (int k)))=some (.sl 13 ((l.take k).map Xp.V)):=by simp[js,h]
noncomputable def kG (L:List wh) (s:za):Int:=match L[(vd (L.map wh.name) s).1]? with
 |some y=>y.rest
 |none=>0
noncomputable def V6 (L:List wh) (a:List Xp):Nat→List Xp→Bool
 |_,[]=>false
 |i,x::l=>(a.take i).any (dW x (kG L x.qi))||V6 L a (i+1) l
noncomputable abbrev Ccls:Ctx:=qb prog [(15,zi false [] GX),(128,wP Cxtn f128)]
theorem zax:AM.Good Ccls (fun g=>[15].contains g):=zI mixed ⟨KH,fun _=>zt _ _,ML,by simp,trivial⟩
theorem re:zg prog 94 (wP Ccls f94):=wZ (code:=_) zax ⟨func94,by kernel_rfl,rfl,by kernel_rfl⟩
theorem D0(b:Bk)(U:b.cb≤zG)(hs:∀x∈b.zE,x.rX∧(vd (b.zk.map wh.name) x.qi).2=true)(W:∀y∈b.zk,0≤y.rest∧y.rest≤100000000)(r:Bool)(Y0:Hp)(Z0 id m g:Nat)(hid:id<Z0)(t:Y0 id=some (KI b m g r)) :
  ∃G Y' H,wP Ccls f94 [.ref id 0 0] Y0 Z0=some (G,Y',H)∧tk (wq (V6 b.zk b.zE 0 b.zE)) Y0 Z0 G Y' H:=by
 unfold wP;rw[zf (by simp[f94])];refine zT rfl ?_;have P:=qJ ZG b.zE;have Q:=qJ xa b.zk;have X:b.cb=wg wh.cb b.zk+wg yI.cb b.holds+wg Xp.cb b.zE:=rfl;unfold zG at U;have R:=t;rw[Z1]at R;simp[R];refine zQ (fun k u Y Z=>u 0=.ref id 0 0∧u 12=.sl 13 (b.zE.map Xp.V)∧u 13=int b.zE.length∧u 14=int k∧Z0≤Z∧(∀j,j<Z0→Y j=Y0 j)∧V6 b.zk b.zE 0 b.zE=V6 b.zk b.zE k (b.zE.drop k)) b.zE.length
  ⟨by simp,by simp,by simp,by simp,ze _,fun _ _=>rfl,by simp⟩ ?_
 rintro k u Y Z hk ⟨I,h,i,l,J,n,a⟩;by_cases c:k<b.zE.length
 ·obtain⟨x,C⟩:∃x,b.zE[k]=x:=⟨_,rfl⟩;have v:x∈b.zE:=by rw[←C];exact zm c
  obtain⟨K,L⟩:=hs x v;have Oj:=yg (f:=Xp.cb) v;have Tn:x.cb=x.name.length+x.qi.length+x.flag.length+x.cond.cb+x.qI.length+x.jX.length+wg wc.cb x.zs:=rfl;rw[zd c,C]at a;simp only[V6]at a;have S:i6.wrap ((k:Int)+1)=(k:Int)+1:=zn (by omega) (by omega);have w:=fun Y Z=>KG b.zk x.qi Y Z (by unfold zG;omega)
  obtain⟨q,D⟩:∃q,(vd (b.zk.map wh.name) x.qi).1=q:=⟨_,rfl⟩;have d:q<b.zk.length:=by have:=J2 L;rw[D]at this;simpa using this
  obtain⟨y,E⟩:∃y,b.zk[q]=y:=⟨_,rfl⟩;have M:=W y (by rw[←E];exact zm d);have o:kG b.zk x.qi=y.rest:=by unfold kG;rw[D,zu d,E]
  rw[o]at a;have T:¬id=Z:=by omega
  have z:¬id=Z+1:=by omega
  have p:Y id=some (KI b m g r):=by rw[n id hid];exact t
  rw[Z1]at p;obtain⟨G,Y',H,A,h2,h3,h4⟩:=zaw (b.zE.take k) x y.rest (by unfold zG;simp;omega) (fun s N=>(hs s (xG N)).1) K M (qZ (qZ Y Z (some (aR x))) (Z+1) (some (MJ y.rest))) (Z+1+1) Z (Z+1) (by omega) (by omega) (by rw[zw _ _ _ _ (by omega)];simp) (by simp);subst h2;simp only[T7,aR,MJ,zZ,List.map_take]at A;have e:∀j,j<Z0→Y' j=Y0 j:=fun j hj=>by rw[h4 j (by omega),zw _ _ _ _ (by omega),zw _ _ _ _ (by omega)];exact n j hj
  have B:=fun Y=>slX Y b.zE k (by omega)
  cases F:(b.zE.take k).any (dW x y.rest)
  ·rw[F,jo]at a;rw[F]at A;simp[I,h,i,l,c,C,zZ,T,z,p,w,D,d,E,wh.V,B,A,S];exact⟨by omega,by omega,e,a⟩
  ·rw[F,eM]at a;rw[F]at A;simp[I,h,i,l,c,C,zZ,T,z,p,w,D,d,E,wh.V,B,A,S,f94,tk,a];exact⟨by omega,e⟩
 ·obtain rfl:k=b.zE.length:=by omega
  rw[zl]at a;simp only[V6]at a;simp[I,h,i,l,f94,tk,a];exact⟨J,n⟩
noncomputable def Qj (L:List wh):za→List za→List Xp→Int×List za
 |_,l,[]=>(0,l)
 |before,l,x::xs=>if(Z9 L before l x).1=0 then Qj L x.name (Z9 L before l x).2 xs else Z9 L before l x
noncomputable def qQ (b:Bk):Int:=
 if(20:Int)<b.zk.length∨(10:Int)<b.holds.length∨(100:Int)<b.zE.length then 2
 else if(ym [] [] b.zk).1=0 then
  (if(jA b.zk [] (ym [] [] b.zk).2 b.holds).1=0 then
   (if(Qj b.zk [] (jA b.zk [] (ym [] [] b.zk).2 b.holds).2 b.zE).1=0 then(if V6 b.zk b.zE 0 b.zE=true then 13 else 0)
    else(Qj b.zk [] (jA b.zk [] (ym [] [] b.zk).2 b.holds).2 b.zE).1)
   else(jA b.zk [] (ym [] [] b.zk).2 b.holds).1)
 else(ym [] [] b.zk).1
theorem ZA(n lo hi:Int):jg n lo hi=true↔lo≤n∧n≤hi:=by simp[jg]
theorem KJ:∀{xs:List wh} {a:za} {l:List za},(ym a l xs).1=0→∀y∈xs,0≤y.rest∧y.rest≤100000000
 |[],_,_,_,y,b=>by simp at b
 |x::xs,a,l,h,y,b=>by
  simp only[ym]at h;split at h
  ·split at h
   ·split at h
    ·rename_i d;rcases zL.1 b with rfl|b
     ·exact(ZA _ _ _).1 d
     ·exact KJ h y b
    ·exact absurd h (by simp)
   ·rename_i c;exact absurd h c
  ·rename_i c;exact absurd h c
theorem Rl:∀{xs:List wc} {p:Option Int} {b:List Sp},DN p b xs=0→VB xs
 |[],_,_,_,y,a=>by simp at a
 |x::xs,p,b,h,y,a=>by
  simp only[DN]at h;split at h
  ·rename_i d;split at h
   ·exact absurd h (by simp)
   ·split at h
    ·split at h
     ·exact absurd h (by simp)
     ·rcases zL.1 a with rfl|a
      ·exact(ZA _ _ _).1 d
      ·exact Rl h y a
    ·rename_i c;exact absurd h c
  ·exact absurd h (by simp)
theorem Wj{l:List wc}(h:je l=0):VB l:=by
 unfold je at h;split at h
 ·exact absurd h (by simp)
 ·exact Rl h
theorem AD{L:List wh}{a:za}{l:List za}{x:Xp}(h:(Z9 L a l x).1=0):je x.zs=0∧(vd (L.map wh.name) x.qi).2=true∧vo x.jX 20=0∧x.cond.check=0∧kb x.name a=0:=by
 unfold Z9 at h;split at h
 ·rename_i b;split at h
  ·rename_i d;split at h
   ·split at h
    ·rename_i e;split at h
     ·split at h
      ·rename_i f;exact⟨h,d,f,e,b⟩
      ·rename_i c;exact absurd h c
     ·rename_i c;exact absurd h c
    ·rename_i c;exact absurd h c
   ·exact absurd h (by simp)
  ·exact absurd h (by simp)
 ·rename_i c;exact absurd h c
theorem lN{L:List wh}:∀{xs:List Xp} {a:za} {l:List za},(Qj L a l xs).1=0→∀y∈xs,je y.zs=0∧(vd (L.map wh.name) y.qi).2=true
 |[],_,_,_,y,b=>by simp at b
 |x::xs,a,l,h,y,b=>by
  simp only[Qj]at h;split at h
  ·rename_i c;rcases zL.1 b with rfl|b
   ·exact⟨(AD c).1,(AD c).2.1⟩
   ·exact lN h y b
  ·rename_i c;exact absurd h c
noncomputable abbrev Cchk:Ctx:=qb prog [(91,wP Clay f91),(92,wP Chol f92),(93,wP Cexp f93),(94,wP Ccls f94)]
theorem zay:AM.Good Cchk (fun g=>([]:List Nat).contains g):=zI mixed ⟨AB,by simp,DX,by simp,fZ,by simp,re,by simp,trivial⟩
theorem rf:zg prog 53 (wP Cchk f53):=wZ (code:=_) zay ⟨func53,by kernel_rfl,rfl,by kernel_rfl⟩
theorem MM(b:Bk)(hb:b.cb≤zG)(Y0:Hp)(Z0 id m g:Nat)(hid:id<Z0)(U:m<Z0)(d:id≠m)(u:Y0 id=some (KI b m g true))(W:Y0 m=some (W5 [])) :
  ∃X Y' Z',wP Cchk f53 [.ref id 0 0] Y0 Z0=some (X,Y',Z')∧X=int (qQ b):=by
 unfold wP;rw[zf (by simp[f53])];refine zT rfl ?_;have hlen:=qJ ZG b.zE;have TN:=qJ xa b.zk;have hleH:=qJ JF b.holds;have Om:b.cb=wg wh.cb b.zk+wg yI.cb b.holds+wg Xp.cb b.zE:=rfl;have l:=hb;unfold zG at hb;obtain⟨X,Y1,nx1,J,rfl,l3,l4,l5⟩:=G7 b [] l true Y0 Z0 id m g hid U d u W;have v:Y1 id=some (KI b m g true):=by rw[l5 id hid d];exact u
 obtain⟨F,w⟩:∃e,ym [] [] b.zk=e:=⟨_,rfl⟩;rw[w]at J l4;obtain⟨x2,Y2,Ol,Q,rfl,g3,g4,g5⟩:=MH b F.2 l true Y1 nx1 id m g (by omega) (by omega) d v l4;have y:Y2 id=some (KI b m g true):=by rw[g5 id (by omega) d];exact v
 obtain⟨z,K⟩:∃e,jA b.zk [] F.2 b.holds=e:=⟨_,rfl⟩;rw[K]at Q g4;obtain⟨e3,A⟩:∃e,Qj b.zk [] z.2 b.zE=e:=⟨_,rfl⟩;have s:=u;rw[Z1]at s;have i:=y;rw[Z1]at i;by_cases B:(20:Int)<b.zk.length
 ·have h:qQ b=2:=by unfold qQ;rw[zf (.inl B)]
  simp[s,B,h,f53]
 by_cases G:(10:Int)<b.holds.length
 ·have h:qQ b=2:=by unfold qQ;rw[zf (.inr (.inl G))]
  simp[s,B,G,h,f53]
 by_cases L:(100:Int)<b.zE.length
 ·have h:qQ b=2:=by unfold qQ;rw[zf (.inr (.inr L))]
  simp[s,B,G,L,h,f53]
 have c:qQ b=if F.1=0 then(if z.1=0 then(if e3.1=0 then(if V6 b.zk b.zE 0 b.zE=true then 13 else 0)else e3.1)else z.1)else F.1:=by unfold qQ;rw[zj (by omega),w,K,A]
 by_cases H:F.1=0
 case neg=>
  rw[zj H]at c;have H9:(F.1 != 0)=true:=by simpa using H
  simp[s,B,G,L,J,H9,c,f53]
 rw[zf H]at c;by_cases R:z.1=0
 case neg=>
  rw[zj R]at c;have c2':(z.1 != 0)=true:=by simpa using R
  simp[s,B,G,L,J,H,Q,c2',c,f53]
 rw[zf R]at c;simp[s,B,G,L,J,H,Q,R,i];refine zQ (fun k I Y Z=>I 0=.ref id 0 0∧I 48=.sl 13 (b.zE.map Xp.V)∧I 49=int b.zE.length∧I 50=int k∧Z0≤Z∧Y id=some (KI b m g true)∧∃(a:za) (l':List za),I 5=str a∧Y m=some (W5 l')∧e3=Qj b.zk a l' (b.zE.drop k)) b.zE.length
  ⟨by simp,by simp,by simp,by simp,by simp;omega,y,[],z.2,by simp,g4,by simp[A]⟩ ?_
 clear J l3 l4 l5 v Q g3 g4 g5 y i s;rintro k I Y Z hk ⟨S,n,o,p,hnx,C,a,l',h5,hm,j⟩;by_cases q:k<b.zE.length
 ·obtain⟨x,T⟩:∃x,b.zE[k]=x:=⟨_,rfl⟩;have Oj:=yg (f:=Xp.cb) (zm q);rw[T]at Oj;have nm:¬m=Z:=by omega
  have ni:¬id=Z:=by omega
  have hw:i6.wrap ((k:Int)+1)=(k:Int)+1:=zn (by omega) (by omega);rw[zd q,T]at j;simp only[Qj]at j;obtain⟨x3,D,nx3,t,rfl,q3,q4,q5⟩:=nS b l' a x l (by unfold zG;omega) (qZ Y Z (some (aR x))) (Z+1) id m g (by omega) (by omega) d (by rw[zw _ _ _ _ ni];exact C) (by rw[zw _ _ _ _ nm];exact hm);have hc3:D id=some (KI b m g true):=by rw[q5 id (by omega) d,zw _ _ _ _ ni];exact C
  have M:D Z=some (aR x):=by rw[q5 Z (by omega) (by omega)];simp
  simp only[aR,zZ]at t M;by_cases N:(Z9 b.zk a l' x).1=0
  case neg=>
   rw[zj N]at j;have h:qQ b=(Z9 b.zk a l' x).1:=by rw[c,j,zj N]
   have d1':((Z9 b.zk a l' x).1 != 0)=true:=by simpa using N
   simp[S,h5,n,o,p,q,T,zZ,t,d1',h,f53]
  ·rw[zf N]at j;simp[S,h5,n,o,p,q,T,zZ,t,N,M,hw];exact⟨by omega,by omega,hc3,_,q4,j⟩
 ·obtain rfl:k=b.zE.length:=by omega
  rw[zl]at j;simp only[Qj]at j;have hz:(Qj b.zk [] z.2 b.zE).1=0:=by rw[A,j]
  have hyr:=KJ (by rw[w];exact H);have P:=lN hz;obtain⟨x3,D,nx3,t,rfl,q3,q4⟩:=D0 b l (fun x E=>⟨⟨Wj (P x E).1,by have:=yg (f:=Xp.cb) E;unfold zG;omega⟩,(P x E).2⟩) hyr true Y Z id m g (by omega) C;have h:qQ b=if V6 b.zk b.zE 0 b.zE=true then 13 else 0:=by rw[c,j,zf rfl]
  cases r:V6 b.zk b.zE 0 b.zE
  ·rw[r,zj (by simp)]at h;rw[r]at t;simp[S,n,o,p,t,h,f53]
  ·rw[r,zf rfl]at h;rw[r]at t;simp[S,n,o,p,t,h,f53]
@[simp]theorem zhG(a:Nat→O):AM.get a (.const (.pointer none))=some (.v (.pointer none)):=rfl
theorem lf:zg prog 52 (wP C0 f52):=wZ (code:=_) w8 ⟨func52,by kernel_rfl,rfl,by kernel_rfl⟩
theorem ri(b:Bk)(Y0:Hp)(Z0:Nat):∃f Y' g,wP C0 f52 [.nil,.agg b.V] Y0 Z0=some (f,Y',g)∧f=.ref (Z0+1+1+1) 0 0∧g=Z0+1+1+1+1∧Y' (Z0+1)=some (W5 [])∧Y' (Z0+1+1+1)=some (KI b (Z0+1) (Z0+1+1) false):=by
 unfold wP;rw[zf (by simp[f52])];refine zT rfl ?_;simp[Bk.V,zR,qc];refine zQ (fun k a Y Z=>a 14=int 0∧a 15=int k∧a 5=.ref (Z0+1+1+1) 0 0∧Z=Z0+1+1+1+1∧Y (Z0+1)=some (W5 [])∧Y (Z0+1+1+1)=some (KI b (Z0+1) (Z0+1+1) false)) 0
  ⟨by simp,by simp,by simp,by simp,by simp[W5,AA],by simp[Z1]⟩ ?_
 rintro k a Y Z l ⟨c,d,h,e,i,j⟩;obtain rfl:k=0:=by omega
 simp[c,d,h,e,f52];exact⟨i,j⟩
noncomputable def pF (out:Bk→O):zc→Option O:=qv (α:=Bk) (fun b=>[.agg b.V]) (fun b=>b.cb≤zG) out
theorem XJ(out:Bk→O)(b:Bk)(Y:Hp)(Z:Nat)(h:b.cb≤zG):zi false [] (pF out) [.agg b.V] Y Z=some (out b,Y,Z):=
 qe (Y1:=Y) (show zA Y [.agg b.V]=some ([.agg b.V],Y) by simp[Bk.V]) (zJ (V:=fun b:Bk=>[.agg b.V]) (a:=b) (fun a b e=>by simp only[zh,zK,O.agg.injEq]at e;exact vk e) h) (.inr (by simp[Bk.V]))
noncomputable abbrev Cxcb:Ctx:=qb prog [(52,wP C0 f52),(53,wP Cchk f53)]
theorem II:AM.Good Cxcb (fun g=>([]:List Nat).contains g):=zI mixed ⟨lf,by simp,rf,by simp,trivial⟩
theorem D1(b:Bk)(h:b.cb≤zG):zz Cxcb f13 [.agg b.V]=some (int (qQ b)):=by refine zo rfl ?_;obtain⟨i,Y1,e,a,rfl,rfl,f,c⟩:=ri b (qZ (fun _=>none) 0 (some ⟨26,3,false,[b.V]⟩)) 1;obtain⟨j,Y2,g,d,rfl⟩:=MM b h (qZ Y1 4 (some (KI b 2 3 true))) 5 4 2 3 (by omega) (by omega) (by omega) (by simp) (by rw[zw _ _ _ _ (by omega)];exact f);simp only[Bk.V]at a;rw[Z1]at c d;simp[Bk.V,a,c,d,wH,f13]
theorem tm:zg prog 13 (zi false [] (pF fun b=>int (qQ b))):=
 qq (fn:=f13) II ⟨_,func13,by kernel_rfl,rfl,by kernel_rfl⟩ false [] _ fun args r h=>by obtain⟨b,rfl,a,rfl⟩:=zr h;exact⟨by simp[f13],_,D1 b a,qm _⟩
end Go.Q
