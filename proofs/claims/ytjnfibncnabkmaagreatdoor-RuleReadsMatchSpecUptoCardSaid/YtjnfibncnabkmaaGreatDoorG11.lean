/- Lemmas. -/
import Derived.Laws.CopyRow
import Derived.Lib.Overlaps
import Derived.Lib.AppendZerosOnto
import Derived.Laws.NewBlocks
import Derived.Shelf.Spec.SlicesInsert
import Derived.Test.YtjnfibncnabkmaaGreatDoorG10
set_option maxRecDepth 100000
set_option maxHeartbeats 4000000
open Go Proofs Proofs.YtjnfibncnabkmaaGreatDoor Proofs.Tryz RowKit AM SpanLaw Q Zz
open Go.IntKind renaming i64→i6
namespace Go.AM
def bZ(sh:Sh)(r y z:O)(x:O)(Y:Hp)(_:Nat):Prop:=∃r0,(AM.freeze Y x).map (·.1)=some (.wL [r0,y,z])/\sh.fix r0=r
theorem pL{C:Ctx}{fn:Func}{code:Code}{args:zb}{sh:Sh}{r y z:O}(a:fn.body=some code)
  (h:Zl C code ⟨km args,fun _=>none,0⟩ (KO C.P fn (bZ sh r y z))):∃r0,zG C fn args=some r0/\wW r0 (.wL [r,y,z]):=by
 obtain⟨x,e,f,b,r0,c,d⟩:=w9 a h;exact⟨.wL [r0,y,z],by unfold zG;simp only[b];exact c,d ▸ (xB.cons (K0 sh r0) (.cons (wW.refl y) (.cons (wW.refl z) .nil))).wL⟩
end Go.AM
namespace Go.Q
def VJ(s:za):yC×Int×Bool:=if 3<(qt (Lib.cut s [45]).1 [46]).length then(cv,0,false)else
 match jk (wz,false) 0 (qt (Lib.cut s [45]).1 [46])with
 |none=>(cv,0,false)
 |some st=>if(xa s).any yA=true then(⟨st.1.n0,st.1.n1,st.1.n2,xa s⟩,0,false)else(⟨st.1.n0,st.1.n1,st.1.n2,xa s⟩,st.1.has,(!(Lib.cut s [45]).2.2||st.1.has==3)&&decide ((xa s).length<=10))
def Ga(s:za):O:=.wL [.agg (VJ s).1.V,int (VJ s).2.1,yh (VJ s).2.2]
theorem Gb{st:Part×Bool}{k:Nat}{l:List za}(h:k<l.length):jk st k (l.drop k)=match jz st k l[k]with
  |some q=>jk q (k+1) (l.drop (k+1))
  |none=>none:=by
 rw[zl h];rfl
noncomputable abbrev Crrv:Ctx:=qj prog [(219,zn false [] (WV pg fun _ _=>True)),(107,jL [] FSp),(220,zn false [] FNm),(221,zn false [] (FS fun l=>!yA l))]
theorem zak:Gd Crrv:=qQ mixed ⟨mG,Wx,pA,uE,trivial⟩
theorem dN(t:za)(ht:t.length+1<=qg):∃r0,zG Crrv f168 [str t]=some r0/\wW r0 (Ga t):=by
 refine pL (sh:=.g vd) (r:=.agg (VJ t).1.V) (y:=int (VJ t).2.1) (z:=yh (VJ t).2.2) rfl ?_;have hcl:=Ol t [45];have u:=fun Y Z=>mF t [45] Y Z (by omega) (by decide)
 have E:=fun Y Z=>Z2 (Lib.cut t [45]).1 [46] Y Z (by omega) (by decide) (by decide)
 have v:=fun Y Z=>Z2 (Lib.cut t [45]).2.1 [46] Y Z (by omega) (by decide) (by decide)
 have G:∀p∈qt (Lib.cut t [45]).1 [46],p.length<=qg:=fun p Y=>by have:=vV Y;omega
 have H:∀p∈qt (Lib.cut t [45]).2.1 [46],p.length<=qg:=fun p Y=>by have:=vV Y;omega
 have I:(qt (Lib.cut t [45]).2.1 [46]).length<=qg:=by have:=xP (s:=(Lib.cut t [45]).2.1) (sep:=[46]) (by simp);omega
 have m:xa t=if(Lib.cut t [45]).2.2=true then qt (Lib.cut t [45]).2.1 [46]else[]:=rfl
 have a:VJ t=if 3<(qt (Lib.cut t [45]).1 [46]).length then(cv,0,false)else
   match jk (wz,false) 0 (qt (Lib.cut t [45]).1 [46])with
   |none=>(cv,0,false)
   |some st=>if(xa t).any yA=true then(⟨st.1.n0,st.1.n1,st.1.n2,xa t⟩,0,false)else(⟨st.1.n0,st.1.n1,st.1.n2,xa t⟩,st.1.has,(!(Lib.cut t [45]).2.2||st.1.has==3)&&decide ((xa t).length<=10)):=rfl
 obtain⟨l,hl⟩:=wM (qt (Lib.cut t [45]).1 [46]);obtain⟨n,w⟩:=wM (qt (Lib.cut t [45]).2.1 [46]);obtain⟨c1,c2,c3,hc⟩:∃c1 c2 c3,Lib.cut t [45]=(c1,c2,c3):=⟨_,_,_,rfl⟩;rw[hc]at u E v hl w m a G H I;simp only at u E v hl w m a G H I;rw[hl]at a G;rw[w]at m H I;simp only[hl,K2]at E;simp only[w,K2]at v;unfold qg at I;by_cases h3:3<l.length
 ·have R:(3:Int)<l.length:=by omega
  rw[zg h3]at a;simp[u,E,h3,R,Ga,a,bZ,cv,yC.V,f168]
 have R:¬(3:Int)<l.length:=by omega
 rw[zf h3]at a;simp[u,E,h3,R];refine ql (fun k M Y Z=>∃(p:Part) (op:Bool),p.pre=[]/\M 2=.ref 0 0 0/\M 3=int p.has/\M 4=yh false/\M 6=str c2/\M 7=yh c3/\M 8=.ref 1 0 0/\M 9=yh op/\M 29=.own 2 0 l.length/\M 30=int l.length/\M 31=int k/\p.has<=k/\0<=p.has/\Z=3 /\
   Y 0=some ⟨111,4,false,[[int 0,int 0,int 0,.nil]]⟩/\Y 1=some ⟨101,3,false,[[int p.n0,int p.n1,int p.n2]]⟩/\Y 2=some ⟨9,1,true,qJ l⟩/\jk (wz,false) 0 l=jk (p,op) k (l.drop k)) l.length
  ⟨wz,false,rfl,by simp,by simp[wz],by simp,by simp,by simp,by simp,by simp,by simp,by simp,by simp,by simp[wz],by simp[wz],by simp,by simp,by simp[wz],(by simp;rfl),by simp⟩ ?_
 rintro k M Y Z hk ⟨p,op,S,x,o,A,J,B,K,L,c,d,e,hh,hh0,hnx,C,F,N,q⟩;subst hnx;by_cases b:k<l.length
 ·have hn:=fun Y Z=>OP l[k] Y Z (G _ (zw b))
  have hw:=wv k;have P:=wj (p.has+1);have i:(l[k]==[120]||l[k]==[88]||l[k]==[42])=yD l[k]:=rfl;have f:=Xj b;have D:(qJ l).length=l.length:=by simp[qJ]
  rw[Gb b]at q;cases ho:yD l[k]
  ·rw[ho]at i;cases hv:(xC l[k]).isSome
   ·have hs:jz (p,op) k l[k]=none:=by simp[jz,ho,hv]
    rw[hs]at q;rw[q]at a;simp only at a;simp[x,o,A,J,B,K,L,c,d,e,C,F,N,b,D,f,hn,i,hv,Ga,a,bZ,cv,yC.V,f168]
   ·cases op
    ·have hs:jz (p,false) k l[k]=some (p.put k ((xC l[k]).getD 0),false):=by simp[jz,ho,hv]
     rw[hs]at q;simp only at q;obtain⟨n0,n1,n2,has,pre⟩:=p;simp only at S hh hh0 P F o;subst S;have hk3:k=0\/k=1\/k=2:=by omega
     rcases hk3 with rfl|rfl|rfl
     ·have j:(0:Int)<(l.length:Int):=by omega
      simp[x,o,A,J,B,K,L,c,d,e,C,F,N,b,j,D,f,hn,i,hv,hw,P];refine⟨by omega,_,?_,?_,?_,?_,?_,(by simpa using q)⟩<;>simp[Part.put]<;>omega
     ·have j:(1:Int)<(l.length:Int):=by omega
      simp[x,o,A,J,B,K,L,c,d,e,C,F,N,b,j,D,f,hn,i,hv,hw,P];refine⟨by omega,_,?_,?_,?_,?_,?_,(by simpa using q)⟩<;>simp[Part.put]<;>omega
     ·have j:(2:Int)<(l.length:Int):=by omega
      simp[x,o,A,J,B,K,L,c,d,e,C,F,N,b,j,D,f,hn,i,hv,hw,P];refine⟨by omega,_,?_,?_,?_,?_,?_,(by simpa using q)⟩<;>simp[Part.put]<;>omega
    ·have hs:jz (p,true) k l[k]=none:=by simp[jz,ho]
     rw[hs]at q;rw[q]at a;simp only at a;simp[x,o,A,J,B,K,L,c,d,e,C,F,N,b,D,f,hn,i,Ga,a,bZ,cv,yC.V,f168]
  ·have hs:jz (p,op) k l[k]=some (p,true):=by simp[jz,ho]
   rw[hs]at q;rw[ho]at i;simp[x,o,A,J,B,K,L,c,d,e,C,F,N,b,D,f,i,hw];exact⟨by omega,p,S,rfl,by omega,hh0,⟨rfl,rfl,rfl⟩,q⟩
 ·obtain rfl:k=l.length:=by omega
  rw[zA]at q;simp only[jk]at q;rw[q]at a;simp only at a;have hbe:((p.has:Int)==3)=(p.has==3):=rfl;cases c3
  ·rw[zf (by simp)]at m;rw[m]at a;simp at a;simp[x,o,A,J,B,K,L,c,d,e,C,F,N,zI,qe,Ga,a,bZ,yC.V,qJ,f168]
  ·rw[zg rfl]at m;rw[m]at a;have Q:(qJ n).length=n.length:=by simp[qJ]
   simp[x,o,A,J,B,K,L,c,d,e,C,F,N,v,zI,qe];refine ql (fun k M Y Z=>M 2=.ref 0 0 0/\M 3=int p.has/\M 4=yh false/\M 7=yh true/\M 75=.own 3 0 n.length/\M 76=int n.length/\M 77=int k/\Y 0=some ⟨111,4,false,[[int p.n0,int p.n1,int p.n2,.own 3 0 n.length]]⟩/\Y 3=some ⟨9,1,true,qJ n⟩/\n.any yA=(n.drop k).any yA) n.length
    ⟨by simp[x],by simp[o],by simp[A],by simp[B],by simp,by simp,by simp,by simp,(by simp;rfl),by simp⟩ ?_
   clear x o A J B K L c d e C F N hk b hh M Y;rintro k M Y Z hk ⟨x,o,A,B,T,U,W,C,b3,X⟩;by_cases b:k<n.length
   ·have hw:=wv k;have f:=Xj b;have hip:=fun Y Z=>kK (fun l=>!yA l) n[k] Y Z (H _ (zw b))
    rw[zl b,kV]at X;cases hb:yA n[k]
    ·rw[hb,Zp]at X;simp[x,o,A,B,T,U,W,C,b3,b,Q,f,hip,hb,hw];exact⟨by omega,X⟩
    ·rw[hb,Bool.true_or]at X;rw[X,zg rfl]at a;simp[x,o,A,B,T,U,W,C,b3,b,Q,f,hip,hb,Ga,a,bZ,yC.V,f168]
   ·obtain rfl:k=n.length:=by omega
    rw[zA,List.any_nil]at X;rw[X,zf (by simp)]at a;have hd:decide (n.length<=10)=decide ((n.length:Int)<=10):=by congr 1;exact propext ⟨fun h=>by omega,fun h=>by omega⟩
    rw[hd]at a;simp[x,o,A,B,T,U,W,C,b3,Ga,a,bZ,yC.V,f168]
theorem YT:zi prog 168 (zn false [] (aF Ga)):=
 Js (fn:=f168) zak (wc func168) false [] _ fun args r h w S vs a=>by obtain⟨l,rfl,Y,rfl⟩:=zL h;obtain⟨r0,b,c⟩:=dN l Y;exact⟨_,r0,a,by simp[f168],b,c⟩
theorem HJ(s:za):Qd s=if(VJ s).2.2=true/\(VJ s).2.1≠0 then some ⟨(VJ s).1.a,(VJ s).1.b,(VJ s).1.c,(VJ s).2.1,(VJ s).1.pre⟩else none:=by
 unfold Qd rdR VJ;by_cases e:3<(qt (Lib.cut s [45]).1 [46]).length
 ·rw[zg e,zg e];simp
 rw[zf e,zf e];cases jk (wz,false) 0 (qt (Lib.cut s [45]).1 [46])with
 |none=>simp
 |some st=>
  simp only;cases h:(xa s).any yA
  ·simp only[zm,zQ];by_cases f:((Lib.cut s [45]).2.2=false\/st.1.has=3)/\(xa s).length<=10
   ·rw[zg f];have d:((!(Lib.cut s [45]).2.2||st.1.has==3)&&decide ((xa s).length<=10))=true:=by simp only[zD,qT,QF,yI,q5];exact f
    simp only[d,true_and];by_cases g:st.1.has=0
    ·simp[g]
    ·simp[g]
   ·rw[zf f];have d:¬((!(Lib.cut s [45]).2.2||st.1.has==3)&&decide ((xa s).length<=10))=true:=by simp only[zD,qT,QF,yI,q5];exact f
    simp only[d,false_and,zQ];simp
  ·simp
theorem C8:zG C0 f166 []=some (.agg q8.V):=by refine zu rfl ?_;simp[q8,Cut.V,qJ,str,zI,qe,zs,zF,zr,yx,f166]
theorem dO:zi prog 166 (qK [] (YO (.agg q8.V))):=
 yf (fn:=f166) jj (wc func166) _ _ fun args r h=>by obtain⟨_,rfl,_,rfl⟩:=zL h;exact⟨by simp[f166],_,C8,wW.refl _⟩
def yC.part(v:yC)(m:Int):Part:=⟨v.a,v.b,v.c,m,v.pre⟩
def yC.ok(v:yC):Prop:=(0<=v.a/\v.a<=999999)/\(0<=v.b/\v.b<=999999)/\(0<=v.c/\v.c<=999999)/\vr v.pre
noncomputable def Tk (f:yC->Int->O) (pre:Int->Prop):zb->Option O:=qW (α:=yC×Int) (fun a=>[.agg a.1.V,int a.2]) (fun a=>a.1.ok/\pre a.2) (fun a=>f a.1 a.2)
theorem zdH:∀a b:yC×Int,[O.agg a.1.V,int a.2]=[O.agg b.1.V,int b.2]->a=b:=by rintro⟨f,g⟩ ⟨h,i⟩ e;simp only[zq,qh]at e;obtain⟨c,d⟩:=e;injection c with c;rw[Ke c,qA d]
theorem XC(f:yC->Int->O)(pre:Int->Prop)(v:yC)(i:Int)(u:O)(Y:Hp)(Z:Nat)(h:v.ok)(b:pre i)(c:(Sh.g vd).fix u=.agg v.V)(d:zO Y u=some (u,Y))(e:u.noOwn=true):qK [.g vd] (Tk f pre) [u,int i] Y Z=some (f v i,Y,Z):=
 vL (show zH Y [u,int i]=some ([u,int i],Y) by simp only[zH,d];rfl) (by show Tk f pre [(Sh.g vd).fix u,int i]=_;rw[c];exact qX (V:=fun a:yC×Int=>[O.agg a.1.V,int a.2]) (a:=(v,i)) zdH ⟨h,b⟩) (.inr (by rw[wZ,e];rfl))
theorem Kq(v:yC):(Sh.g vd).fix (.agg v.V)=.agg v.V:=by simp[yC.V]
theorem XD(v:yC)(Y:Hp):zO Y (.agg v.V)=some (.agg v.V,Y):=by simp[yC.V]
theorem XE(v:yC):O.noOwn (.agg v.V)=true:=by simp[yC.V]
def xS(v:yC)(i:Int):O:=ve (v.part 3) i.toNat
noncomputable abbrev Crra:Ctx:=xw prog [] 7 [(6,4),(28,4),(30,4),(32,4),(38,4)] [4,6,28,30,32,38] []
theorem zal:Gd Crra:=rT mixed trivial trivial
theorem u5(v:yC)(i:Int)(d:v.ok)(q:0<=i/\i<3):∃r0,zG Crra f222 [.agg v.V,int i]=some r0/\wW r0 (xS v i):=by
 obtain⟨a,b,c,e⟩:=v;obtain⟨⟨f,h⟩,⟨j,k⟩,⟨l,m⟩,_⟩:=d;simp only at f h j k l m;refine y6 (sh:=.g jQ) rfl ?_;have n:=wj (a+1);have o:=wj (b+1);have p:=wj (c+1);rcases(by omega:i=0\/i=1\/i=2)with rfl|rfl|rfl
 ·simp[yC.V,zI,qe,n];rw[zJ];simp;rw[zJ];simp;rw[zJ];simp;rw[kd (yw (Yo (by simp;exact⟨rfl,rfl,rfl⟩) (by simp;exact⟨rfl,rfl,rfl⟩) (by omega) (by simp;rfl) rfl) (yw (jT (by simp;rfl)) (yw (jT (by simp;rfl)) (yw (jT (by simp;rfl)) (yw (jT (by simp;rfl)) (Yn _))))))
   (xb (by simp;exact⟨rfl,rfl,rfl⟩) (by simp) (by simp;rfl) rfl (xb (by simp;exact⟨rfl,rfl,rfl⟩) (by simp) (by simp;rfl) rfl (kE (by simp;rfl) (kE (by simp;rfl) (kE (by simp;rfl) (kE (by simp;rfl) (Kg _)))))))]
  simp[zI,qe,zs,zF,zr,qy,xS,yC.part,ve,jw,vC,Cut.V,qJ,str,f222];exact⟨_,⟨rfl,rfl⟩,rfl⟩
 ·simp[yC.V,zI,qe,o];rw[zJ];simp;rw[zJ];simp;rw[kd (yw (Yo (by simp;exact⟨rfl,rfl,rfl⟩) (by simp;exact⟨rfl,rfl,rfl⟩) (by omega) (by simp;rfl) rfl) (yw (jT (by simp;rfl)) (yw (jT (by simp;rfl)) (yw (jT (by simp;rfl)) (yw (jT (by simp;rfl)) (Yn _))))))
   (xb (by simp;exact⟨rfl,rfl,rfl⟩) (by simp) (by simp;rfl) rfl (xb (by simp;exact⟨rfl,rfl,rfl⟩) (by simp) (by simp;rfl) rfl (kE (by simp;rfl) (kE (by simp;rfl) (kE (by simp;rfl) (kE (by simp;rfl) (Kg _)))))))]
  simp[zI,qe,zs,zF,zr,qy,xS,yC.part,ve,jw,vC,Cut.V,qJ,str,f222];exact⟨_,⟨rfl,rfl⟩,rfl⟩
 ·simp[yC.V,zI,qe,p];rw[zJ];simp;rw[kd (yw (Yo (by simp;exact⟨rfl,rfl,rfl⟩) (by simp;exact⟨rfl,rfl,rfl⟩) (by omega) (by simp;rfl) rfl) (yw (jT (by simp;rfl)) (yw (jT (by simp;rfl)) (yw (jT (by simp;rfl)) (yw (jT (by simp;rfl)) (Yn _))))))
   (xb (by simp;exact⟨rfl,rfl,rfl⟩) (by simp) (by simp;rfl) rfl (xb (by simp;exact⟨rfl,rfl,rfl⟩) (by simp) (by simp;rfl) rfl (kE (by simp;rfl) (kE (by simp;rfl) (kE (by simp;rfl) (kE (by simp;rfl) (Kg _)))))))]
  simp[zI,qe,zs,zF,zr,qy,xS,yC.part,ve,jw,vC,Cut.V,qJ,str,f222];exact⟨_,⟨rfl,rfl⟩,rfl⟩
theorem bn:zi prog 222 (qK [.g vd] (Tk xS fun i=>0<=i/\i<3)):=
 yf (fn:=f222) zal (wc func222) _ _ fun args r h=>by obtain⟨⟨p,i⟩,rfl,⟨a,b⟩,rfl⟩:=zL h;obtain⟨r0,c,d⟩:=u5 p i a b;exact⟨by simp[f222],r0,c,d⟩
def Wj(v:yC)(m:Int):O:=Ju (v.part m)
noncomputable abbrev Crup:Ctx:=qj prog [(222,qK [.g vd] (Tk xS fun i=>0<=i/\i<3))]
theorem zam:Gd Crup:=qQ mixed ⟨bn,trivial⟩
theorem gQ(v:yC)(m n:Int)(i:Nat):jw (v.part m) i=jw (v.part n) i/\vC (v.part m) i=vC (v.part n) i:=by
 match i with
 | 0=>exact⟨rfl,rfl⟩
 | 1=>exact⟨rfl,rfl⟩
 |_+2=>exact⟨rfl,rfl⟩
theorem C9(v:yC)(m:Int)(e:v.ok)(k:1<=m/\m<=3):zG Crup f217 [.agg v.V,int m]=some (Wj v m):=by
 refine zu rfl ?_;have b:=fun Y Z=>XC xS (fun i=>0<=i/\i<3) v (m-1) (.agg v.V) Y Z e
 obtain⟨f,g⟩:=gQ v m 3 (m-1).toNat;have h:=wj (m-1);by_cases d:m=3
 ·subst d;simp[yC.V,zI,qe,Wj,Ju,vw,Qu,yC.part,Cut.V,yx,f217]
 ·have b:=fun Y Z=>b Y Z (by omega) (Kq v) (XD v Y) (XE v)
  have c:=jl d;have a:m<3:=by omega
  simp only[xS,ve,yC.V,Cut.V,<-f,<-g]at b;have j:(v.part m).has=m:=rfl;simp[yC.V,c,h,b,Wj,Ju,vw,Qu,j,a,Cut.V,yx,f217]
theorem dP:zi prog 217 (qK [.g vd] (Tk Wj fun m=>1<=m/\m<=3)):=
 yf (fn:=f217) zam (wc func217) _ _ fun args r h=>by obtain⟨⟨p,i⟩,rfl,⟨a,b⟩,rfl⟩:=zL h;exact⟨by simp[f217],_,C9 p i a b,wW.refl _⟩
noncomputable abbrev Crct:Ctx:=qj prog []
theorem zan:Gd Crct:=qx mixed trivial
def xx(v:yC)(m:Int):O:=int (jM (v.part m))
theorem Da(v:yC)(m:Int)(k:1<=m/\m<=3):zG Crct f223 [.agg v.V,int m]=some (xx v m):=by
 obtain⟨a,b,c,e⟩:=v;refine zu rfl ?_;rcases(by omega:m=1\/m=2\/m=3)with rfl|rfl|rfl
 ·simp[yC.V,zs,zF,zr,yZ];rw[zJ];by_cases f:a=0
  ·have d:(a != 0)=false:=by simpa using f
   simp[d];rw[zJ];simp[xx,jM,yC.part,f223]
  ·have d:=VF f;simp[d,xx,jM,yC.part,f223]
 ·simp[yC.V,zs,zF,zr,yZ];rw[zJ];by_cases f:a=0
  ·have d:(a != 0)=false:=by simpa using f
   simp[d];rw[zJ];by_cases h:b=0
   ·have g:(b != 0)=false:=by simpa using h
    simp[g];rw[zJ];simp[xx,jM,yC.part,f,f223]
   ·have g:=VF h;simp[g,xx,jM,yC.part,f,f223]
  ·have d:=VF f;simp[d,xx,jM,yC.part,f,f223]
 ·simp[yC.V,zs,zF,zr,yZ];rw[zJ];by_cases f:a=0
  ·have d:(a != 0)=false:=by simpa using f
   simp[d];rw[zJ];by_cases h:b=0
   ·have g:(b != 0)=false:=by simpa using h
    simp[g];rw[zJ];by_cases j:c=0
    ·have i:(c != 0)=false:=by simpa using j
     simp[i];rw[zJ];simp[xx,jM,yC.part,f,h,f223]
    ·have i:=VF j;simp[i,xx,jM,yC.part,f,h,f223]
   ·have g:=VF h;simp[g,xx,jM,yC.part,f,h,f223]
  ·have d:=VF f;simp[d,xx,jM,yC.part,f,f223]
theorem u6:zi prog 223 (qK [.g vd] (Tk xx fun m=>1<=m/\m<=3)):=
 yf (fn:=f223) zan (wc func223) _ _ fun args r h=>by obtain⟨⟨p,i⟩,rfl,⟨b,a⟩,rfl⟩:=zL h;exact⟨by simp[f223],_,Da p i a,wW.refl _⟩
noncomputable abbrev Crut:Ctx:=qj prog [(225,qK [.g jQ,.g jQ] (B9 fun v w=>int (wP v w)))]
theorem zao:Gd Crut:=qQ mixed ⟨Z6,trivial⟩
theorem Gc(x y:Cut)(b:x.v.small)(c:y.v.small):∃r0,zG Crut f218 [.agg x.V,.agg y.V]=some r0/\wW r0 (K4 x y):=by
 refine Ye (sh:=.s 11 jA) rfl ?_;have a:=fun Y Z=>uo x y (.agg x.V) (.agg y.V) Y Z (by simp[Cut.V]) (by simp[Cut.V]) (by simp[Cut.V]) b c
 simp only[Cut.V]at a;by_cases h:0<=wP x y
 ·simp[Cut.V,a,h,cY,K4,eZ,qn,f218]
 ·simp[Cut.V,a,h,zI,qe,zs,zF,zr,cY,K4,eZ,qn,bN,wG.V,f218]
theorem gR:zi prog 218 (qK [.g jQ,.g jQ] (B9 K4)):=
 yf (fn:=f218) zao (wc func218) _ _ fun args r h=>by obtain⟨⟨v,w⟩,rfl,⟨a,b⟩,rfl⟩:=zL h;obtain⟨r0,c,d⟩:=Gc v w a b;exact⟨by simp[f218],r0,c,d⟩
noncomputable abbrev Crop:Ctx:=qj prog [(49,zn false [] (WV E9 fun _ _=>True))]
theorem zap:Gd Crop:=qQ mixed ⟨xe,trivial⟩
def Ge(s:za):O:=str (wQ wx s).1
theorem nJ(s:za)(h:s.length<=qg):zG Crop f216 [str s]=some (Ge s):=by
 refine zu rfl ?_;have l:∀Y Z,zs prog Y Z 56 7 [(0,str [62,61]),(1,str [60,61]),(2,str [62]),(3,str [60]),(4,str [61]),(5,str [126]),(6,str [94])]=some (.own Z 0 7,qf Y Z (some ⟨9,1,true,qJ wx⟩),Z+1):=fun Y Z=>by simp[zs,zF,zr,wx,str]
 simp[str]at l;simp[l];refine ql (fun k M Y Z=>M 0=str s/\M 5=.own 0 0 7/\M 6=int 7/\M 7=int k/\Y 0=some ⟨9,1,true,qJ wx⟩/\wQ wx s=wQ (wx.drop k) s) 7 ⟨by simp,by simp,by simp,by simp,by simp,by simp⟩ ?_;rintro k M Y Z r ⟨f,g,i,b,m,a⟩;by_cases c:k<7
 ·have e:k<wx.length:=c;have j:wx[k].length<=qg:=by
   have:∀q∈wx,q.length<=qg:=by decide
   exact this _ (zw e)
  have n:=fun Y Z=>Yf s wx[k] Y Z h j
  have o:=wv k;have d:(k:Int)<7:=by omega
  rw[zl e]at a;simp only[wQ]at a;by_cases Y:(wx[k]).isPrefixOf s=true
  ·rw[zg Y]at a;simp[f,g,i,b,m,d,c,e,n,Y,o,Ge,a,yx,f216]
  ·rw[zf Y]at a;have p:(wx[k]).isPrefixOf s=false:=Bool.eq_false_iff.2 Y;simp[f,g,i,b,m,d,c,e,n,p,o];exact⟨by omega,a⟩
 ·obtain rfl:k=7:=by omega
  rw[show wx.drop 7=[]from rfl]at a;simp only[wQ]at a;simp[f,g,i,b,Ge,a,yx,f216]
theorem iL:zi prog 216 (zn false [] (M0 Ge)):=
 VG zap func216 false [] fun l Y=>⟨by simp[f216],_,nJ l Y,q9 _⟩
def oX(c:UInt8):za->List za
 |[]=>[[]]
 |b::l=>if b=c then[]::oX c l else match oX c l with
  |[]=>[[b]]
  |p::a=>(b::p)::a
theorem PE(c:UInt8):∀l,∃p a,oX c l=p::a
 |[]=>⟨[],[],rfl⟩
 |b::l=>by
  unfold oX;split
  ·exact⟨_,_,rfl⟩
  ·split
   ·exact⟨_,_,rfl⟩
   ·exact⟨_,_,rfl⟩
theorem XF{s sep:za}(h:Lib.index s sep=-1):qt s sep=[s]:=by unfold qt Lib.split;rw[Lib.count_miss h];rfl
theorem b4{s sep:za}{i:Nat}(a:sep≠[])(h:Lib.index s sep=i):qt s sep=s.take i::qt (s.drop (i+sep.length)) sep:=by unfold qt Lib.split;rw[Lib.count_hit a h,ek 1,bH h]
theorem b5(c:UInt8):∀s:za,qt s [c]=oX c s
 |[]=>XF rfl
 |b::l=>by
  have a:=b5 c l;by_cases h:b=c
  ·subst h;have d:Lib.index (b::l) [b]=((0:Nat):Int):=by simp[Lib.index]
   rw[b4 (by simp) d];simp[oX,a]
  ·have g:¬c=b:=fun e=>h e.symm
   rcases Lib.index_spec l [c]with⟨f,_⟩|⟨i,f,_⟩
   ·have d:Lib.index (b::l) [c]=-1:=by simp[Lib.index,g,f]
    rw[XF d];rw[XF f]at a;simp[oX,h,<-a]
   ·have d:Lib.index (b::l) [c]=((i+1:Nat):Int):=by
     have:¬((i:Int)=-1):=by omega
     simp[Lib.index,g,f,this]
    rw[b4 (by simp) d];rw[b4 (by simp) f]at a;simp only[oX,zf h,<-a];simp
def ja(s:za):List za:=wJ (oX 32 s)
theorem fE(s:za):wJ (qt s [32])=ja s:=by rw[b5];rfl
theorem u7:ja []=[]:=rfl
theorem XG(x:za)(l:List za):wJ (x::l)=if x=[]then wJ l else x::wJ l:=by cases x<;>simp[wJ,oT]
theorem PF(s:za):ja (32::s)=ja s:=by simp[ja,oX,XG]
theorem ak:∀s:za,ja (Lib.trimLeftB s 32)=ja s
 |[]=>rfl
 |b::l=>by
  unfold Lib.trimLeftB;by_cases h:b=32
  ·subst h;rw[D6 (by simp),PF];exact ak l
  ·rw[ZL (by simpa using h)]
theorem Db(c:UInt8):∀s:za,oX c (s++[c])=oX c s++[[]]
 |[]=>by simp[oX]
 |b::l=>by
  have a:=Db c l;obtain⟨p,d,e⟩:=PE c l;by_cases h:b=c
  ·simp[oX,h,a]
  ·simp[oX,h,a,e]
theorem PG(s:za):ja (s++[32])=ja s:=by unfold ja;rw[Db];simp[wJ,oT]
theorem LR(s:za):ja (Lib.trimRightB s 32)=ja s:=by
 have a:∀m:za,ja ((m.dropWhile (·==32)).reverse)=ja m.reverse:=by
  intro m
  induction m with
  |nil=>rfl
  |cons b m c=>
   by_cases h:b=32
   ·subst h;rw[D6 (by simp),c,List.reverse_cons,PG]
   ·rw[ZL (by simpa using h)]
 have:=a s.reverse;rwa [List.reverse_reverse]at this
theorem PH(s:za):ja (Lib.trimB s 32)=ja s:=by unfold Lib.trimB;rw[ak,LR]
def hd(s:za):za:=s.takeWhile (· != 32)
def tl(s:za):za:=s.dropWhile (· != 32)
theorem gS(s:za):hd s++tl s=s:=List.takeWhile_append_dropWhile
theorem u9:∀(u:za),(∀c∈u,c≠32)->∀r,(oX 32 (u++32::r)=u::oX 32 r)/\oX 32 u=[u]
 |[],_,r=>⟨by simp[oX],rfl⟩
 |b::u,h,r=>by
  obtain⟨d,e⟩:=u9 u (fun c f=>h c (by simp[f])) r;have a:¬b=32:=h b (by simp);constructor
  ·rw[qU,oX,zf a,d]
  ·rw[oX,zf a,e]
theorem PI(s:za):∀c∈hd s,c≠32:=fun c a=>by have:=List.all_takeWhile (p:=fun c:UInt8=>c != 32) (l:=s);rw[qB]at this;simpa using this c a
theorem Aa(s:za):tl s=[]\/∃r,tl s=32::r:=by
 unfold tl
 induction s with
 |nil=>exact .inl rfl
 |cons b s a=>
  by_cases h:b=32
  ·subst h;rw[ZL (by simp)];exact .inr ⟨s,rfl⟩
  ·rw[D6 (by simpa using h)];exact a
theorem Dc{s:za}(h:hd s≠[]):ja s=hd s::ja (tl s):=by
 have e:=gS s;rcases Aa s with a|⟨r,a⟩
 ·rw[a,jf]at e;rw[a,u7]
  conv=>lhs;rw[<-e]
  unfold ja;rw[(u9 (hd s) (PI s) []).2,XG,zf h];rfl
 ·rw[a]at e⊢;rw[PF]
  conv=>lhs;rw[<-e]
  unfold ja;rw[(u9 (hd s) (PI s) r).1,XG,zf h]
def HK(s:za):Prop:=s=[]\/hd s≠[]
theorem Jz:∀s:za,HK (Lib.trimLeftB s 32)
 |[]=>.inl rfl
 |b::l=>by
  unfold Lib.trimLeftB;by_cases h:b=32
  ·subst h;rw[D6 (by simp)];exact Jz l
  ·rw[ZL (by simpa using h)];exact .inr (by simp[hd,h])
theorem PJ{s:za}(h:HK s):Lib.trimLeftB s 32=s:=by
 cases s with
 |nil=>rfl
 |cons b l=>
  rcases h with h|h
  ·cases h
  ·unfold Lib.trimLeftB;by_cases a:b=32
   ·subst a;exact absurd (by simp[hd]) h
   ·rw[ZL (by simpa using a)]
theorem al(s:za):(Lib.trimLeftB s 32).length<=s.length:=(List.dropWhile_sublist _).length_le
theorem zdI{g:za}(d:∀c∈g,c≠32)(s:za):g.isPrefixOf s=g.isPrefixOf (hd s):=by
 induction g generalizing s with
 |nil=>simp
 |cons a g h=>
  cases s with
  |nil=>rfl
  |cons b s=>
   have i:=d a (by simp);by_cases f:b=32
   ·subst f;have e:hd (32::s)=[]:=by simp[hd]
    rw[e];simp[List.isPrefixOf,i]
   ·have e:hd (b::s)=b::hd s:=by simp[hd,f]
    rw[e];simp only[List.isPrefixOf];rw[h (fun c j=>d c (by simp[j])) s]
theorem PK:∀(a:List za) (_:∀g∈a,∀c∈g,c≠32) (s:za),wQ a s=((wQ a (hd s)).1,(wQ a (hd s)).2++tl s)
 |[],_,s=>by simp[wQ,gS]
 |g::a,h,s=>by
  have Y:=zdI (h g (by simp)) s;simp only[wQ];rw[Y];split
  ·rename_i b;have d:=(vi.1 b).length_le;have e:=gS s
   conv=>lhs;rw[<-e]
   rw[List.drop_append_of_le_length d]
  ·exact PK a (fun g f=>h g (by simp[f])) s
theorem zdJ:∀g∈wx,∀c∈g,c≠32:=by decide
theorem QB:∀(a:List za) (s:za),(wQ a s).2=s.drop (wQ a s).1.length
 |[],s=>rfl
 |g::a,s=>by
  simp only[wQ];split
  ·rfl
  ·exact QB a s
theorem Gf(a:List za)(s:za):(wQ a s).2 <:+ s:=by rw[QB];exact List.drop_suffix _ _
abbrev bp:=za×za
def jV:List za->Option (List bp)
 |[]=>some []
 |[w]=>if(wQ wx w).2=[]then none else some [wQ wx w]
 |w::x::a=>if(wQ wx w).2=[]then(jV a).map (((wQ wx w).1,x)::·)else(jV (x::a)).map (wQ wx w::·)
theorem Yt(w:za)(a:List za)(h:(wQ wx w).2≠[]):jV (w::a)=(jV a).map (wQ wx w::·):=by
 cases a with
 |nil=>simp[jV,h]
 |cons x a=>simp[jV,h]
def Ab(s:za):bp×za:=((((wQ wx s).1,hd (Lib.trimLeftB (wQ wx s).2 32)):bp),tl (Lib.trimLeftB (wQ wx s).2 32))
theorem PL{s:za}(h:hd s≠[]):jV (ja s)=if(Ab s).1.2=[]then none else(jV (ja (Ab s).2)).map ((Ab s).1::·):=by
 have f:=PK wx zdJ s;obtain⟨o,r,a⟩:∃o r,wQ wx (hd s)=(o,r):=⟨_,_,rfl⟩;rw[a]at f;simp only at f;have d:∀c∈r,c≠32:=fun c g=>by have:=Gf wx (hd s);rw[a]at this;exact PI s c (this.mem g)
 rw[Dc h];by_cases i:r=[]
 ·subst i;rw[xE]at f;unfold Ab;rw[f];simp only;obtain⟨u,j⟩:=wM (Lib.trimLeftB (tl s) 32);have l:ja (tl s)=ja u:=by rw[<-j,ak]
  have ht:HK u:=by rw[<-j];exact Jz _
  rw[j,l];rcases ht with rfl|ht
  ·rw[u7,zg (show hd []=[]from rfl)];simp[jV,a]
  ·rw[Dc ht,zf ht];simp[jV,a]
 ·have m:Lib.trimLeftB (r++tl s) 32=r++tl s:=by
   cases r with
   |nil=>exact absurd rfl i
   |cons b r=>have n:=d b (by simp);exact PJ (.inr (by simp[hd,n]))
  have p:hd (r++tl s)=r:=by unfold hd;rw[List.takeWhile_append_of_pos (fun c g=>by simpa using d c g)];rcases Aa s with e|⟨q,e⟩<;>rw[e]<;>simp
  have t:tl (r++tl s)=tl s:=by
   unfold tl;rw[List.dropWhile_append_of_pos (fun c g=>by simpa using d c g)];rcases Aa s with e|⟨q,e⟩
   ·have k:List.dropWhile (fun x=>x != 32) s=[]:=e;rw[k];rfl
   ·have k:List.dropWhile (fun x=>x != 32) s=32::q:=e;rw[k];rfl
  unfold Ab;rw[f];simp only;rw[m,p,t,zf i,Yt _ _ (by rw[a];exact i),a]
theorem PM{s:za}(h:(Ab s).1.2≠[]):(Ab s).2.length<s.length:=by unfold Ab at h⊢;simp only at h⊢;have a:=gS (Lib.trimLeftB (wQ wx s).2 32);have b:=zp List.length a;rw[w7]at b;have c:=al (wQ wx s).2;have d:=K7 wx s;have e:=kc.2 h;omega
theorem TO.ltle{α:Type}{c:α->α->Int}(h:TO c){x y z:α}(d:c x y<0)(a:c y z<=0):c x z<0:=by
 rcases aO a with a|a
 ·exact h.trans d a
 ·have e:=h.tr x y z (by omega) (by omega);rcases aO e with b|b
  ·exact b
  ·have f:=(h.eq y z).1 a;have g:=(h.eq x z).1 b;have:=h.tr y z x (by omega) (by omega);have:=(h.flip x y).1 d;omega
theorem TO.lelt{α:Type}{c:α->α->Int}(h:TO c){x y z:α}(b:c x y<=0)(d:c y z<0):c x z<0:=by
 have e:=h.tr x y z b (by omega);rcases aO e with a|a
 ·exact a
 ·have f:=(h.eq x z).1 a;have:=h.tr z x y (by omega) b;have:=(h.flip y z).1 d;omega
theorem TO.irr{α:Type}{c:α->α->Int}(h:TO c)(x:α):¬c x x<0:=by rw[h.refl];omega
theorem TO.zcm{α:Type}{c:α->α->Int}(h:TO c){x y:α}(a:¬c x y<0):c y x<=0:=(h.le y x).2 (by omega)
theorem TO.It{α:Type}{c:α->α->Int}(h:TO c){x y:α}(a:¬c x y<=0):c y x<0:=(h.flip y x).2 (by omega)
theorem orL2{a b:Int}(h:KE [a,b]=0):a=0/\b=0:=by
 simp only[KE]at h;split at h
 ·rename_i e;split at h
  ·rename_i c;exact⟨e,c⟩
  ·rename_i c;exact absurd h c
 ·rename_i e;exact absurd h e
theorem orL3{a b c:Int}(h:KE [a,b,c]=0):a=0/\b=0/\c=0:=by
 simp only[KE]at h;split at h
 ·rename_i e;split at h
  ·rename_i d;split at h
   ·rename_i f;exact⟨e,d,f⟩
   ·rename_i f;exact absurd h f
  ·rename_i d;exact absurd h d
 ·rename_i e;exact absurd h e
theorem Gg{p q:za}(Y:yS p=true)(j:yS q=true)(h:Lib.trimLeftB p 48=Lib.trimLeftB q 48):p=q:=by
 have a:∀p:za,yS p=true->(p=[48]/\Lib.trimLeftB p 48=[])\/(Lib.trimLeftB p 48=p/\p≠[]):=by
  intro p Y;cases p with
  |nil=>simp[yS]at Y
  |cons c l=>
   by_cases i:c=48
   ·subst i;cases l with
    |nil=>exact .inl ⟨rfl,rfl⟩
    |cons d l=>simp[yS]at Y
   ·refine .inr ⟨?_,by simp⟩;unfold Lib.trimLeftB;rw[ZL (by simpa using i)]
 rcases a p Y with⟨b,f⟩|⟨b,f⟩<;>rcases a q j with⟨e,g⟩|⟨e,g⟩
 ·rw[b,e]
 ·rw[f,e]at h;exact absurd h.symm g
 ·rw[b,g]at h;exact absurd h f
 ·rw[b,e]at h;exact h
theorem sw{p:za}(h:yA p=false):p≠[]/\(kg p=true->yS p=true):=by simp only[yA,wE]at h;obtain⟨⟨_,b⟩,a⟩:=h;refine⟨fun e=>by subst e;simp[eT]at b,fun hd=>?_⟩;rw[hd]at a;simpa using a
theorem LS{p q:za}(Y:yA p=false)(d:yA q=false)(h:yb p q=0):p=q:=by
 obtain⟨j,e⟩:=sw Y;obtain⟨k,f⟩:=sw d;have g:xv p=kg p:=by cases p<;>simp_all[xv]
 have c:xv q=kg q:=by cases q<;>simp_all[xv]
 unfold yb at h;rw[g,c]at h;cases a:kg p<;>cases b:kg q<;>simp only[a,b,zK,zm,zQ]at h
 ·exact(xl p q).1 h
 ·cases h
 ·cases h
 ·obtain⟨_,i⟩:=orL2 h;exact Gg (e a) (f b) ((xl _ _).1 i)
theorem HL{α:Type}{c:α->α->Int}:∀{a b:List α},(∀x∈a,∀y∈b,c x y=0->x=y)->yl c a b=0->a=b
 |[],[],_,_=>rfl
 |[],_::_,_,h=>by simp[yl]at h
 |_::_,[],_,h=>by simp[yl]at h
 |x::a,y::b,d,h=>by
  simp only[yl]at h;split at h
  ·rename_i e;rw[d x (by simp) y (by simp) e,HL (fun u f v g=>d u (by simp[f]) v (by simp[g])) h]
  ·rename_i e;exact absurd h e
theorem lz{a b:Cut}(j:a.vY)(k:b.vY)(h:wP a b=0):a=b:=by
 obtain⟨⟨z,A,B,l⟩,m⟩:=a;obtain⟨⟨C,D,E,n⟩,o⟩:=b;unfold wP at h;split at h
 ·rename_i c;have p:m=o:=by
   split at h
   ·rename_i e;exact e
   ·split at h<;>cases h
  unfold QM at c;split at c
  ·rename_i d;obtain⟨q,r,s⟩:=orL3 d;have f:=Yq q;have g:=Yq r;have i:=Yq s;have t:l=n:=by
    simp only at c;split at c
    ·rename_i u;split at c
     ·rename_i l2;rw[qM.1 u,qM.1 l2]
     ·cases c
    ·split at c
     ·cases c
     ·exact HL (fun x v y w=>LS (j.2 x v) (k.2 y w)) c
   simp only at f g i;rw[f,g,i,t,p]
  ·rename_i d;exact absurd c d
 ·rename_i c;exact absurd h c
mutual
def HM(a:Cut->Bool):List Cut->List wG
 |[]=>[]
 |c::l=>if a c=true then S8 a c l else HM a l
def S8(a:Cut->Bool)(s:Cut):List Cut->List wG
 |[]=>[yt s]
 |c::l=>if a c=true then S8 a s l else bN s c::HM a l
end
theorem Ac(out:List wG)(s c:Cut):Qw (out++[yt s]) c=out++[bN s c]:=by unfold Qw;rw[List.getLast?_append];simp[yt,bN]
theorem nK(a:Cut->Bool):∀(l:List Cut) (out:List wG),(Vz a l (false,out)).2=out++HM a l/\∀s,(Vz a l (true,out++[yt s])).2=out++S8 a s l
 |[],out=>⟨by simp[Vz,HM],fun s=>by simp[Vz,S8]⟩
 |c::l,out=>by
  have b:∀st,Vz a (c::l) st=Vz a l (bh a st c):=fun _=>rfl
  constructor
  ·rw[b];cases h:a c
   ·have:bh a (false,out) c=(false,out):=by simp[bh,h]
    rw[this,(nK a l out).1,HM,h,zf (by simp)]
   ·have:bh a (false,out) c=(true,out++[yt c]):=by simp[bh,h]
    rw[this,(nK a l out).2 c,HM,h,zg rfl]
  ·intro s;rw[b];cases h:a c
   ·have:bh a (true,out++[yt s]) c=(false,out++[bN s c]):=by simp[bh,h,Ac]
    rw[this,(nK a l (out++[bN s c])).1,S8,h,zf (by simp),qP];rfl
   ·have:bh a (true,out++[yt s]) c=(true,out++[yt s]):=by simp[bh,h]
    rw[this,(nK a l out).2 s,S8,h,zg rfl]
noncomputable def nL (a b:List wG):List Cut:=dt (Qx (q7 a++q7 b))
theorem Dd(f:Bool->Bool->Bool)(a b:List wG):kF f a b=HM (fun c=>f (yE a c) (yE b c)) (nL a b):=by unfold kF;rw[nj,(nK _ _ []).1];rfl
theorem Kr(a b:List wG)(c:Cut):c∈nL a b↔c∈q7 a\/c∈q7 b:=by unfold nL;rw[fp,(xQ _).mem_iff,qO]
theorem ao{l:List wG}(h:jI l):∀c∈q7 l,c.vY:=YQ h
theorem Vh{a b:List wG}(c:jI a)(d:jI b):(nL a b).Pairwise fun x y=>wP x y<0:=by
 refine du _ (fun x e y f h=>?_) (pC _);have g:∀z∈Qx (q7 a++q7 b),z.vY:=fun z i=>by
  rcases qO.1 ((xQ _).mem_iff.1 i)with h|h
  ·exact ao c z h
  ·exact ao d z h
 exact lz (g x e) (g y f) h
def aK:Option Cut->List wG->Prop
 |_,[]=>True
 |lo,s::l=>(∀q,lo=some q->wP q s.lo<0)/\if s.vm=true then l=[]/\s.hi=QP else wP s.lo s.hi<0/\aK (some s.hi) l
theorem LU{a:Option Cut}{l:List wG}(h:aK a l):aK none l:=by
 cases l with
 |nil=>trivial
 |cons s l=>exact⟨fun q e=>(by cases e),h.2⟩
theorem Gh(g:Cut->Bool):∀(l:List Cut),l.Pairwise (fun x y=>wP x y<0)->(∀a:Option Cut,(∀q,a=some q->∀x∈l,wP q x<0)->aK a (HM g l))/\∀(a:Option Cut) (s:Cut),(∀q,a=some q->wP q s<0)->(∀x∈l,wP s x<0)->aK a (S8 g s l)
 |[],_=>⟨fun _ _=>trivial,fun a s h _=>⟨h,by simp[yt]⟩⟩
 |c::l,hs=>by
  obtain⟨i,m⟩:=wB.1 hs;obtain⟨j,k⟩:=Gh g l m;constructor
  ·intro a b;rw[HM];split
   ·exact k a c (fun q d=>b q d c (by simp)) i
   ·exact j a fun q d x e=>b q d x (by simp[e])
  ·intro a s b f;rw[S8];split
   ·exact k a s b fun x e=>f x (by simp[e])
   ·refine⟨b,?_⟩;simp only[bN,zm,zQ];exact⟨f c (by simp),j (some c) fun q d x e=>by injection d with d;rw[<-d];exact i x e⟩
noncomputable def Q4 (a:Cut->Bool):Bool->List Cut->Cut->Bool
 |d,[],_=>d
 |d,x::l,c=>if wP x c<=0 then Q4 a (a x) l c else d
theorem WB:∀{l:List wG} {a c:Cut},aK (some a) l->wP c a<=0->yE l c=false
 |[],_,_,_,_=>rfl
 |s::l,a,c,h,f=>by
  have g:wP a s.lo<0:=h.1 a rfl;have d:wP c s.lo<0:=wy.lelt f g;have i:vA s c=false:=by have:=(wy.flip c s.lo).1 d;simp[vA,show¬wP s.lo c<=0 by omega]
  have e:yE l c=false:=by
   have b:=h.2;split at b
   ·rw[b.1];rfl
   ·exact WB b.2 (Zj (wy.trans d b.1))
  unfold yE at e⊢;rw[kV,i,e];rfl
theorem PN(b:Cut->Bool)(c:Cut):∀(l:List Cut),l.Pairwise (fun x y=>wP x y<0)->yE (HM b l) c=Q4 b false l c/\∀s,(∀x∈l,wP s x<0)->yE (S8 b s l) c=if wP s c<=0 then Q4 b true l c else false
 |[],_=>⟨rfl,fun s _=>by simp[S8,yE,vA,yt,Q4]⟩
 |x::l,hs=>by
  obtain⟨k,r⟩:=wB.1 hs;obtain⟨t,u⟩:=PN b c l r;have h:=Gh b l r;constructor
  ·rw[HM,Q4];cases v:b x
   ·rw[zf (by simp),t];split
    ·rfl
    ·rename_i w;cases l with
     |nil=>rfl
     |cons y l=>have d:=wy.trans (wy.It w) (k y (by simp));have:=(wy.flip c y).1 d;simp only[Q4];rw[zf (by omega)]
   ·rw[zg rfl,u x k]
  ·intro s i;have m:=i x (by simp);rw[S8,Q4];cases v:b x
   ·rw[zf (by simp)];have n:=(h.1 (some x) fun q o y p=>by injection o with o;rw[<-o];exact k y p);have e:yE (bN s x::HM b l) c=(vA (bN s x) c||yE (HM b l) c):=rfl;rw[e];by_cases a:wP x c<=0
    ·have f:wP s c<=0:=Zj (wy.ltle m a);have z:vA (bN s x) c=false:=by have:=(wy.le x c).1 a;simp[vA,bN,show¬wP c x<0 by omega]
     rw[z,zg f,zg a,Zp,t]
    ·have j:=wy.It a;have A:yE (HM b l) c=false:=WB n (Zj j);rw[A,Bool.or_false,zf a];simp only[vA,bN,j,Zp,decide_true,Jc];by_cases f:wP s c<=0<;>simp[f]
   ·rw[zg rfl,u s fun y p=>i y (by simp[p])];by_cases a:wP x c<=0
    ·rw[zg a]
    ·rw[zf a];have g:Q4 b true l c=true:=by
      cases l with
      |nil=>rfl
      |cons y l=>have d:=wy.trans (wy.It a) (k y (by simp));have:=(wy.flip c y).1 d;simp only[Q4];rw[zf (by omega)]
     rw[g]
theorem De{a:List wG}{x c:Cut}(b:wP x c<=0)(h:∀y∈q7 a,wP y c<=0->wP y x<=0):yE a c=yE a x:=by
 induction a with
 |nil=>rfl
 |cons s a j=>
  have e:∀c,yE (s::a) c=(vA s c||yE a c):=fun _=>rfl
  rw[e,e,j fun y k=>h y (by rw[q7];exact List.mem_append_right _ k)];congr 1;have d:s.lo∈q7 (s::a):=by rw[q7];apply List.mem_append_left;split<;>simp
  have i:wP s.lo c<=0↔wP s.lo x<=0:=⟨h _ d,fun g=>wy.tr _ _ _ g b⟩;unfold vA;cases l:s.vm
  ·have f:s.hi∈q7 (s::a):=by rw[q7,l];simp
   have m:wP c s.hi<0↔wP x s.hi<0:=by
    constructor
    ·exact fun g=>wy.lelt b g
    ·intro g;refine vG fun n=>?_
     have o:=h _ f (wy.zcm n);exact wy.irr x (wy.ltle g o)
   simp only[i,m]
  ·simp only[i,Bool.true_or]
theorem sx{a:List wG}{c:Cut}(h:∀y∈q7 a,¬wP y c<=0):yE a c=false:=by
 induction a with
 |nil=>rfl
 |cons s a d=>
  have e:yE (s::a) c=(vA s c||yE a c):=rfl;have b:s.lo∈q7 (s::a):=by rw[q7];apply List.mem_append_left;split<;>simp
  rw[e,d fun y f=>h y (by rw[q7];exact List.mem_append_right _ f)];simp[vA,h _ b]
theorem gT(f:Cut->Bool)(c:Cut):∀(l:List Cut) (d:Bool),l.Pairwise (fun x y=>wP x y<0)->(Q4 f d l c=d/\∀y∈l,¬wP y c<=0)\/∃x∈l,wP x c<=0/\Q4 f d l c=f x/\∀y∈l,wP y c<=0->wP y x<=0
 |[],d,_=>.inl ⟨rfl,fun y a=>by cases a⟩
 |x::l,d,hs=>by
  obtain⟨j,m⟩:=wB.1 hs;by_cases g:wP x c<=0
  ·right;simp only[Q4,zg g];rcases gT f c l (f x) m with⟨e,h⟩|⟨z,k,i,e,h⟩
   ·refine⟨x,by simp,g,e,fun y a b=>?_⟩;rcases zv.1 a with rfl|a
    ·rw[wy.refl];exact zhj _
    ·exact absurd b (h y a)
   ·refine⟨z,by simp[k],i,e,fun y a b=>?_⟩;rcases zv.1 a with rfl|a
    ·exact Zj (j z k)
    ·exact h y a b
  ·left;simp only[Q4,zf g];refine⟨trivial,fun y a b=>?_⟩;rcases zv.1 a with rfl|a
   ·exact g b
   ·exact g (Zj (wy.ltle (j y a) b))
theorem nM{f:Bool->Bool->Bool}(i:f false false=false){a b:List wG}(j:jI a)(k:jI b)(c:Cut):yE (kF f a b) c=f (yE a c) (yE b c):=by
 have hs:=Vh j k;rw[Dd,(PN _ c _ hs).1];rcases gT (fun c=>f (yE a c) (yE b c)) c (nL a b) false hs with⟨e,g⟩|⟨x,l,h,e,g⟩
 ·rw[e,sx fun y d=>g y ((Kr a b y).2 (.inl d)),sx fun y d=>g y ((Kr a b y).2 (.inr d)),i]
 ·rw[e,De h fun y d=>g y ((Kr a b y).2 (.inl d)),De h fun y d=>g y ((Kr a b y).2 (.inr d))]
theorem dQ{f:Bool->Bool->Bool}{a b:List wG}(c:jI a)(d:jI b):aK none (kF f a b):=by rw[Dd];exact(Gh _ _ (Vh c d)).1 none fun q e=>by cases e
theorem Ad:∀{l m:List wG} {p y:Option Cut},aK p l->aK y m->jI l->jI m->(∀c,c.vY->yE l c=yE m c)->l=m
 |[],[],_,_,_,_,_,_,_=>rfl
 |[],t::m,_,y,_,v,_,H,h=>by
  have:=h t.lo (H t (by simp)).1;have u:yE (t::m) t.lo=true:=by
   have B:vA t t.lo=true:=by
    have k:=v.2;unfold vA;rw[wy.refl];split at k
    ·rename_i e;simp[e]
    ·simp[k.1]
   unfold yE;rw[kV,B];rfl
  rw[u]at this;cases this
 |s::l,[],p,_,n,_,I,_,h=>by
  have:=h s.lo (I s (by simp)).1;have u:yE (s::l) s.lo=true:=by
   have B:vA s s.lo=true:=by
    have k:=n.2;unfold vA;rw[wy.refl];split at k
    ·rename_i e;simp[e]
    ·simp[k.1]
   unfold yE;rw[kV,B];rfl
  rw[u]at this;cases this
 |s::l,t::m,p,y,n,v,I,H,h=>by
  have w:∀{s:wG} {l:List wG} {p:Option Cut},aK p (s::l)->vA s s.lo=true:=fun{s l p} n=>by
   have k:=n.2;unfold vA;rw[wy.refl];split at k
   ·rename_i e;simp[e]
   ·simp[k.1]
  have d:∀{s:wG} {l:List wG} {p:Option Cut} {c:Cut},aK p (s::l)->(s.vm=false->wP c s.hi<=0)->yE (s::l) c=vA s c:=fun{s l p c} n u=>by
   have k:=n.2;have e:yE (s::l) c=(vA s c||yE l c):=rfl;rw[e];cases C:s.vm
   ·rw[C,zf (by simp)]at k;rw[WB k.2 (u C),Bool.or_false]
   ·rw[C,zg rfl]at k;rw[k.1];simp[yE]
  have o:∀{s:wG} {l:List wG} {p:Option Cut} {c:Cut},aK p (s::l)->wP c s.lo<0->yE (s::l) c=false:=fun{s l p c} n u=>by
   have k:=n.2;rw[d n fun C=>?_]
   ·have:=(wy.flip c s.lo).1 u;simp[vA,show¬wP s.lo c<=0 by omega]
   ·rw[C,zf (by simp)]at k;exact Zj (wy.trans u k.1)
  have D:=I s (by simp);have E:=H t (by simp);have J:yE (s::l) s.lo=true:=by unfold yE;rw[kV,w n];rfl
  have K:yE (t::m) t.lo=true:=by unfold yE;rw[kV,w v];rfl
  have j:s.lo=t.lo:=by
   refine lz D.1 E.1 ?_;have n1:¬wP s.lo t.lo<0:=fun i=>by have:=h s.lo D.1;rw[J,o v i]at this;cases this
   have P:¬wP t.lo s.lo<0:=fun i=>by have:=h t.lo E.1;rw[K,o n i]at this;cases this
   have:=(wy.flip s.lo t.lo);have:=(wy.flip t.lo s.lo);omega
  have f:=n.2;have g:=v.2;cases q:s.vm<;>cases r:t.vm
  ·rw[q,zf (by simp)]at f;rw[r,zf (by simp)]at g;have F:yE (s::l) s.hi=false:=by rw[d n fun _=>by rw[wy.refl];exact zhj _];simp[vA,q,wy.refl]
   have Q:yE (t::m) t.hi=false:=by rw[d v fun _=>by rw[wy.refl];exact zhj _];simp[vA,r,wy.refl]
   have G:s.hi=t.hi:=by
    refine lz D.2 E.2 ?_;have n1:¬wP s.hi t.hi<0:=fun i=>by
     have:=h s.hi D.2;rw[F,d v fun _=>Zj i]at this;have z:wP t.lo s.hi<=0:=by rw[<-j];exact Zj f.1
     simp[vA,i,z]at this
    have P:¬wP t.hi s.hi<0:=fun i=>by
     have:=h t.hi E.2;rw[Q,d n fun _=>Zj i]at this;have z:wP s.lo t.hi<=0:=by rw[j];exact Zj g.1
     simp[vA,i,z]at this
    have:=(wy.flip s.hi t.hi);have:=(wy.flip t.hi s.hi);omega
   have L:s=t:=by obtain⟨a,b,c⟩:=s;obtain⟨R,S,T⟩:=t;simp only at j G q r;rw[j,G,q,r]
   subst L;rw[Ad f.2 g.2 (fun x N=>I x (by simp[N])) (fun x N=>H x (by simp[N])) fun c u=>?_];by_cases A:wP c s.hi<=0
   ·rw[WB f.2 A,WB g.2 A]
   ·have:=h c u;have B:vA s c=false:=by have:=wy.It A;simp[vA,q,show¬wP c s.hi<0 by omega]
    unfold yE at this⊢;rw[kV,kV,B]at this;exact this
  ·rw[q,zf (by simp)]at f;have:=h s.hi D.2;have F:yE (s::l) s.hi=false:=by rw[d n fun _=>by rw[wy.refl];exact zhj _];simp[vA,q,wy.refl]
   have z:wP t.lo s.hi<=0:=by rw[<-j];exact Zj f.1
   rw[F,d v fun e=>by rw[r]at e;cases e]at this;simp[vA,r,z]at this
  ·rw[r,zf (by simp)]at g;have:=h t.hi E.2;have F:yE (t::m) t.hi=false:=by rw[d v fun _=>by rw[wy.refl];exact zhj _];simp[vA,r,wy.refl]
   have z:wP s.lo t.hi<=0:=by rw[j];exact Zj g.1
   rw[F,d n fun e=>by rw[q]at e;cases e]at this;simp[vA,q,z]at this
  ·rw[q,zg rfl]at f;rw[r,zg rfl]at g;obtain⟨a,b,c⟩:=s;obtain⟨R,S,T⟩:=t;simp only at j q r f g;rw[f.1,g.1,j,q,r,f.2,g.2]
theorem PO{c:Cut}(Y:0<=c.v.a/\0<=c.v.b/\0<=c.v.c):wP q8 c<=0:=by
 obtain⟨⟨a,b,d,p⟩,f⟩:=c;obtain⟨k,l,m⟩:=Y;simp only at k l m;have g:∀x:Int,0<=x->wI 0 x=0/\x=0\/wI 0 x<0:=by
  intro x u;unfold wI;split
  ·right;omega
  ·split
   ·omega
   ·left;omega
 have j:yb [48] (p.headD [48])<=0:=by
  have o:xv [48]=true:=by decide
  unfold yb;rw[o];have r:Lib.trimLeftB [48] 48=[]:=by decide
  simp only[zK,r];split
  ·obtain⟨q,s⟩:=wM (Lib.trimLeftB (p.headD [48]) 48);rw[s];cases q with
   |nil=>decide
   |cons x q=>
    have:wI (([]:za).length) ((x::q).length)<0:=by
     rcases g ((x::q).length) (by omega)with⟨_,h⟩|h
     ·simp at h<;>omega
     ·exact h
    simp only[KE];rw[zf (by omega)];omega
  ·omega
 have t:QM ⟨0,0,0,[[48]]⟩ ⟨a,b,d,p⟩<=0:=by
  unfold QM;simp only;rcases g a k with⟨e1,_⟩|e1
  ·rcases g b l with⟨e2,_⟩|e2
   ·rcases g d m with⟨e3,_⟩|e3
    ·have i:KE [wI 0 a,wI 0 b,wI 0 d]=0:=by simp[KE,e1,e2,e3]
     rw[zg i,zf (by simp)];split
     ·omega
     ·cases p with
      |nil=>rename_i h;exact absurd rfl h
      |cons q p=>
       simp only[yl];split
       ·cases p<;>simp[yl]
       ·simpa using j
    ·have i:KE [wI 0 a,wI 0 b,wI 0 d]=wI 0 d:=by simp only[KE,e1,e2,zK];rw[zf (by omega)]
     rw[i,zf (by omega)];omega
   ·have i:KE [wI 0 a,wI 0 b,wI 0 d]=wI 0 b:=by simp only[KE,e1,zK];rw[zf (by omega)]
    rw[i,zf (by omega)];omega
  ·have i:KE [wI 0 a,wI 0 b,wI 0 d]=wI 0 a:=by simp only[KE];rw[zf (by omega)]
   rw[i,zf (by omega)];omega
 have e:wP q8 ⟨⟨a,b,d,p⟩,f⟩=if QM ⟨0,0,0,[[48]]⟩ ⟨a,b,d,p⟩=0 then(if false=f then 0 else if f=true then -1 else 1)else QM ⟨0,0,0,[[48]]⟩ ⟨a,b,d,p⟩:=rfl
 rw[e];by_cases n:QM ⟨0,0,0,[[48]]⟩ ⟨a,b,d,p⟩=0
 ·rw[zg n];cases f<;>simp
 ·rw[zf n];exact t
def b6(c:Cut):Prop:=0<=c.v.a/\0<=c.v.b/\0<=c.v.c
def Df(l:List wG):Prop:=∀s∈l,b6 s.lo/\b6 s.hi
theorem XH:jI [yt q8]:=(Q3 vQ).2
theorem Dg{m:List wG}{e:Option Cut}(f:aK e m)(a:jI m)(Y:Df m):kF and m [yt q8]=m:=by
 refine Ad (dQ a XH) (LU f) (vW _ a XH) a fun c _=>?_
 rw[nM rfl a XH];cases b:yE m c
 ·rfl
 ·have:wP q8 c<=0:=by unfold yE at b;rw[List.any_eq_true]at b;obtain⟨s,hs,d⟩:=b;simp only[vA,zD,q5]at d;exact wy.tr _ _ _ (PO (Y s hs).1) d.1
  simp[yE,vA,yt,this]
theorem LV{f:Bool->Bool->Bool}(h:f false false=false)(g:∀x y,f x y=f y x){a b:List wG}(d:jI a)(e:jI b):kF f a b=kF f b a:=by
 refine Ad (dQ d e) (dQ e d) (vW _ d e) (vW _ e d) fun c _=>?_
 rw[nM h d e,nM h e d,g]
theorem zaq(a b:Cut):aK none (eZ a b):=by
 unfold eZ;split
 ·trivial
 ·exact⟨fun q e=>(by cases e),by simp only[bN,zm,zQ];exact⟨by omega,trivial⟩⟩
theorem PQ(a:Cut):aK none [yt a]:=⟨fun q e=>(by cases e),by simp[yt]⟩
theorem LW(f:Bool->Bool->Bool){a b:List wG}(c:Df a)(d:Df b):Df (kF f a b):=rZ (Q:=b6) (by simp[b6,QP]) f c d
noncomputable def b7 (o:za) (p:Part):List wG×Bool:=if(vy (Kh o p)).2=true then((vy (Kh o p)).1,true)else([],false)
noncomputable def ZF:List wG->Bool->List bp->Option (List wG×Bool)
 |out,b,[]=>some (out,b)
 |out,b,a::l=>if a.1=[]/\yD a.2=true then ZF out b l else match Qd a.2 with
  |none=>none
  |some p=>ZF (kF and out (b7 a.1 p).1) (b&&(b7 a.1 p).2) l
def XI:List bp->Option (za×za)
 |[a,b,c]=>if b=([],[45])/\a.1=[]/\c.1=[]then some (a.2,c.2)else none
 |_=>none
noncomputable def dR (p q:Part):List wG×Bool:=if Qu q=true then(eZ (ZA p) (vw q),true)else([],false)
noncomputable def VK (t:za):Option (List wG×Bool):=match jV (ja t)with
 |none=>none
 |some l=>if l=[]then none else match XI l with
  |some a=>match Qd a.1,Qd a.2 with
   |some p,some q=>some (dR p q)
   |_,_=>none
  |none=>ZF [yt q8] true l
noncomputable def WC:List wG->Bool->List za->Option (List wG×Bool)
 |out,a,[]=>some (out,a)
 |out,a,s::l=>match VK s with
  |none=>none
  |some m=>WC (kF or out m.1) (a&&m.2) l
noncomputable def WD (t:za):List wG×Int:=if(400:Int)<t.length then([],2)else match WC [] true (qt t [124,124])with
 |none=>([],10)
 |some o=>if o.2=false then([],1)else if(100:Int)<o.1.length then([],2)else(o.1,0)
def xy(a:bp):Option xG:=if a.1=[]/\yD a.2=true then some ff else if(zP a.2).2=true then some (Kh a.1 (zP a.2).1)else none
def Vi:List bp->Option (List xG)
 |[]=>some []
 |a::l=>match xy a with
  |none=>none
  |some c=>(Vi l).map (c::·)
theorem Ae{w:za}(a:w≠[])(h:(wQ wx w).2=[]):(wQ wx w).1≠[]:=fun e=>by have:=QB wx w;rw[h,e]at this;exact a (by simpa using this.symm)
theorem PR:(zP []).2=false:=by decide
theorem zar:zP [45]=(⟨0,0,0,3,[]⟩,false):=by rfl
theorem nN:∀(n:Nat) (a:List za),a.length<=n->(∀w∈a,w≠[])->yH n a=(jV a).bind Vi
 |n,[],_,_=>by cases n<;>rfl
 | 0,w::a,h,_=>by simp at h
 |n+1,[w],_,g=>by
  have f:=g w (by simp);simp only[yH,jV];by_cases b:(wQ wx w).2=[]
  ·have i:=Ae f b;have:kp w []=none:=by unfold kp;rw[zf (fun h=>i h.1),zf (fun h=>h.2.2 rfl),b,PR];simp
   rw[this,zg b];rfl
  ·rw[zf b];have:kp w []=(xy (wQ wx w)).map fun c=>(c,[]):=by
    unfold kp xy;by_cases d:(wQ wx w).1=[]/\yD (wQ wx w).2=true
    ·rw[zg d,zg d];rfl
    ·rw[zf d,zf d,zf (fun h=>h.2.2 rfl)];split<;>rfl
   rw[this];simp only[zW,Vi];cases xy (wQ wx w)with
   |none=>rfl
   |some c=>cases n<;>rfl
 |n+1,w::x::a,m,g=>by
  have f:=g w (by simp);simp only[zd]at m;simp only[yH,jV];by_cases b:(wQ wx w).2=[]
  ·have i:=Ae f b;rw[zg b];have:kp w (x::a)=(xy ((wQ wx w).1,x)).map fun c=>(c,a):=by unfold kp xy;rw[zf (fun h=>i h.1),zg ⟨i,b,by simp⟩,zf (fun h=>i h.1)];simp only;split<;>rfl
   rw[this];have e:=nN n a (by omega) (fun y k=>g y (by simp[k]));cases j:jV a with
   |none=>
    rw[j]at e;simp only[xF,iR];cases xy ((wQ wx w).1,x)with
    |none=>rfl
    |some c=>simp only[zE,e];rfl
   |some l=>
    rw[j]at e;simp only[zE,zW,Vi];cases xy ((wQ wx w).1,x)with
    |none=>rfl
    |some c=>simp only[zE,e];rfl
  ·rw[zf b];have:kp w (x::a)=(xy (wQ wx w)).map fun c=>(c,x::a):=by
    unfold kp xy;by_cases d:(wQ wx w).1=[]/\yD (wQ wx w).2=true
    ·rw[zg d,zg d];rfl
    ·rw[zf d,zf d,zf (fun h=>b h.2.1)];split<;>rfl
   rw[this];have e:=nN n (x::a) (by simp only[zd];omega) (fun y k=>g y (by simp[zv.1 k]));cases j:jV (x::a)with
   |none=>
    rw[j]at e;simp only[xF,iR];cases xy (wQ wx w)with
    |none=>rfl
    |some c=>simp only[zE,e];rfl
   |some l=>
    rw[j]at e;simp only[zE,zW,Vi];cases xy (wQ wx w)with
    |none=>rfl
    |some c=>simp only[zE,e];rfl
theorem sy:∀(b:List za) (l:List bp),(∀w∈b,w≠[])->jV b=some l->(∀a∈l,a.1=[])->b=l.map (·.2)
 |[],l,_,h,_=>by simp only[jV]at h;injection h with h;subst h;rfl
 |[w],l,d,h,c=>by
  simp only[jV]at h;split at h
  ·cases h
  ·injection h with h;subst h;have:=c (wQ wx w) (by simp);have hd:=QB wx w;rw[this]at hd;simp only[wK,QE,hd,ze,ZK]
 |w::x::b,l,d,h,c=>by
  simp only[jV]at h;split at h
  ·rename_i f;cases e:jV b with
   |none=>rw[e]at h;cases h
   |some l'=>rw[e]at h;simp only[zE,zY]at h;subst h;exact absurd (c ((wQ wx w).1,x) (by simp)) (Ae (d w (by simp)) f)
  ·cases e:jV (x::b)with
   |none=>rw[e]at h;cases h
   |some l'=>rw[e]at h;simp only[zE,zY]at h;subst h;have g:=c (wQ wx w) (by simp);have hd:=QB wx w;rw[g]at hd;rw[sy (x::b) l' (fun y i=>d y (by simp[zv.1 i])) e fun a j=>c a (by simp[j])];simp only[wK,hd,ze,ZK]
theorem sA{c:UInt8}{l:za}(h:Kc c=false):xC (c::l)=none:=by unfold xC;rw[zf];rintro⟨a,_⟩;have:=(mS a).2;simp only[kg,wZ,h,Bool.false_and]at this;cases this
theorem nO{c d:UInt8}(h:c≠d)(l:za):∃p a,qt (c::l) [d]=(c::p)::a:=by obtain⟨p,a,e⟩:=PE d l;rw[b5];exact⟨p,a,by simp[oX,h,e]⟩
theorem zas{c:UInt8}{l:za}(f:Kc c=false)(j:c≠45)(g:c≠46):(zP (c::l)).2=false:=by
 unfold zP;split
 ·have b:∃q,(Lib.cut (c::l) [45]).1=c::q:=by
   unfold Lib.cut;split
   ·rename_i k;have d:¬(45:UInt8)=c:=fun e=>j e.symm
    rcases Lib.index_spec l [45]with⟨e,_⟩|⟨i,e,_⟩
    ·simp[Lib.index,d,e]at k
    ·have m:Lib.index (c::l) [45]=((i+1:Nat):Int):=by
      have:¬((i:Int)=-1):=by omega
      simp[Lib.index,d,e,this]
     rw[m];exact⟨l.take i,by simp⟩
   ·exact⟨l,rfl⟩
  obtain⟨q,n⟩:=b;obtain⟨p,h,e⟩:=nO g q;have:ug (c::l)=none:=by
   unfold ug;rw[n,e];split
   ·rename_i a;injection a with a _
    subst a;rw[sA f]
   ·rfl
  rw[this]
 ·split
  ·rfl
  ·obtain⟨p,h,e⟩:=nO g l;rw[e];have:yy wz 0 ((c::p)::h)=none:=by simp[yy,w6,sA f]
   rw[this]
theorem nQ:∀(a:List za) (w:za),(wQ a w).1≠[]->(wQ a w).1∈a/\(wQ a w).1 <+: w
 |[],w,h=>by simp[wQ]at h
 |g::a,w,h=>by
  simp only[wQ]at h⊢;split
  ·rename_i Y;exact⟨by simp,vi.1 Y⟩
  ·rename_i Y;rw[zf Y]at h;have:=nQ a w h;exact⟨by simp[this.1],this.2⟩
theorem HN{w:za}(h:(wQ wx w).1≠[]):(zP w).2=false:=by obtain⟨a,r,b⟩:=nQ wx w h;obtain⟨g,c⟩:=wM ((wQ wx w).1);rw[c]at a b;rw[<-b];simp only[wx,zv,wu,or_false]at a;rcases a with rfl|rfl|rfl|rfl|rfl|rfl|rfl<;>exact zas (by decide) (by decide) (by decide)
theorem HO(a:bp):xy a=none↔¬(a.1=[]/\yD a.2=true)/\Qd a.2=none:=by
 unfold xy;rw[ly];by_cases h:a.1=[]/\yD a.2=true
 ·simp[h]
 ·rw[zf h];cases (zP a.2).2<;>simp[h]
theorem Yu:∀(l:List bp) (out:List wG) (b:Bool),ZF out b l=none↔Vi l=none
 |[],out,b=>by simp[ZF,Vi]
 |a::l,out,b=>by
  simp only[ZF,Vi];by_cases h:a.1=[]/\yD a.2=true
  ·have:xy a=some ff:=by unfold xy;rw[zg h]
   rw[zg h,this,Yu l out b];simp
  ·rw[zf h];cases d:Qd a.2 with
   |none=>rw[(HO a).2 ⟨h,d⟩];simp
   |some p=>
    cases e:xy a with
    |none=>rw[((HO a).1 e).2]at d;cases d
    |some c=>simp only[Yu l];simp
theorem nR:∀(l:List bp) (out:List wG) (m:List wG×Bool),ZF out false l=some m->m.2=false
 |[],out,m,h=>by simp only[ZF]at h;injection h with h;rw[<-h]
 |a::l,out,m,h=>by
  simp only[ZF]at h;split at h
  ·exact nR l out m h
  ·split at h
   ·cases h
   ·exact nR l _ m (by simpa using h)
theorem PS:vy ff=([yt q8],true):=by simp[vy,ff]
theorem Af{p:Part}(h:p.ok):b6 (ZA p):=⟨h.1.1,h.2.1.1,h.2.2.1.1⟩
theorem b8{p:Part}(h:p.ok)(i:Nat):b6 (jw p i):=by have a:=h.1.1;have b:=h.2.1.1;have c:=h.2.2.1.1;unfold jw b6;split<;>simp only<;>omega
theorem nS{p:Part}(h:p.ok):b6 (vw p):=by
 unfold vw;split
 ·exact b8 h _
 ·exact Af h
theorem aq:b6 q8:=by simp[b6,q8]
theorem PT:b6 QP:=by simp[b6,QP]
theorem Vj{a b:Cut}(c:b6 a)(d:b6 b):Df (eZ a b):=by
 unfold eZ;split
 ·intro s hs;cases hs
 ·intro s hs;rw[wA]at hs;rw[hs];exact⟨c,d⟩
theorem dS{a:Cut}(b:b6 a):Df [yt a]:=fun s hs=>by rw[wA]at hs;rw[hs];exact⟨b,PT⟩
theorem PU{c:xG}(b:c.vY):Df (vy c).1:=by
 obtain⟨_,b⟩:=b;unfold vy;by_cases d:c.sign=jy
 ·rw[zg d];exact dS aq
 rw[zf d];obtain⟨⟨Y,_⟩,g⟩:=b.resolve_left d;have a:=Af Y;have f:=nS Y;split
 ·exact dS a
 split
 ·exact Vj aq a
 split
 ·exact dS f
 split
 ·exact Vj aq f
 split
 ·rename_i e;exact Vj a (nS (g e).1)
 split
 ·exact Vj a (b8 Y _)
 split
 ·exact Vj a (b8 Y _)
 ·exact Vj a f
def pM(o:za):Prop:=o=[]\/o∈wx
theorem nT:∀(c:List za) (l:List bp),jV c=some l->∀a∈l,pM a.1
 |[],l,h,a,b=>by simp only[jV]at h;injection h with h;subst h;cases b
 |[w],l,h,a,b=>by
  simp only[jV]at h;split at h
  ·cases h
  ·injection h with h;subst h;rw[wA]at b;rw[b];exact Ko wx w
 |w::x::c,l,h,a,b=>by
  simp only[jV]at h;split at h
  ·cases e:jV c with
   |none=>rw[e]at h;cases h
   |some l'=>
    rw[e]at h;simp only[zE,zY]at h;subst h;rcases zv.1 b with rfl|b
    ·exact Ko wx w
    ·exact nT c l' e a b
  ·cases e:jV (x::c)with
   |none=>rw[e]at h;cases h
   |some l'=>
    rw[e]at h;simp only[zE,zY]at h;subst h;rcases zv.1 b with rfl|b
    ·exact Ko wx w
    ·exact nT (x::c) l' e a b
theorem Qb{s:za}{p:Part}(h:Qd s=some p):(zP s).2=true/\(zP s).1=p/\p.ok/\Qy p.pre:=by
 rw[ly]at h;split at h
 ·rename_i e;injection h with h
  have:=Kn e;rw[h]at this;exact⟨e,h,this⟩
 ·cases h
theorem Dh{o:za}{p:Part}(a:pM o)(Y:p.ok)(b:Qy p.pre):(Kh o p).vY:=by have:=CA a;exact⟨this.1,.inr ⟨⟨Y,b⟩,fun e=>absurd e this.2⟩⟩
theorem fF:∀(l:List bp) (out:List wG) (cs:List xG) (m:List wG×Bool),(∀a∈l,pM a.1)->aK none out->jI out->Df out->Vi l=some cs->ZF out true l=some m->VA cs out=if m.2=true then some m.1 else none
 |[],out,cs,m,_,_,_,_,c,d=>by
  simp only[Vi]at c;simp only[ZF]at d;injection c with c
  injection d with d;subst c;subst d;rfl
 |a::l,out,cs,m,hs,o,g,i,c,d=>by
  simp only[Vi]at c;simp only[ZF]at d;have f:∀b∈l,pM b.1:=fun b r=>hs b (by simp[r])
  by_cases h:a.1=[]/\yD a.2=true
  ·have j:xy a=some ff:=by unfold xy;rw[zg h]
   rw[zg h]at d;rw[j]at c;simp only at c;cases e:Vi l with
   |none=>rw[e]at c;cases c
   |some cs'=>rw[e]at c;simp only[zE,zY]at c;subst c;simp only[VA,PS,zK];rw[Dg o g i];exact fF l out cs' m f o g i e d
  ·rw[zf h]at d;cases k:Qd a.2 with
   |none=>rw[k]at d;cases d
   |some p=>
    rw[k]at d;simp only at d;obtain⟨s,t,u,v⟩:=Qb k;have j:xy a=some (Kh a.1 p):=by unfold xy;rw[zf h,zg s,t]
    rw[j]at c;simp only at c;cases e:Vi l with
    |none=>rw[e]at c;cases c
    |some cs'=>
     rw[e]at c;simp only[zE,zY]at c;subst c;have n:=Dh (hs a (by simp)) u v;simp only[VA];unfold b7 at d;cases q:(vy (Kh a.1 p)).2
     ·rw[q]at d;simp only[zm,zQ,Bool.and_false]at d⊢;rw[nR l _ m d];simp
     ·rw[q]at d;simp only[zK,Jc]at d⊢;exact fF l _ cs' m f (dQ g (ab n).2) (vW and g (ab n).2) (LW and i (PU n)) e d
theorem au:∀(l:List bp),(∃a∈l,a.2=[45])->Vi l=none
 |[],h=>by obtain⟨a,d,_⟩:=h;cases d
 |a::l,h=>by
  simp only[Vi];obtain⟨b,c,e⟩:=h;rcases zv.1 c with rfl|c
  ·have:xy b=none:=by unfold xy;rw[e,zar];simp[yD]
   rw[this]
  ·rw[au l ⟨b,c,e⟩];cases xy a<;>rfl
theorem zdK(t:za):∀w∈ja t,w≠[]:=fun w a=>by unfold ja wJ at a;have:=(pY.1 a).2;simpa[oT]using this
theorem LX{l:List bp}{a:za×za}(h:XI l=some a):l=[([],a.1),([],[45]),([],a.2)]:=by
 unfold XI at h;split at h
 ·rename_i x y z;split at h
  ·rename_i d;injection h with h
   obtain⟨e,b,c⟩:=d;obtain⟨f,g⟩:=x;obtain⟨i,j⟩:=z;simp only at b c h;rw[<-h,e,b,c]
  ·cases h
 ·cases h
theorem XJ:wQ wx [45]=([],[45]):=by decide
theorem Di(t:za):((QN t).2=false->VK t=none)/\((QN t).2=true->∃m,VK t=some m/\VA (QN t).1 [yt q8]=if m.2=true then some m.1 else none):=by
 have A:=zdK t;have J:∀n,ja t=n->QN t=(match yH n.length n with
   |some l=>(l,!l.isEmpty)
   |none=>([],false))->(∀l,jV n=some l->XI l=none)->((QN t).2=false->VK t=none)/\((QN t).2=true->∃m,VK t=some m/\VA (QN t).1 [yt q8]=if m.2=true then some m.1 else none):=by
  intro n o C hd;rw[o]at A;rw[nN n.length n (zk _) A]at C;rw[C];unfold VK;rw[o];cases D:jV n with
  |none=>exact⟨fun _=>rfl,fun h=>by cases h⟩
  |some l=>
   have K:=hd l D;simp only[zW];by_cases f:l=[]
   ·subst f;simp[Vi]
   ·rw[zf f,K];simp only;have E:=Yu l [yt q8] true;cases u:Vi l with
    |none=>exact⟨fun _=>E.2 u,fun h=>by cases h⟩
    |some cs=>
     have S:cs≠[]:=by
      cases l with
      |nil=>exact absurd rfl f
      |cons a l=>
       simp only[Vi]at u;split at u
       ·cases u
       ·cases h:Vi l<;>rw[h]at u<;>simp at u;rw[<-u];simp
     have F:cs.isEmpty=false:=by cases cs<;>simp_all
     cases I:ZF [yt q8] true l with
     |none=>rw[E.1 I]at u;cases u
     |some m=>exact⟨fun h=>by simp[F]at h,fun _=>⟨m,rfl,fF l _ cs m (nT n l D) (PQ _) XH (dS aq) u I⟩⟩
 obtain⟨n,o⟩:=wM (ja t);by_cases g:∃a c,n=[a,[45],c]
 ·obtain⟨a,c,rfl⟩:=g;have C:QN t=([⟨[45],(zP a).1,(zP c).1⟩],(zP a).2&&(zP c).2):=by unfold QN;rw[fE,o];simp
  rw[o]at A;have G:a≠[]:=A a (by simp);have L:c≠[]:=A c (by simp);by_cases i:(wQ wx a).1=[]
  ·by_cases v:(wQ wx c).1=[]
   ·have H:wQ wx a=([],a):=by have:=QB wx a;rw[i]at this;exact Sw i (by simpa using this)
    have P:wQ wx c=([],c):=by have:=QB wx c;rw[v]at this;exact Sw v (by simpa using this)
    have D:jV [a,[45],c]=some [([],a),([],[45]),([],c)]:=by rw[Yt _ _ (by rw[H];exact G),Yt _ _ (by rw[XJ];simp),Yt _ _ (by rw[P];exact L),H,P,XJ];rfl
    have I:VK t=match Qd a,Qd c with
      |some p,some q=>some (dR p q)
      |_,_=>none:=by
     unfold VK;rw[o,D];simp only[Sx,zQ,reduceCtorEq];rfl
    rw[I,C];cases j:Qd a with
    |none=>
     rw[ly]at j;have:(zP a).2=false:=by
      cases h:(zP a).2 with
      |false=>rfl
      |true=>rw[h]at j;simp at j
     rw[this];exact⟨fun _=>rfl,fun h=>by cases h⟩
    |some p=>
     obtain⟨T,U,W,X⟩:=Qb j;cases w:Qd c with
     |none=>
      rw[ly]at w;have:(zP c).2=false:=by
       cases h:(zP c).2 with
       |false=>rfl
       |true=>rw[h]at w;simp at w
      rw[this,Bool.and_false];exact⟨fun _=>rfl,fun h=>by cases h⟩
     |some q=>
      obtain⟨q1,q2,q3,q4⟩:=Qb w;rw[T,q1,U,q2];refine⟨fun h=>(by cases h),fun _=>⟨dR p q,rfl,?_⟩⟩;have hs:vy ⟨[45],p,q⟩=(eZ (ZA p) (vw q),Qu q):=by simp[vy,jy]
      simp only[VA,hs];unfold dR;have Q:jI (eZ (ZA p) (vw q)):=(Wz (nm X) (aa q4)).2;cases R:Qu q
      ·simp
      ·simp only[zK];rw[LV rfl Bool.and_comm XH Q,Dg (zaq _ _) Q (Vj (Af W) (nS q3))]
   ·have r:(QN t).2=false:=by rw[C,HN v,Bool.and_false]
    refine⟨fun _=>?_,fun h=>by rw[r]at h;cases h⟩;have H:wQ wx a=([],a):=by have:=QB wx a;rw[i]at this;exact Sw i (by simpa using this)
    unfold VK;rw[o,Yt _ _ (by rw[H];exact G),Yt _ _ (by rw[XJ];simp)];simp only[jV];split
    ·rfl
    ·rename_i l f;cases d:(if(wQ wx c).2=[]then none else some [wQ wx c]:Option (List bp))with
     |none=>rw[d]at f;cases f
     |some k=>
      have R:k=[wQ wx c]:=by
       split at d
       ·cases d
       ·injection d with d;exact d.symm
      rw[d]at f;simp only[zE,zY,H,XJ]at f;subst f;subst R;simp only[Sx,zQ,reduceCtorEq];have s:XI [(([]:za),a),([],[45]),wQ wx c]=none:=by simp[XI,v]
      rw[s];simp only;rw[Yu];exact au _ ⟨([],[45]),by simp,rfl⟩
  ·have r:(QN t).2=false:=by rw[C,HN i];rfl
   refine⟨fun _=>?_,fun h=>by rw[r]at h;cases h⟩;unfold VK;rw[o];simp only[jV];by_cases j:(wQ wx a).2=[]
   ·rw[zg j];split
    ·rfl
    ·rename_i l f;cases d:(if(wQ wx c).2=[]then none else some [wQ wx c]:Option (List bp))with
     |none=>rw[d]at f;cases f
     |some k=>
      rw[d]at f;simp only[zE,zY]at f;subst f;simp only[Sx,zQ,reduceCtorEq];have s:XI (((wQ wx a).1,[45])::k)=none:=by
       unfold XI;split
       ·rename_i x y z B;injection B with N _
        rw[<-N];simp[i]
       ·rfl
      rw[s];simp only;rw[Yu];exact au _ ⟨((wQ wx a).1,[45]),by simp,rfl⟩
   ·rw[zf j];simp only[XJ,Sx,zQ,reduceCtorEq];split
    ·rfl
    ·rename_i l f;cases d:(if(wQ wx c).2=[]then none else some [wQ wx c]:Option (List bp))with
     |none=>rw[d]at f;cases f
     |some k=>
      rw[d]at f;simp only[zE,zY]at f;subst f;simp only[Sx,zQ,reduceCtorEq];have s:XI (wQ wx a::([],[45])::k)=none:=by
       unfold XI;split
       ·rename_i x y z B;injection B with N _
        rw[<-N];simp[i]
       ·rfl
      rw[s];simp only;rw[Yu];exact au _ ⟨([],[45]),by simp,rfl⟩
 ·refine J n o ?_ ?_
  ·unfold QN;rw[fE,o];split
   ·rename_i a b c;rw[zf (fun e=>g ⟨a,c,by rw[e]⟩)];rfl
   ·rfl
  ·intro l D;cases hd:XI l with
   |none=>rfl
   |some a=>have f:=LX hd;rw[o]at A;have:=sy n l A D (by rw[f];simp);rw[f]at this;exact absurd ⟨a.1,a.2,this⟩ g
theorem b9:∀(l:List za) (out:List wG) (a:Bool),WC out a l=none↔oU l=none
 |[],out,a=>by simp[WC,oU]
 |s::l,out,a=>by
  obtain⟨b,c⟩:=Di s;simp only[WC,oU];cases h:(QN s).2
  ·rw[b h];simp
  ·obtain⟨m,e,_⟩:=c h;rw[e];simp only[b9 l,zK];cases oU l<;>simp
theorem sB:∀(l:List za) (out:List wG) (m:List wG×Bool),WC out false l=some m->m.2=false
 |[],out,m,h=>by simp only[WC]at h;injection h with h;rw[<-h]
 |a::l,out,m,h=>by
  simp only[WC]at h;split at h
  ·cases h
  ·exact sB l _ m (by simpa using h)
theorem nU:∀(l:List za) (out:List wG) (d:List (List xG)) (m:List wG×Bool),oU l=some d->WC out true l=some m->dz d out=if m.2=true then some m.1 else none
 |[],out,d,m,a,b=>by
  simp only[oU]at a;simp only[WC]at b;injection a with a
  injection b with b;subst a;subst b;rfl
 |s::l,out,d,m,a,b=>by
  obtain⟨n,i⟩:=Di s;simp only[oU]at a;simp only[WC]at b;cases h:(QN s).2
  ·rw[h]at a;simp at a
  ·rw[h]at a;simp only[zK]at a;obtain⟨k,e,j⟩:=i h;rw[e]at b;simp only[XW]at b;cases f:oU l with
   |none=>rw[f]at a;cases a
   |some g=>
    rw[f]at a;simp only[zE,zY]at a;subst a;simp only[dz,j];cases c:k.2
    ·rw[c]at b;rw[sB l _ m b];simp
    ·rw[c]at b;simp only[zK];exact nU l _ g m f b
theorem Ag(t:za):WD t=Qz t:=by
 unfold WD Qz;split
 ·rfl
 ·cases a:oU (qt t [124,124])with
  |none=>rw[(b9 _ [] true).2 a]
  |some c=>
   cases b:WC [] true (qt t [124,124])with
   |none=>rw[(b9 _ _ _).1 b]at a;cases a
   |some m=>
    have:=nU _ _ c m a b;simp only[this];cases d:m.2
    ·simp
    ·simp
noncomputable def WY (o:za) (v:yC) (m:Int):O:=.wL [.sl 11 (qn (b7 o (v.part m)).1),int (if(b7 o (v.part m)).2=true then 0 else 1)]
noncomputable def FOVI:zb->Option O:=qW (α:=za×yC×Int) (fun a=>[str a.1,.agg a.2.1.V,int a.2.2]) (fun a=>pM a.1/\a.2.1.ok/\1<=a.2.2/\a.2.2<=3) (fun a=>WY a.1 a.2.1 a.2.2)
theorem LY(o:za)(v:yC)(m:Int)(Y:Hp)(Z:Nat)(c:pM o)(d:v.ok)(f:1<=m/\m<=3):qK [.a,.g vd] FOVI [str o,.agg v.V,int m] Y Z=some (WY o v m,Y,Z):=
 vL (show zH Y [str o,.agg v.V,int m]=some ([str o,.agg v.V,int m],Y) by simp[yC.V]) (by
  show FOVI [str o,(Sh.g vd).fix (.agg v.V),int m]=_;rw[Kq];exact qX (V:=fun a:List UInt8×yC×Int=>[str a.1,O.agg a.2.1.V,int a.2.2]) (a:=(o,v,m)) (fun x y e=>by obtain⟨j,k,l⟩:=x;obtain⟨n,p,q⟩:=y;simp only[zq,qh]at e;obtain⟨h,b,i⟩:=e;injection b with b;rw[yp h,Ke b,qA i]) ⟨c,d,f⟩) (.inr (by simp[yC.V]))
abbrev qst:List Nat:=[166,218,222,223]
noncomputable abbrev Crst:Ctx:=qj prog [(217,qK [.g vd] (Tk Wj fun m=>1<=m/\m<=3)),(166,qK [] (YO e8)),(218,qK [.g jQ,.g jQ] (B9 K4)),(222,qK [.g vd] (Tk xS fun i=>0<=i/\i<3)),(223,qK [.g vd] (Tk xx fun m=>1<=m/\m<=3))]
theorem zat:AM.Good Crst (fun g=>qst.contains g):=qx mixed ⟨dP,by simp,dO,fun _=>jn _ _,gR,fun _=>jn _ _,bn,fun _=>jn _ _,u6,fun _=>jn _ _,trivial⟩
theorem yC.ok.small{v:yC}(h:v.ok):vr v.pre:=h.2.2.2
theorem pN(o:za)(v:yC)(m:Int)(t:pM o)(I:v.ok)(U:1<=m/\m<=3):∃r0,zG Crst f169 [str o,.agg v.V,int m]=some r0/\wW r0 (WY o v m):=by
 refine y6 (sh:=.s 11 jA) rfl ?_;have K:=I.small;have g:=fun Y Z=>XC Wj (fun m=>1<=m/\m<=3) v m (.agg v.V) Y Z I U (Kq v) (XD v Y) (XE v)
 have r:=fun Y Z=>XC xx (fun m=>1<=m/\m<=3) v m (.agg v.V) Y Z I U (Kq v) (XD v Y) (XE v)
 have w:=fun(i:Int) (C:0<=i/\i<3) Y Z=>XC xS (fun i=>0<=i/\i<3) v i (.agg v.V) Y Z I C (Kq v) (XD v Y) (XE v)
 have x:∀(Y:Hp) (Z:Nat),qK [] (YO e8) [] Y Z=some (.agg [int q8.v.a,int q8.v.b,int q8.v.c,.sl 1 (qJ q8.v.pre),yh q8.after],Y,Z):=fun Y Z=>Q1 _ Y Z
 have k:ZA (v.part m)=⟨v,false⟩:=rfl;have l:vr (v.part m).pre:=K;have D:=fun Y Z=>We q8 (ZA (v.part m)) Y Z uv (Z9 l)
 have y:=fun Y Z=>We q8 (vw (v.part m)) Y Z uv (Q2 l)
 have z:=fun Y Z=>We (ZA (v.part m)) (vw (v.part m)) Y Z (Z9 l) (Q2 l)
 have A:=fun i Y Z=>We (ZA (v.part m)) (jw (v.part m) i) Y Z (Z9 l) (K5 _ i)
 have E:=fun i=>gQ v 3 m i
 simp only[K4,k,yC.V,Cut.V,Wj,Ju,xx,xS,ve,(E _).1,(E _).2]at g r w D y z A;have W:=wj (m-1);have F:(v.part m).has=m:=rfl;have G:∀o':za,o'=o->o'≠jy:=fun o' e=>by
  subst e;rcases t with rfl|t
  ·decide
  ·intro e;rw[e]at t;revert t;decide
 have L:o≠[45]:=by
  rcases t with rfl|t
  ·decide
  ·intro e;rw[e]at t;revert t;decide
 have n0:=G o rfl;have one:∀(X:List wG) (b:Bool),vy (Kh o (v.part m))=(X,b)->b7 o (v.part m)=if b=true then(X,true)else([],false):=fun X b h=>by unfold b7;rw[h]
 by_cases N:o=[62,61]
 ·subst N;have d:=one [yt (ZA (v.part m))] true (by simp[vy,Kh,jy]);simp at d;simp[yC.V,Cut.V,g,zI,qe,zs,zF,zr,qy,WY,d,k,qn,yt,wG.V,QP,f169]
 have n:=jl N;by_cases P:o=[60]
 ·subst P;have d:=one (eZ q8 (ZA (v.part m))) true (by simp[vy,Kh,jy]);simp at d;simp[yC.V,Cut.V,g,x,D,n,zI,qe,zs,zF,zr,qy,WY,d,k,qn,wG.V,f169]
 have q:=jl P;by_cases Q:o=[62]
 ·subst Q;have d:=one [yt (vw (v.part m))] (Qu (v.part m)) (by simp[vy,Kh,jy]);cases j:Qu (v.part m)
  ·rw[j]at d g;simp at d;simp[yC.V,Cut.V,g,n,q,zI,qe,zs,zF,zr,qy,WY,d,qn,f169]
  ·rw[j]at d g;simp at d;simp[yC.V,Cut.V,g,n,q,zI,qe,zs,zF,zr,qy,WY,d,qn,yt,wG.V,QP,f169]
 have u:=jl Q;by_cases R:o=[60,61]
 ·subst R;have d:=one (eZ q8 (vw (v.part m))) (Qu (v.part m)) (by simp[vy,Kh,jy]);cases j:Qu (v.part m)
  ·rw[j]at d g;simp at d;simp[yC.V,Cut.V,g,x,y,n,q,u,zI,qe,qy,WY,d,qn,f169]
  ·rw[j]at d g;simp at d;simp[yC.V,Cut.V,g,x,y,n,q,u,zI,qe,qy,WY,d,qn,wG.V,Cut.V,f169]
 have B:=jl R;by_cases S:o=[126]
 ·subst S;have d:=one (eZ (ZA (v.part m)) (jw (v.part m) (min (m-1) 1).toNat)) (vC (v.part m) (min (m-1) 1).toNat) (by simp[vy,Kh,jy,F]);have H:(if 1<m-1 then 1 else m-1)=(((min (m-1) 1).toNat:Nat):Int):=by split<;>omega
  have hmn:(min (m-1) 1).toNat<3:=by omega
  have f:=w (((min (m-1) 1).toNat:Nat):Int) (by omega);simp only[JE]at f;rw[<-H]at f;obtain⟨i,C⟩:=wM ((min (m-1) 1).toNat);rw[C]at d f;have p:=fun Y Z=>A i Y Z
  cases j:vC (v.part m) i
  ·rw[j]at d f;simp at d;simp[yC.V,Cut.V,g,W,f,p,n,q,u,B,zI,qe,qy,WY,d,qn,f169]
  ·rw[j]at d f;simp at d;simp[yC.V,Cut.V,g,W,f,p,n,q,u,B,zI,qe,qy,WY,d,k,qn,wG.V,f169]
 have J:=jl S;by_cases T:o=[94]
 ·subst T;have d:=one (eZ (ZA (v.part m)) (jw (v.part m) (jM (v.part m)))) (vC (v.part m) (jM (v.part m))) (by simp[vy,Kh,jy]);have hci:=Lm (v.part m);have f:=w ((jM (v.part m):Nat):Int) (by omega);simp only[JE]at f;obtain⟨i,C⟩:=wM (jM (v.part m));rw[C]at d f r;have p:=fun Y Z=>A i Y Z
  cases j:vC (v.part m) i
  ·rw[j]at d f;simp at d;simp[yC.V,Cut.V,g,r,f,p,n,q,u,B,J,zI,qe,qy,WY,d,qn,f169]
  ·rw[j]at d f;simp at d;simp[yC.V,Cut.V,g,r,f,p,n,q,u,B,J,zI,qe,qy,WY,d,k,qn,wG.V,f169]
 have e7:=jl T;have d:=one (eZ (ZA (v.part m)) (vw (v.part m))) (Qu (v.part m)) (by simp[vy,Kh,n0,N,P,Q,R,L,S,T]);cases j:Qu (v.part m)
 ·rw[j]at d g;simp at d;simp[yC.V,Cut.V,g,z,n,q,u,B,J,e7,zI,qe,qy,WY,d,qn,f169]
 ·rw[j]at d g;simp at d;simp[yC.V,Cut.V,g,z,n,q,u,B,J,e7,zI,qe,qy,WY,d,k,qn,wG.V,f169]
theorem nV:zi prog 169 (qK [.a,.g vd] FOVI):=
 yf (fn:=f169) zat (wc func169) _ _ fun args r h=>by obtain⟨⟨o,v,m⟩,rfl,⟨b,c,d⟩,rfl⟩:=zL h;obtain⟨r0,e,f⟩:=pN o v m b c d;exact⟨by simp[f169],r0,e,f⟩
def Q5(l:List bp):List zb:=l.map fun a=>[str a.1,str a.2]
def iM(s:za):List bp×Bool:=match jV (ja s)with
 |some l=>(l,!l.isEmpty)
 |none=>([],false)
def pO(s:za):O:=.wL [.sl 2 (Q5 (iM s).1),yh (iM s).2]
noncomputable abbrev Crwo:Ctx:=qj prog [(214,zn false [] (WV tbP fun _ b=>uc b)),(216,zn false [] (M0 Ge)),(215,zn false [] (WV tlP fun _ b=>uc b)),(61,zn false [] (MZ Et))]
theorem zau:Gd Crwo:=qQ mixed ⟨BU,iL,YK,xf,trivial⟩
theorem sC(a:za)(Y:Hp)(Z:Nat)(h:a.length<=qg):zn false [] (WV tlP fun _ b=>uc b) [str a,str [32]] Y Z=some (str (Lib.trimLeftB a 32),Y,Z):=Zz _ _ a [32] Y Z h (by decide) ⟨32,rfl,by decide⟩ rfl
theorem LZ(a:za)(Y:Hp)(Z:Nat)(h:a.length<=qg):zn false [] (WV tbP fun _ b=>uc b) [str a,str [32]] Y Z=some (str (Lib.trimB a 32),Y,Z):=Zz _ _ a [32] Y Z h (by decide) ⟨32,rfl,by decide⟩ rfl
theorem PW:∀s:za,(Lib.indexByte s 32=((hd s).length:Int)/\(hd s).length<s.length)\/(Lib.indexByte s 32=-1/\hd s=s)
 |[]=>.inr ⟨rfl,rfl⟩
 |c::s=>by
  by_cases a:c=32
  ·subst a;exact .inl ⟨by simp[Lib.indexByte,hd],by simp[hd]⟩
  ·have b:hd (c::s)=c::hd s:=by simp[hd,a]
   rcases PW s with⟨d,e⟩|⟨d,e⟩
   ·refine .inl ⟨?_,by rw[b];simpa using e⟩;rw[b];have:¬Lib.indexByte s 32=-1:=by omega
    simp[Lib.indexByte,a,d]
    try omega
   ·refine .inr ⟨?_,by rw[b,e]⟩;simp[Lib.indexByte,a,d]
theorem zav(s:za):s.take (hd s).length=hd s/\s.drop (hd s).length=tl s:=by have h:=gS s;exact⟨(bq.1 ⟨tl s,h⟩).symm,by have:=zp (List.drop (hd s).length) h;simpa using this.symm⟩
def L0:O->Nat
 | .v (.string s)=>s.size
 |_=>0
theorem nW(l:List bp):(Q5 l).length=l.length:=by simp[Q5]
theorem PX(l:List bp):(Q5 l).map (QL [none,none])=Q5 l:=by simp[Q5]
def WoI(a:za)(st:St):Prop:=∃(s:za) (l:List bp),st.M 0=str s/\HK s/\s.length+l.length<=a.length/\qN st.Y st.Z 172 2 (st.M 4) (Q5 l)/\jV (ja a)=(jV (ja s)).map (l++·)
theorem PY{b s:za}{l:List bp}{a:bp}{st:St}(c:st.M 0=str (Lib.trimLeftB s 32))(hs:(Lib.trimLeftB s 32).length+(l.length+1)<=b.length)(d:qN st.Y st.Z 172 2 (st.M 4) (Q5 l++[[str a.1,str a.2]]))(e:jV (ja b)=(jV (ja s)).map (fun x=>l++[a]++x)):WoI b st:=
 ⟨Lib.trimLeftB s 32,l++[a],c,Jz s,by simpa using hs,by simpa[Q5]using d,by rw[e,ak]⟩
theorem Dj(t:za)(ht:t.length<=qg):∃r0,zG Crwo f164 [str t]=some r0/\wW r0 (pO t):=by
 refine y6 (sh:=.s 2 [none,none]) rfl ?_;have X:=fun Y Z=>LZ t Y Z ht
 have H:(Lib.trimB t 32).length<=t.length:=by
  have h1:=al (Lib.trimRightB t 32);have h2:(Lib.trimRightB t 32).length<=t.length:=by unfold Lib.trimRightB;rw[List.length_reverse];exact z8 (List.dropWhile_sublist _).length_le (by simp)
  exact z8 h1 h2
 have hR:∀l:List bp,jV (ja t)=some l->iM t=(l,!l.isEmpty):=fun l h=>by unfold iM;rw[h]
 have hN:jV (ja t)=none->iM t=([],false):=fun h=>by unfold iM;rw[h]
 simp[X];refine l9 (WoI t) (fun st=>L0 (st.M 0)) ⟨Lib.trimB t 32,[],by simp,Jz _,by simpa using H,.inl ⟨by simp,rfl⟩,by rw[PH];cases jV (ja t)<;>rfl⟩ ?_;rintro⟨M,Y,Z⟩ ⟨s,l,u,htr,hsl,hO,I⟩;simp only at u hO;by_cases hs:s=[]
 ·subst hs;have he':jV (ja t)=some l:=by rw[I,u7];simp[jV]
  have J:=hR l he';have hfx:=PX l;have j:=nW l;have hb1:(decide (0<l.length))=!l.isEmpty:=by cases l<;>simp
  rcases hO with⟨U,hn⟩|⟨id,hid,U,hb⟩
  ·have hl:l=[]:=by simpa[Q5]using hn
   subst hl;simp[u,U,qy,pO,J,Q5,f164]
  ·rw[j]at U;have f:(Q5 l).take l.length=Q5 l:=qi (by omega);simp[u,U,hb,j,f,hfx,hb1,qy,pO,J,f164]
 ·have hh:hd s≠[]:=htr.resolve_left hs;have k:s.isEmpty=false:=by cases s with
   |nil=>exact absurd rfl hs
   |cons c s=>rfl
  have b:=PL hh;have g:=fun h=>PM (s:=s) h
  unfold qg at ht;have C:s.length<=qg:=by unfold qg;omega
  have d:=fun Y Z=>c7 Ge s Y Z C rfl
  have D:=QB wx s;have i:(wQ wx s).1.length<=s.length:=by
   rcases Ko wx s with h|h
   ·rw[h];simp
   ·by_cases m:(wQ wx s).1=[]
    ·rw[m];simp
    ·exact(nQ wx s m).2.length_le
  have E:=K7 wx s;simp only[Ge]at d;unfold Ab at b g;simp only at b g;obtain⟨o,r,hor⟩:∃o r,wQ wx s=(o,r):=⟨_,_,rfl⟩;rw[hor]at d D i E b g;simp only at d D i E b g;have n:=fun Y Z=>sC r Y Z (by unfold qg;omega)
  have f:(s.drop o.length).take (s.length-o.length)=r:=by rw[D];exact qi (by simp)
  obtain⟨s1,K⟩:=wM (Lib.trimLeftB r 32);have hs1l:s1.length<=s.length:=by rw[<-K];exact z8 (al r) E
  rw[K]at n b g;have w:∀Y Z,zn false [] (MZ Et) [str s1,.v (.int .u8 32)] Y Z=some (int (Lib.indexByte s1 32),Y,Z):=fun Y Z=>Xe Et s1 32 Y Z (by unfold qg;omega) rfl
  obtain⟨L,N⟩:=zav s1;have B:(s1.drop (hd s1).length).take (s1.length-(hd s1).length)=tl s1:=by rw[N];exact qi (by rw[<-N];simp)
  have Q:(hd s1).length<=s1.length:=by have:=zp List.length (gS s1);rw[w7]at this;omega
  have p:=fun Y Z=>sC (tl s1) Y Z (by have:=zp List.length (gS s1);rw[w7]at this;unfold qg;omega)
  have j:=nW l;have F:=qN.ji (P:=prog) (t:=168) (c:=[str o,str (hd s1)]) hO zgr zgs zgt zgu rfl (by omega) (by rw[j];unfold maxLen;omega) (by rw[j];omega);have hoe:(s.isEmpty)=false:=k;by_cases m:hd s1=[]
  ·rw[zg m]at b;rw[b]at I;have J:=hN I;rcases PW s1 with⟨y,hil⟩|⟨y,q⟩
   ·rw[m]at y;simp at y;simp[u,hs,k,d,i,f,n,w,y,qy,pO,J,Q5,f164]
   ·have R:s1=[]:=by rw[<-q];exact m
    subst R;simp[u,hs,k,d,i,f,n,w,y,qy,pO,J,Q5,f164]
  ·have hlt':=g m;rw[zf m]at b;rw[b]at I;have z:¬(hd s1).length=0:=fun e=>m (qM.1 e)
   have S:=al (tl s1);have A:jV (ja t)=(jV (ja (tl s1))).map (fun x=>l++[((o,hd s1):bp)]++x):=by rw[I];cases jV (ja (tl s1))<;>simp
   have W:L0 (str (Lib.trimLeftB (tl s1) 32))<L0 (M 0):=by rw[u];simp[L0];omega
   rw[u]at W;have hnn:¬((hd s1).length:Int)<0:=by omega
   have G:(((hd s1).length:Int)==0)=false:=by simpa using m
   rcases PW s1 with⟨y,hil⟩|⟨y,q⟩
   ·simp[u,hs,k,d,i,f,n,w,y,hnn,G,m,z,Q,L,B,p,F,zI,qe,zs,zF,zr];exact⟨PY (s:=tl s1) (l:=l) (a:=(o,hd s1)) (by simp) (by omega) (by simpa using qN.after) A,by simpa[L0]using W⟩
   ·rw[q]at z L B Q F A;have T:s1≠[]:=fun e=>z (by rw[e];rfl)
    rw[q]at G;have hte:tl s1=[]:=by have:=zp List.length (gS s1);rw[w7,q]at this;exact qM.1 (by omega)
    rw[hte]at p A S W;simp[u,hs,k,d,i,f,n,w,y,G,z,T,p,F,zI,qe,zs,zF,zr];exact⟨PY (s:=[]) (l:=l) (a:=(o,s1)) (by simp) (by have h9:=kc.2 hs;rw[show Lib.trimLeftB [] 32=[]from rfl,ze];omega) (by simpa using qN.after) A,by simpa[L0]using W⟩
theorem Ah:zi prog 164 (zn false [] (M0 pO)):=
 Js (fn:=f164) zau (wc func164) false [] _ fun args r h w S vs a=>by obtain⟨l,rfl,Y,rfl⟩:=zL h;obtain⟨r0,b,c⟩:=Dj l Y;exact⟨_,r0,a,by simp[f164],b,c⟩
theorem nX{s:za}{p:Part}(h:Qd s=some p):(VJ s).2.2=true/\(VJ s).2.1=p.has/\(VJ s).2.1≠0/\p=(VJ s).1.part (VJ s).2.1/\(VJ s).1.ok/\1<=p.has/\p.has<=3:=by
 have f:=h;rw[HJ]at h;split at h
 ·rename_i d;injection h with h
  obtain⟨_,_,Y,j⟩:=Qb f;subst h;obtain⟨a,b,c,⟨g,i⟩,e⟩:=Y;exact⟨d.1,rfl,d.2,rfl,⟨a,b,c,e⟩,g,i⟩
 ·cases h
theorem nY{s:za}(h:Qd s=none):(VJ s).2.2=false\/(VJ s).2.1=0:=by
 rw[HJ]at h;split at h
 ·cases h
 ·rename_i b;by_cases a:(VJ s).2.1=0
  ·exact .inr a
  ·left;cases c:(VJ s).2.2
   ·rfl
   ·exact absurd ⟨c,a⟩ b
noncomputable def nZ (a b:za):List wG×Int:=match Qd a,Qd b with
 |some p,some q=>((dR p q).1,if(dR p q).2=true then 0 else 1)
 |_,_=>([],10)
noncomputable def XK (a b:za):O:=.wL [.sl 11 (qn (nZ a b).1),int (nZ a b).2]
def one1(a b:za):Prop:=a.length+1<=qg/\b.length+1<=qg
noncomputable abbrev Crbt:Ctx:=qj prog [(168,zn false [] (aF Ga)),(217,qK [.g vd] (Tk Wj fun m=>1<=m/\m<=3)),(218,qK [.g jQ,.g jQ] (B9 K4))]
theorem zaw:Gd Crbt:=qQ mixed ⟨YT,dP,gR,trivial⟩
theorem pP(a b:za)(t:one1 a b):∃r0,zG Crbt f165 [str a,str b]=some r0/\wW r0 (XK a b):=by
 obtain⟨E,F⟩:=t;refine y6 (sh:=.s 11 jA) rfl ?_;have f:=fun Y Z=>Zd Ga a Y Z E
 have g:=fun Y Z=>Zd Ga b Y Z F
 simp only[Ga,yC.V]at f g;cases i:Qd a with
 |none=>
  have d:nZ a b=([],10):=by unfold nZ;rw[i]
  rcases nY i with h|h
  ·simp[f,g,h,qy,XK,d,qn,f165]
  ·cases G:(VJ a).2.2<;>cases u:(VJ b).2.2<;>simp[f,g,h,G,u,qy,XK,d,qn,f165]
 |some p=>
  obtain⟨n,L,H,y,I,N,P⟩:=nX i;have e:=jl H;cases o:Qd b with
  |none=>
   have d:nZ a b=([],10):=by unfold nZ;rw[i,o]
   rcases nY o with h|h
   ·simp[f,g,n,e,h,qy,XK,d,qn,f165]
   ·cases u:(VJ b).2.2<;>simp[f,g,n,e,h,u,qy,XK,d,qn,f165]
  |some q=>
   obtain⟨z,J,K,A,B,C,D⟩:=nX o;have j:=jl K;have d:nZ a b=((dR p q).1,if(dR p q).2=true then 0 else 1):=by unfold nZ;rw[i,o]
   rw[<-J]at C D;have c:=fun Y Z=>XC Wj (fun m=>1<=m/\m<=3) (VJ b).1 (VJ b).2.1 (.agg (VJ b).1.V) Y Z B ⟨C,D⟩ (Kq _) (XD _ Y) (XE _)
   have k:ZA p=⟨(VJ a).1,false⟩:=by rw[y];rfl
   have v:vr p.pre:=by rw[y];exact I.small
   have w:vr q.pre:=by rw[A];exact B.small
   have l:=fun Y Z=>We (ZA p) (vw q) Y Z (Z9 v) (Q2 w)
   simp only[K4,k,yC.V,Cut.V,Wj,Ju,<-A]at c l;cases r:Qu q
   ·rw[r]at c;have x:dR p q=([],false):=by unfold dR;rw[r];rfl
    rw[x]at d;simp[f,g,n,e,z,j,c,qy,XK,d,qn,f165]
   ·rw[r]at c;have x:dR p q=(eZ (ZA p) (vw q),true):=by unfold dR;rw[r];rfl
    rw[x]at d;simp[f,g,n,e,z,j,c,l,zI,qe,qy,XK,d,k,qn,wG.V,Cut.V,f165]
theorem n9:zi prog 165 (zn false [] (qW (α:=za×za) (fun a=>[str a.1,str a.2]) (fun a=>one1 a.1 a.2) fun a=>XK a.1 a.2)):=
 Js (fn:=f165) zaw (wc func165) false [] _ fun args r h w S vs c=>by obtain⟨⟨a,b⟩,rfl,Y,rfl⟩:=zL h;obtain⟨r0,d,e⟩:=pP a b Y;exact⟨_,r0,c,by simp[f165],d,e⟩
noncomputable def FBt2:zb->Option O:=qW (α:=za×za) (fun a=>[str a.1,str a.2]) (fun a=>one1 a.1 a.2) fun a=>XK a.1 a.2
theorem L1(a b:za)(Y:Hp)(Z:Nat)(h:one1 a b):zn false [] FBt2 [str a,str b] Y Z=some (XK a b,Y,Z):=
 iX (a,b) _ _ rfl E7 h (.inr (by simp))
end Go.Q
namespace Go.Proofs
open Go.Shelf
def Tryz.MV:Go.Shelf.Ren:=⟨fun|4=>224|n=>n,fun|22=>76|25=>115|0=>0|3=>3|4=>4|9=>9|20=>20|n=>n,fun|n=>n⟩
theorem Tryz.zhr:Go.Proofs.Lays8.n4 prog Tryz.MV:={
 mixed:=by kernel_rfl
 f4:=⟨f224.name,by decide,func224.trans (zp some (by kernel_rfl))⟩
 t0:=underlying0
 a0:=isAgg0
 z0:=sizeOf0
 v0:=zeroValue0
 t3:=underlying3
 a3:=isAgg3
 z3:=sizeOf3
 v3:=zeroValue3
 t4:=underlying4
 a4:=isAgg4
 z4:=sizeOf4
 v4:=zeroValue4
 t9:=underlying9
 a9:=isAgg9
 z9:=sizeOf9
 v9:=zeroValue9
 t20:=underlying20
 a20:=isAgg20
 z20:=sizeOf20
 v20:=zeroValue20
 t22:=underlying76
 a22:=isAgg76
 z22:=sizeOf76
 v22:=zeroValue76}
end Go.Proofs
namespace Go.Q
theorem Dk:zi prog 224 (rC 115 11 120):=
 Bz ⟨_,func224,by decide,by kernel_rfl⟩ rG (by decide) (AQ.of Tryz.zhr rG BC BD rfl (by omega))
noncomputable def PZ (out:List wG->List wG->O) (pre:List wG->List wG->Prop):zb->Option O:=qW (α:=List wG×List wG) (fun a=>[.sl 1 [[.sl 11 (a.1.map wG.V)],[.sl 11 (a.2.map wG.V)]]]) (fun a=>pre a.1 a.2) (fun a=>out a.1 a.2)
noncomputable abbrev En:Ctx:=qj prog [(224,rC 115 11 120)]
theorem Ai(a b:List wG)(D:a.length<=qg)(s:b.length<=qg):∃r0,zG En f170 [.sl 1 [[.sl 11 (a.map wG.V)],[.sl 11 (b.map wG.V)]]]=some r0/\wW r0 (.sl 11 ((a++b).map wG.V)):=by
 have p:∀{code},f170.body=some code->Zl En code ⟨km [.sl 1 [[.sl 11 (a.map wG.V)],[.sl 11 (b.map wG.V)]]],fun _=>none,0⟩ (KO En.P f170 (gx (.sl 11 ((a++b).map wG.V))))->∃r0,zG En f170 [.sl 1 [[.sl 11 (a.map wG.V)],[.sl 11 (b.map wG.V)]]]=some r0/\wW r0 (.sl 11 ((a++b).map wG.V)):=by intro code s h;obtain⟨r0,E,F⟩:=cL s h;exact⟨r0,E,fun w S u G=>tE G F⟩
 refine p rfl ?_;unfold qg at D s;let cs:List (List wG):=[a,b];have c:cs=[a,b]:=rfl;simp;refine ql (fun k M Y Z=>M 0=.sl 1 [[.sl 11 (a.map wG.V)],[.sl 11 (b.map wG.V)]]/\M 9=.sl 1 [[.sl 11 (a.map wG.V)],[.sl 11 (b.map wG.V)]]/\M 10=int 2/\M 11=int k/\M 3=int (((cs.take k).map List.length).sum:Nat)) 2
  ⟨by simp,by simp,by simp,by simp,by simp⟩ ?_
 rintro k M Y Z H ⟨x,y,f,g,o⟩;obtain rfl|rfl|rfl:k=0\/k=1\/k=2:=by omega
 ·simp[c]at o;have z:=wj (a.length:Int);have i:=wj 1;have A:¬(a.length:Int)<0:=by omega
  simp[x,y,f,g,o,z,i,A,c]
 ·simp[c]at o;have z:=wj ((a.length:Int)+b.length);have i:=wj 2;have A:¬(a.length:Int)+b.length<0:=by omega
  simp[x,y,f,g,o,z,i,A,c]
 ·simp[c]at o;have I:∀Y Z,∃v q r,rC 115 11 120 [.nil,int ((a.length:Int)+b.length)] Y Z=some (v,q,r)/\qN q r 115 11 v []:=fun Y Z=>by
   by_cases C:(a.length:Int)+b.length=0
   ·exact⟨.nil,Y,Z,by simp[rC,C],.inl ⟨rfl,rfl⟩⟩
   ·exact⟨.own Z 0 0,qf Y Z (some ⟨115,11,true,[]⟩),Z+1,by show(if(a.length:Int)+b.length=0 then _ else _)=_;rw[zf C,zg ⟨by omega,by omega,by omega⟩],.inr ⟨Z,by omega,rfl,by simp⟩⟩
  obtain⟨v,q,r,B,e⟩:=I Y Z;simp[x,y,f,g,o,B];refine ql (fun k M Y Z=>M 25=.sl 1 [[.sl 11 (a.map wG.V)],[.sl 11 (b.map wG.V)]]/\M 26=int 2/\M 27=int k/\qN Y Z 115 11 (M 6) (((cs.take k).flatten).map wG.V)) 2
   ⟨by simp,by simp,by simp,by simpa using e⟩ ?_
  rintro k M Y Z H ⟨j,l,m,e⟩;obtain rfl|rfl|rfl:k=0\/k=1\/k=2:=by omega
  ·simp[c]at e;obtain⟨J,q,r,n,d,_⟩:=e.Il (P:=prog) (t:=76) (ys:=a.map wG.V) T3 rG BC BD rfl (by omega) (by simp[maxLen];omega) (by simp;omega);have i:=wj 1;simp at d;simp[j,l,m,n,i,c];exact d
  ·simp[c]at e;obtain⟨J,q,r,n,d,_⟩:=e.Il (P:=prog) (t:=76) (ys:=b.map wG.V) T3 rG BC BD rfl (by omega) (by simp[maxLen];omega) (by simp;omega);have i:=wj 2;simp[j,l,m,n,i,c];simpa using d
  ·simp[c]at e;have:=e.freeze Z;simp[j,l,m,f170];exact this
noncomputable def sD:zb->Option O:=PZ (fun a b=>.sl 11 ((a++b).map wG.V)) fun a b=>a.length<=qg/\b.length<=qg
theorem pQ:zi prog 170 (zn true [] sD):=
 Js (fn:=f170) (qQ mixed ⟨Dk,trivial⟩:AM.Good En _) (wc func170) true [] _ fun args r h w S vs d=>by unfold sD PZ at h;obtain⟨⟨a,b⟩,rfl,c,rfl⟩:=zL h;obtain⟨r0,e,f⟩:=Ai a b c.1 c.2;exact⟨_,r0,d,z8 (zk 1) (by decide),e,f⟩
end Go.Q
namespace Go.AM
variable{dr:Prop}
section
variable{P:Program}{Y:Hp}{Z:Nat}
def HP(P:Program)(f e s m:Nat):Prop:=
 ∀(w:World) (g o n i cap l:Nat) (d a:Array Value) (q:TypeId),i<n->n<=cap->cap<=maxLen->n+1<=maxLen->(n+1)*m<=140737488355328->g≠o->1<=l->l<=maxLen ->
  w.heap[g]?=some (.cells d e (0,0))->d.size=cap*s->w.heap[o]?=some (.cells a q (0,0))->a.size=l*s->(∀j v,j<n*s->d[j]?=some v->v.oneCell'=true)->(∀j v,j<s->a[j]?=some v->v.oneCell'=true) ->
  Calls P f #[.slice (some ⟨g,0,none⟩) n cap,.int .i64 i,.slice (some ⟨o,0,none⟩) 1 l] w fun r p=>∃(k c:Nat) (h:Array Value),n+1<=c/\c<=maxLen/\r=.returned (.slice (some ⟨k,0,none⟩) ((n+1:Nat)) c) /\
   (k=g\/w.heap.size<=k)/\p.heap[k]?=some (.cells h e (0,0))/\h.size=c*s/\Fr True w (fun b=>b=k) p /\
   ∀j,j<(n+1)*s->h[j]?=(d.toList.take (i*s)++a.toList.take s++(d.toList.take (n*s)).drop (i*s))[j]?
def gU(e s d:Nat):AM.Spec:=fun args Y Z=>match args with
 |[.own id 0 n,.v (.int .i64 i),.own a 0 1]=>match Y id,Y a with
  |some b,some f=>match f.es with
   |[c]=>if id≠a/\b.arr=true/\f.arr=true/\b.e=e/\b.s=s/\f.s=s/\b.es.length=n/\0<=i/\i<n/\(n+1)*d<=140737488355328/\n+1<=maxLen then
     some (.own Z 0 (n+1),qf (qf Y id none) Z (some ⟨e,s,true,b.es.take i.toNat++c::b.es.drop i.toNat⟩),Z+1)else none
   |_=>none
  |_,_=>none
 |_=>none
theorem zdL{es:List zb}{s i j:Nat}(e:∀c∈es,c.length=s){c:zb}{f:O}(a:es[i]?=some c)(g:c[j]?=some f):j<s/\i<es.length/\i*s+j<es.length*s:=by
 have b:j<s:=by rw[<-e c (zT a)];exact(zj.1 g).1
 have d:i<es.length:=(zj.1 a).1;exact⟨b,d,xo d b⟩
theorem XL{f e s by_:Nat}(hfn:∃fn,P.funcs[f]?=some fn/\(fn.name== "runtime.NumGoroutine")=false/\fn.body.isNone=false)(hsz:qY P e=some s)(E:0<s)(h:HP P f e s by_):wO dr P f (gU e s by_):=by
 refine⟨hfn,?_⟩;intro args Y Z r Y' Z' t w S G vs I hz;unfold gU at t;split at t
 case h_2=>cases t
 rename_i id n i x;split at t
 case h_2=>cases t
 rename_i b b2 hb hb2;split at t
 case h_2=>cases t
 rename_i c hc;split at t
 case isFalse=>cases t
 rename_i hk;obtain⟨k1,k2,k3,k4,k5,k6,k7,k8,k9,k10,k11⟩:=hk;injection t with t
 injection t with e1 t;injection t with e2 e3;subst e1;subst e2;subst e3;obtain⟨u0,us,rfl,hu0,y⟩:=hz.jX;obtain⟨u1,us,rfl,hu1,y⟩:=y.jX;obtain⟨u2,us,rfl,hu2,y⟩:=y.jX;obtain rfl:=y.Y8;obtain⟨rfl,_⟩:=hu1.yn;have hop:=hu0.ZW;have J:=hu2.ZW;obtain⟨cap,g1,g2,g3,g4,rfl⟩:=hu0.Zk;obtain⟨vc,v1,v2,v3,v4,rfl⟩:=hu2.Zk;have U:=I.live id b hb;have z:=I.live x b2 hb2;have hgs:(G id).s=s:=by rw[<-U.bs];exact k5
 have K:(G x).s=s:=by rw[<-z.bs];exact k6
 obtain⟨F,q1,q2,q3⟩:=U.row hop;obtain⟨A,r1,r2,r3⟩:=z.row J;rw[hgs]at q3 g4;rw[K]at r3 v4;rw[k4]at q1;have z0:0*(G id).s=0:=zbm _;have z1:0*(G x).s=0:=zbm _;rw[z0,z1];have hne:(G id).g≠(G x).g:=fun e=>k1 (I.inj id x b b2 hb hb2 e)
 have B:∀c∈b.es,c.length=s:=fun c hc=>by rw[<-hgs];exact U.len hop c hc
 have hlc:c.length=s:=by rw[<-K];exact z.len J c (by rw[hc];simp)
 obtain⟨m,rfl⟩:∃m:Nat,i=m:=⟨i.toNat,by omega⟩;have hmn:m<n:=by omega
 have key:=h w (G id).g (G x).g n m cap vc F A b2.e hmn g2 g3 k11 k10 hne v2 v3 q1 (by rw[q2,<-g4,zh]) r1 (by rw[r2,<-v4,zh])
  (fun j v W hv=>by
   have hd:=Nat.div_add_mod j s;have hm:=zji j E;have X:j/s<b.es.length:=by rw[k7];exact(Nat.div_lt_iff_lt_mul E).2 W
   obtain⟨row,L⟩:∃row,b.es[j/s]?=some row:=⟨_,zo X⟩;have hrl:=B row (zT L);obtain⟨q,hpv⟩:∃q,row[j % s]?=some q:=⟨_,zo (by omega)⟩;obtain⟨u,p,H⟩:=q3 (j/s) (j % s) row q L hpv;rw[Yi,hd,hv]at p;injection p with p;rw[p];exact H.2.2)
  (fun j v W hv=>by obtain⟨q,hpv⟩:∃q,c[j]?=some q:=⟨_,zo (by omega)⟩;obtain⟨u,p,H⟩:=r3 0 j c q (by rw[hc];rfl) hpv;rw[zbm,zh,hv]at p;injection p with p;rw[p];exact H.2.2)
 refine key.mono fun e w' hr=>?_
 obtain⟨g',N,l,p1,p2,rfl,p4,p5,p6,p7,p8⟩:=hr;have Q:∀id' C,qf Y id none id'=some C->Y id'=some C:=fun id' C h=>vI h
 have zhs:∀id' C,qf Y id none id'=some C->(G id').g≠g':=fun id' C D e=>by
  have hb0:=Q id' C D;rcases p4 with rfl|p4
  ·have:=I.inj id' id C b hb0 hb e;subst this;rw[wR]at D;cases D
  ·have:=(I.live id' C hb0).lt;omega
 have hnS:¬S g':=fun hS=>by
  rcases p4 with rfl|p4
  ·exact I.apart id b hb hS
  ·have:=I.st _ hS;omega
 have Na:(b.es.take m++c::b.es.drop m).length=n+1:=by simp;omega
 have hrl:∀c'∈b.es.take m++c::b.es.drop m,c'.length=s:=fun c' hc'=>by
  rcases qO.1 hc' with h|h
  ·exact B c' (KA h)
  ·rcases zv.1 h with rfl|h
   ·exact hlc
   ·exact B c' (List.mem_of_mem_drop h)
 have hcl:(F.toList.take (n*s)).length=n*s:=by have:n*s<=cap*s:=z7 _ g2;simp only[yu,zR];rw[q2,<-g4,zh];exact zcf this
 have hms:m*s<=n*s:=z7 _ (by omega);have o:(F.toList.take (m*s)).length=m*s:=by
  have:F.toList.length=cap*s:=by rw[zR,q2,<-g4,zh]
  have h2:n*s<=cap*s:=z7 _ g2;simp only[yu,this];omega
 have hvl:(A.toList.take s).length=s:=by
  have:A.toList.length=vc*s:=by rw[zR,r2,<-v4,zh]
  have h2:1*s<=vc*s:=z7 _ v2;simp only[yu,this];omega
 have k:=kN.SA (dr:=dr) (Y1:=qf Y id none) I Q ⟨g',l.size,s⟩ e true (b.es.take m++c::b.es.drop m) l p7.os p7.tape p7.output p7.size (p7.drawn trivial) (fun _=>False) (fun _ h=>h.elim)
  (fun C D hne' _=>p7.block C D hne') zhs hnS (by
   rcases p4 with rfl|p4
   ·exact .inl ⟨id,b,hb,rfl⟩
   ·exact .inr p4) E (by simpa[qY]using hsz) hrl (by rw[Na,p6];exact z7 _ p1) p5 rfl
  (fun i' j c' q a W=>by
   obtain⟨b1,b2',b3⟩:=zdL hrl a W;rw[Na]at b2' b3;have Ek:=p8 (i'*s+j) b3;show∃u,l[i'*s+j]?=some u/\_;rw[Ek];have R:∀u,ke w S G Z b.arr q u->ke w S G Z true q u:=fun u hu=>by rw[k2]at hu;exact hu
   have zht:∀u,ke w S G Z b2.arr q u->ke w S G Z true q u:=fun u hu=>by rw[k3]at hu;exact hu
   rcases Nat.lt_trichotomy i' m with hlt|heq|hgt
   ·rw[qC (by rw[yu,k7];omega),zX,zg hlt]at a;obtain⟨u,p,H⟩:=q3 i' j c' q a W;have T:i'*s+j<m*s:=xo hlt b1;refine⟨u,?_,R u H⟩;rw[qP,qC (by rw[o];exact T),zX,zg T];simpa using p
   ·subst heq;rw[qo (by rw[yu,k7];omega)]at a;rw[yu,k7,zcf (by omega),Nat.sub_self]at a;simp only[List.getElem?_cons_zero,zY]at a;subst a;obtain⟨u,p,H⟩:=r3 0 j c q (by rw[hc];rfl) W;rw[zbm,zh]at p;refine⟨u,?_,zht u H⟩;rw[qP,qo (by rw[o];omega),o,Nat.add_sub_cancel_left,qC (by rw[hvl];exact b1),zX,zg b1];simpa using p
   ·obtain⟨d,rfl⟩:∃d,i'=d+1:=⟨i'-1,by omega⟩;rw[qo (by rw[yu,k7];omega)]at a;rw[yu,k7,zcf (by omega),show d+1-m=(d-m)+1 by omega,List.getElem?_cons_succ,qI,show m+(d-m)=d by omega]at a;obtain⟨u,p,H⟩:=q3 d j c' q a W;have hdn:d<n:=by omega
    have X:=xo (s:=s) hdn b1;have hmd:m*s<=d*s:=z7 _ (by omega);refine⟨u,?_,R u H⟩;rw[qo (by rw[w7,o,hvl,yc,Nat.one_mul];omega),w7,o,hvl,qI,
     show m*s+((d+1)*s+j-(m*s+s))=d*s+j by rw[yc,Nat.one_mul];omega,zX,zg X]
    simpa using p)
 refine⟨_,_,_,rfl,k,?_⟩;have:=qw.own (w:=w') (S:=S) (G:=qf G Z ⟨g',l.size,s⟩) (Z:=Z+1) (id:=Z) (off:=0) (n:=n+1) (cap:=N) (by omega) p1 p2 (by rw[wR];show(0+N)*s=l.size;rw[p6,zh]) (by rw[wR];exact E);rw[wR]at this;simpa using this
noncomputable def Dl (C:Ctx) (fn:Func) (e s a:Nat):AM.Spec:=fun args Y Z=>match gU e s a args Y Z with
 |some r=>some r
 |none=>kX C fn args Y Z
theorem ca{C:Ctx}{fn:Func}{f e s a:Nat}(b:wO dr P f (gU e s a))(g:wO dr P f (kX C fn)):wO dr P f (Dl C fn e s a):=by
 refine⟨b.1,fun args Y Z r c d h=>?_⟩;unfold Dl at h;split at h
 ·rename_i q i;injection h with h
  subst h;exact b.2 args Y Z r c d i
 ·exact g.2 args Y Z r c d h
end
end Go.AM
namespace Go.AM
open Go.RowKit Go.Proofs Go.Lib
variable{dr:Prop}
variable{P:Program}
theorem y7(w:World)(r s ty b:TypeId)(k m g o d f:Nat)(a:Addr)(e h:Nat)(c:Array Value)(t:TypeId)(cs:List Value)
  (u:P.underlying r=some (.slice b)) (hs:qY P b=some k)
  (x:w.heap[g]?=some (.cells c t (0,0))) (y:Nat.min e d=m) (z:cs.length=m*k)
  (l:∀j v,cs[j]?=some v->w.cell? (a.add j)=some v) (n:o+cs.length<=c.size) (A:∀v∈cs,v.oneCell'=true) :
  (Builtin.copy_ #[r,s] ty #[.slice (some ⟨g,o,none⟩) d f,.slice (some a) e h]).run P w =
   .ok (goInt m) (w.setRow g (c.toList.take o++cs++c.toList.drop (o+cs.length)).toArray):=by
 have B:=run_loadCells_list (P:=P) w a cs l;have p:=run_storeCells_at P g o t cs 0 c w x (by simpa using n) A;unfold qY at hs;cases q:P.info? b with
 |none=>simp[q]at hs
 |some i=>
  have C:i.size=k:=by simpa[q]using hs
  simp[Builtin.copy_,zx u,Builtin.lenOf,Builtin.firstCells,sizeOf,typeInfo,q,C,y,<-z,B,p]
theorem kG{w:World}{g e:Nat}{a:Array Value}(h:w.heap[g]?=some (.cells a e (0,0)))(j:Nat):w.cell? ⟨g,j,none⟩=a[j]?:=by simp[World.cell?,h]
theorem Ks{w:World}{g e:Nat}{a:Array Value}(h:w.heap[g]?=some (.cells a e (0,0)))(j:Nat):w.frozen? ⟨g,j,none⟩=false:=by simp[World.frozen?,h]
theorem Yv{w:World}{g e:Nat}{a:Array Value}(h:w.heap[g]?=some (.cells a e (0,0))):w.shape? g=some (e,a.size):=by simp[World.shape?,h]
theorem jW{w:World}{g k:Nat}(cs:Array Value)(h:k≠g):(w.setRow g cs).heap[k]?=w.heap[k]?:=by
 have:¬g=k:=fun e=>h e.symm
 simp[World.setRow,ZT,this]
theorem Yw(w:World)(g:Nat)(cs:Array Value):Fr dr w (fun b=>b=g) (w.setRow g cs):=
 ⟨rfl,rfl,rfl,by simp[World.setRow],fun _=>zk _,fun k _ a=>jW cs a⟩
def wS(l:List Value)(o:Nat)(cs:List Value):List Value:=l.take o++cs++l.drop (o+cs.length)
theorem wV{l cs:List Value}{o:Nat}(h:o+cs.length<=l.length):(wS l o cs).length=l.length:=by unfold wS;simp;omega
theorem fG{l vs:List Value}{n i s:Nat}(c:i<=n)(d:(n+1)*s<=l.length)(e:vs.length=s)(j:Nat)(f:j<(n+1)*s) :
  (wS (wS l ((i+1)*s) ((l.take (n*s)).drop (i*s))) (i*s) vs)[j]?=(l.take (i*s)++vs++(l.take (n*s)).drop (i*s))[j]?:=by
 have g:(i+1)*s=i*s+s:=by rw[yc,Nat.one_mul]
 have h:(n+1)*s=n*s+s:=by rw[yc,Nat.one_mul]
 have u:i*s<=n*s:=z7 _ c;rw[h]at d f;rw[g];generalize n*s=N at *;generalize i*s=I at *;subst e;have k:((l.take N).drop I).length=N-I:=by simp;omega
 have b:I+vs.length+((l.take N).drop I).length<=l.length:=by rw[k];omega
 have a:(wS l (I+vs.length) ((l.take N).drop I)).length=l.length:=wV b;have m:=vo (wS l (I+vs.length) ((l.take N).drop I)) vs I j (by rw[a];omega);have o:=vo l ((l.take N).drop I) (I+vs.length) j b;have p:(wS (wS l (I+vs.length) ((l.take N).drop I)) I vs)[j]?=if I<=j/\j<I+vs.length then vs[j-I]? else(wS l (I+vs.length) ((l.take N).drop I))[j]?:=m
 have q:(wS l (I+vs.length) ((l.take N).drop I))[j]?=if I+vs.length<=j/\j<I+vs.length+((l.take N).drop I).length then((l.take N).drop I)[j-(I+vs.length)]? else l[j]?:=o
 have r:(l.take I).length=I:=by simp;omega
 rw[p,q,qP];by_cases t:j<I
 ·rw[zf (by omega),zf (by omega),qC (by omega),zX,zg t]
 ·rw[qo (by omega),r];by_cases v:j<I+vs.length
  ·rw[zg (by omega),qC (by omega)]
  ·rw[zf (by omega),zg (by omega),qo (by omega)];congr 1;omega
theorem oa{R olds vs cs:List Value}{I:Nat}(b:olds.length=I)(c:∀j,j<I->R[j]?=olds[j]?)(i:I+vs.length+cs.length<=R.length)(j:Nat)(k:j<I+vs.length+cs.length) :
  (wS (wS R I vs) (I+vs.length) cs)[j]?=(olds++vs++cs)[j]?:=by
 have a:(wS R I vs).length=R.length:=wV (by omega);have d:=vo (wS R I vs) cs (I+vs.length) j (by rw[a];omega);have e:=vo R vs I j (by omega);have f:(wS (wS R I vs) (I+vs.length) cs)[j]?=if I+vs.length<=j/\j<I+vs.length+cs.length then cs[j-(I+vs.length)]? else(wS R I vs)[j]?:=d
 have g:(wS R I vs)[j]?=if I<=j/\j<I+vs.length then vs[j-I]? else R[j]?:=e
 rw[f,g,qP];by_cases h:j<I
 ·rw[zf (by omega),zf (by omega),qC (by omega),c j h]
 ·rw[qo (by omega),b];by_cases l:j<I+vs.length
  ·rw[zf (by omega),zg (by omega),qC (by omega)]
  ·rw[zg (by omega),qo (by omega)];congr 1;omega
theorem oc{e s b:Nat}{z:zb}(hs:qY P e=some s)(c:vH P e=some b)(g:jK P e=some z)(h:z.length=s):∃i v,P.info? e=some i/\i.zero=some v/\i.size=s/\i.bytes=b/\v.cells.size=s:=by
 obtain⟨i,v,d,j,k⟩:=W9 g;obtain⟨i',a,f⟩:=W8 hs;rw[d]at a;injection a with a;subst a;refine⟨i,v,d,j,f,?_,?_⟩
 ·unfold vH at c;rw[d]at c;simpa using c
 ·have:=(j8 (w:=default) (S:=fun _=>False) k).1;rw[h]at this;simpa using this.symm
theorem Vk{w:World}(o:Obj):(w.alloc o).heap[w.heap.size]?=some o:=by show(w.heap.push o)[w.heap.size]?=some o;simp
theorem Zf{w:World}(o:Obj){k:Nat}(h:k<w.heap.size):(w.alloc o).heap[k]?=w.heap[k]?:=by
 have:¬k=w.heap.size:=by omega
 show(w.heap.push o)[k]?=_;simp[Array.getElem?_push,this]
theorem setRow_size{w:World}{g:Nat}(cs:Array Value):(w.setRow g cs).heap.size=w.heap.size:=by simp[World.setRow]
theorem cc{w:World}(o:Obj):(w.alloc o).heap.size=w.heap.size+1:=by show(w.heap.push o).size=_;simp
end Go.AM
namespace Go.Q
open Go.RowKit Go.Lib Go.AM
attribute [local go_sem] Oper.semAt_some
theorem Gi(w:World)(g vb n i cap vc:Nat)(cur vcur:Array Value)(tv:TypeId)(hi:i<n)(hroom:n+1<=cap)(hc63:cap<=9223372036854775807)(hne:g≠vb)(hv1:1<=vc)
  (hg:w.heap[g]?=some (.cells cur 113 (0,0))) (hcs:cur.size=cap*5) (hv:w.heap[vb]?=some (.cells vcur tv (0,0))) (hvs:vcur.size=vc*5)
  (h1c:∀j v,j<n*5->cur[j]?=some v->v.oneCell'=true) (h1v:∀j v,j<5->vcur[j]?=some v->v.oneCell'=true) :
  Calls prog 226 #[.slice (some ⟨g,0,none⟩) n cap,.int .i64 i,.slice (some ⟨vb,0,none⟩) 1 vc] w fun e w'=>
   e=.returned (.slice (some ⟨g,0,none⟩) (n+1) cap)/\w'.heap[g]?=some (.cells (wS (wS cur.toList ((i+1)*5) ((cur.toList.take (n*5)).drop (i*5))) (i*5) (vcur.toList.take 5)).toArray 113 (0,0))/\Fr True w (fun b=>b=g) w':=by
 have t3:=underlying3;have a3:=isAgg3;have z3:=sizeOf3;have v3:=zeroValue3;have t4:=underlying4;have a4:=isAgg4;have z4:=sizeOf4;have v4:=zeroValue4;have t24:=underlying148;have a24:=isAgg148;have z24:=sizeOf148;have v24:=zeroValue148;have t9:=underlying113;have a9:=isAgg113;have z9:=sizeOf113;have u3:=zx t3;have u4:=zx t4;have u24:=zx t24;have hz2:¬((i:Int)=(n:Int)):=by omega
 have hov:∀o lb cb,(callFunc 270 #[.slice (some ⟨vb,0,none⟩) 1 vc,.slice (some ⟨g,o,none⟩) lb cb]).run prog w=.ok (.value (.bool false)) w:=fun o lb cb=>by
  rw[run_callFunc_extern func270 (by kernel_rfl) (by kernel_rfl) (by kernel_rfl) (e:=Extern.SlicesOverlaps.overlaps #[148,148] #[4]) (by kernel_rfl),
   Lib.run_overlaps_apart w 148 4 113 t24 5 z9 ⟨vb,0,none⟩ ⟨g,o,none⟩ 1 vc lb cb (fun e=>hne e.symm) _ _ _ _ (Yv hv) (Yv hg) (by rw[hcs];omega) (Ks hv 0) (Ks hv _)]
  rfl
 have mixed:prog.follows .mixedOrders=true:=by kernel_rfl
 have hw1:i6.wrap ((i:Int)+1)=(i:Int)+1:=by rw[yL];omega
 have hw2:i6.wrap ((n:Int)+1)=(n:Int)+1:=by rw[yL];omega
 have hb1:(0:Int)<=(i:Int)+1:=by omega
 have hb5:(0:Int)<=(n:Int)+1:=by omega
 have hin:i<=n:=by omega
 have htn:((i:Int)+1).toNat=i+1:=by omega
 have htn2:((n:Int)+1).toNat=n+1:=by omega
 have hb2:¬(cap=i+1):=by omega
 have hb3:(i:Int)<=(n:Int)+1:=by omega
 have hb4:¬(cap=i):=by omega
 have hb6:¬((cap:Int)<(n:Int)+1):=by omega
 have hs5:qY prog 113=some 5:=cR;obtain⟨cs,hcsd⟩:=wM ((cur.toList.take (n*5)).drop (i*5));obtain⟨vs,hvsd⟩:=wM (vcur.toList.take 5);have hcl:cs.length=(n-i)*5:=by rw[<-hcsd];simp;omega
 have hvl:vs.length=1*5:=by rw[<-hvsd];simp;omega
 have hcget:∀j v,cs[j]?=some v->cur[i*5+j]?=some v/\i*5+j<n*5:=fun j v hj=>by
  rw[<-hcsd,qI,zX]at hj;split at hj
  ·exact⟨by simpa using hj,by assumption⟩
  ·cases hj
 have hvget:∀j v,vs[j]?=some v->vcur[j]?=some v/\j<5:=fun j v hj=>by
  rw[<-hvsd,zX]at hj;split at hj
  ·exact⟨by simpa using hj,by assumption⟩
  ·cases hj
 have hc1:∀v∈cs,v.oneCell'=true:=fun v hv=>by obtain⟨j,hj⟩:=yN.1 hv;obtain⟨a,b⟩:=hcget j v hj;exact h1c _ v b a
 have hv1':∀v∈vs,v.oneCell'=true:=fun v hv=>by obtain⟨j,hj⟩:=yN.1 hv;obtain⟨a,b⟩:=hvget j v hj;exact h1v _ v b a
 obtain⟨row1,hrow1⟩:=wM (wS cur.toList ((i+1)*5) cs);have hr1l:row1.length=cap*5:=by rw[<-hrow1,wV (by rw[hcl,zR,hcs];omega),zR,hcs]
 have hcp1:∀ty dc sc,(Builtin.copy_ #[148,148] ty #[.slice (some ⟨g,(i+1)*5,none⟩) (n-i) dc,.slice (some ⟨g,i*5,none⟩) (n+1-i) sc]).run prog w.drew=.ok (goInt ((n-i:Nat):Int)) (w.drew.setRow g row1.toArray):=fun ty dc sc=>by
  rw[<-hrow1];exact y7 w.drew _ _ ty 113 5 (n-i) g ((i+1)*5) (n-i) dc ⟨g,i*5,none⟩ (n+1-i) sc cur 113 cs t24 hs5 hg (by simp only[QG];split<;>omega) hcl
   (fun j v hj=>by rw[yz];exact(kG hg _).trans (hcget j v hj).1) (by rw[hcl,hcs];omega) hc1
 have hcp2:∀(W:World),W.heap[g]?=some (.cells row1.toArray 113 (0,0))->W.heap[vb]?=some (.cells vcur tv (0,0))->∀ty dc,(Builtin.copy_ #[148,148] ty #[.slice (some ⟨g,i*5,none⟩) (n+1-i) dc,.slice (some ⟨vb,0,none⟩) 1 vc]).run prog W=.ok (goInt ((1:Nat):Int)) (W.setRow g (wS row1 (i*5) vs).toArray):=fun W hWg hWv ty dc=>by
  have:=y7 W 148 148 ty 113 5 1 g (i*5) (n+1-i) dc ⟨vb,0,none⟩ 1 vc row1.toArray 113 vs t24 hs5 hWg (by simp only[QG];split<;>omega) hvl
   (fun j v hj=>by rw[yz,zh];exact(kG hWv _).trans (hvget j v hj).1) (by rw[hvl,wF,hr1l];omega) hv1'
  exact this
 have hWg:(w.drew.setRow g row1.toArray).heap[g]?=some (.cells row1.toArray 113 (0,0)):=Qc _ _ _ _ _ _ hg;have hWv:(w.drew.setRow g row1.toArray).heap[vb]?=some (.cells vcur tv (0,0)):=(jW _ (fun e=>hne e.symm)).trans hv;have hfin:∀W,W=(w.drew.setRow g row1.toArray).setRow g (wS row1 (i*5) vs).toArray->W.heap[g]?=some (.cells (wS row1 (i*5) vs).toArray 113 (0,0))/\Fr True w (fun b=>b=g) W:=fun W e=>by subst e;refine⟨Qc _ _ _ _ _ _ hWg,?_⟩;exact((Fr.drew w (fun b=>b=g)).trans (Yw w.drew g _) fun _ _ h=>h).trans (Yw _ g _) fun _ _ h=>h
 rw[hcsd,hvsd,hrow1];clear hcsd hvsd hcl hvl hcget hvget hc1 hv1' hrow1 hr1l
 go_enter func226,Tryz.ntmps226
 go_wp2_with (simp only[hov])
 go_region_law_o (refine step_copy_runI rfl _ _ 148 148 rfl _ _ (by simp[Act.eval,Act.put]) (by simp[Act.eval,Act.put]) (hcp1 _ _ _) ?_)
 go_wp2_with (at_builtin;refine wpList_copy_runI _ rfl _ _ 148 148 rfl _ _ rfl rfl (hcp2 _ hWg hWv _ _) ?_)
 go_ret
 exact⟨rfl,hfin _ rfl⟩
theorem L2(w:World)(g vb n i cap vc:Nat)(cur vcur:Array Value)(tv:TypeId)(hi:i<n)(hnc:n<=cap)(hroom:cap<n+1)(hbig:(n+1)*56<=140737488355328)(hv1:1<=vc)
  (hg:w.heap[g]?=some (.cells cur 113 (0,0))) (hcs:cur.size=cap*5) (hv:w.heap[vb]?=some (.cells vcur tv (0,0))) (hvs:vcur.size=vc*5)
  (h1c:∀j v,j<n*5->cur[j]?=some v->v.oneCell'=true) (h1v:∀j v,j<5->vcur[j]?=some v->v.oneCell'=true) :
  Calls prog 226 #[.slice (some ⟨g,0,none⟩) n cap,.int .i64 i,.slice (some ⟨vb,0,none⟩) 1 vc] w fun e w'=>
   ∃(G:Nat) (R:List Value),n+1<=G/\G<=maxLen/\R.length=G*5/\(∀j,j<i*5->R[j]?=(cur.toList.take (i*5))[j]?)/\e=.returned (.slice (some ⟨w.heap.size,0,none⟩) (n+1) G) /\
    w'.heap[w.heap.size]?=some (.cells (wS (wS R (i*5) (vcur.toList.take 5)) ((i+1)*5) ((cur.toList.take (n*5)).drop (i*5))).toArray 113 (0,0))/\Fr True w (fun b=>b=w.heap.size) w':=by
 have t3:=underlying3;have a3:=isAgg3;have z3:=sizeOf3;have v3:=zeroValue3;have t4:=underlying4;have a4:=isAgg4;have z4:=sizeOf4;have v4:=zeroValue4;have t24:=underlying148;have a24:=isAgg148;have z24:=sizeOf148;have v24:=zeroValue148;have t9:=underlying113;have a9:=isAgg113;have z9:=sizeOf113;have u3:=zx t3;have u4:=zx t4;have u24:=zx t24;obtain⟨i0,z0,hi0,hz0,his,hib,hzc⟩:=oc (P:=prog) cR rE rF rfl;have hz2:¬((i:Int)=(n:Int)):=by omega
 have hz3:(cap:Int)<(n:Int)+1:=by omega
 have mixed:prog.follows .mixedOrders=true:=by kernel_rfl
 have hw1:i6.wrap ((i:Int)+1)=(i:Int)+1:=by rw[yL];omega
 have hw2:i6.wrap ((n:Int)+1)=(n:Int)+1:=by rw[yL];omega
 have hw3:i6.wrap ((n:Int)+1-i)=(n:Int)+1-i:=by rw[yL];omega
 have hb1:(0:Int)<=(i:Int)+1:=by omega
 have hin:i<=n:=by omega
 have htn:((i:Int)+1).toNat=i+1:=by omega
 have hkk:(n:Int)+1-(i:Int)=((n+1-i:Nat):Int):=by omega
 have hik:i+(n+1-i)=n+1:=by omega
 have hb3:(i:Int)<=(n:Int):=by omega
 have hbw:g<w.heap.size:=(z6.1 hg).1;have hvw:vb<w.heap.size:=(z6.1 hv).1;have hs5:qY prog 113=some 5:=cR;obtain⟨olds,hod⟩:=wM (cur.toList.take (i*5));obtain⟨cs,hcsd⟩:=wM ((cur.toList.take (n*5)).drop (i*5));obtain⟨vs,hvsd⟩:=wM (vcur.toList.take 5);have hol:olds.length=i*5:=by rw[<-hod];simp;omega
 have hcl:cs.length=(n-i)*5:=by rw[<-hcsd];simp;omega
 have hvl:vs.length=1*5:=by rw[<-hvsd];simp;omega
 have hoget:∀j v,olds[j]?=some v->cur[j]?=some v:=fun j v hj=>by
  rw[<-hod,zX]at hj;split at hj
  ·simpa using hj
  ·cases hj
 have hcget:∀j v,cs[j]?=some v->cur[i*5+j]?=some v/\i*5+j<n*5:=fun j v hj=>by
  rw[<-hcsd,qI,zX]at hj;split at hj
  ·exact⟨by simpa using hj,by assumption⟩
  ·cases hj
 have hvget:∀j v,vs[j]?=some v->vcur[j]?=some v/\j<5:=fun j v hj=>by
  rw[<-hvsd,zX]at hj;split at hj
  ·exact⟨by simpa using hj,by assumption⟩
  ·cases hj
 have hc1:∀v∈cs,v.oneCell'=true:=fun v hv=>by obtain⟨j,hj⟩:=yN.1 hv;obtain⟨a,b⟩:=hcget j v hj;exact h1c _ v b a
 have hv1':∀v∈vs,v.oneCell'=true:=fun v hv=>by obtain⟨j,hj⟩:=yN.1 hv;obtain⟨a,b⟩:=hvget j v hj;exact h1v _ v b a
 have hold:(Builtin.firstCells i0.size i (.slice (some ⟨g,0,none⟩) i cap)).run prog w.drew=.ok olds.toArray w.drew:=by
  rw[his];exact run_firstCells_some w.drew 5 i ⟨g,0,none⟩ i cap olds hol (fun j v hj=>by rw[yz,zh];exact(kG hg j).trans (hoget j v hj))
 obtain⟨G,hG⟩:=wM (grownCap w (n+1) cap 113);obtain⟨ROW,hROW⟩:=wM (olds.toArray++Builtin.zeroCells z0.cells (n+1-i)++Builtin.zeroCells z0.cells (G-(n+1)));have hGn:n+1<=G:=by rw[<-hG];exact grownCap_ge w _ _ _
 have hGm:G<=maxLen:=by rw[<-hG];exact grownCap_le_maxLen w (n+1) cap 113 (by unfold maxLen;omega)
 have hrz:∀ty,(Builtin.append_ #[148,3] ty #[.slice (some ⟨g,0,none⟩) i cap,.int .i64 ((n:Int)+1-(i:Int))]).run prog w =
   .ok (.slice (some ⟨w.heap.size,0,none⟩) (n+1) G) (w.drew.alloc (.cells ROW 113)):=fun ty=>by
  have h:=Lib.run_append_grow_zeros w 148 3 ty 113 i0 z0 .i64 .i64 t24 t3 hi0 hz0 (some ⟨g,0,none⟩) i cap olds hold (n+1-i) (by omega) (by omega) (by omega) (by omega) (by rw[hib];omega) (by rw[hib,hik];exact growslice_fits hroom hbig);rw[hik,hG,hROW]at h;rw[hkk];exact h
 have hRl:ROW.size=G*5:=by rw[<-hROW,xA,xA,XV,XV,hzc,wF,hol];omega
 have hRo:∀j,j<i*5->ROW.toList[j]?=olds[j]?:=fun j hj=>by rw[<-hROW,Wm,Wm,qP];exact qC (show j<olds.length by omega)
 obtain⟨N,hN⟩:=wM w.heap.size;obtain⟨W1,hW1⟩:=wM (w.drew.alloc (.cells ROW 113));have hW1N:W1.heap[N]?=some (.cells ROW 113 (0,0)):=by rw[<-hW1,<-hN];exact Vk (w:=w.drew) _
 have hW1g:W1.heap[g]?=some (.cells cur 113 (0,0)):=by rw[<-hW1];exact(Zf (w:=w.drew) _ hbw).trans hg
 have hW1v:W1.heap[vb]?=some (.cells vcur tv (0,0)):=by rw[<-hW1];exact(Zf (w:=w.drew) _ hvw).trans hv
 obtain⟨row1,hrow1⟩:=wM (wS ROW.toList (i*5) vs);have hr1l:row1.length=G*5:=by rw[<-hrow1,wV (by rw[hvl,zR,hRl];omega),zR,hRl]
 have hcpA:∀(W:World),W.heap[N]?=some (.cells ROW 113 (0,0))->W.heap[vb]?=some (.cells vcur tv (0,0))->∀ty dc,(Builtin.copy_ #[148,148] ty #[.slice (some ⟨N,i*5,none⟩) (n+1-i) dc,.slice (some ⟨vb,0,none⟩) 1 vc]).run prog W=.ok (goInt ((1:Nat):Int)) (W.setRow N row1.toArray):=fun W hWg hWv ty dc=>by
  rw[<-hrow1];have:=y7 W 148 148 ty 113 5 1 N (i*5) (n+1-i) dc ⟨vb,0,none⟩ 1 vc ROW 113 vs t24 hs5 hWg (by simp only[QG];split<;>omega) hvl
   (fun j v hj=>by rw[yz,zh];exact(kG hWv _).trans (hvget j v hj).1) (by rw[hvl,hRl];omega) hv1'
  exact this
 have hcpB:∀(W:World),W.heap[N]?=some (.cells row1.toArray 113 (0,0))->W.heap[g]?=some (.cells cur 113 (0,0))->∀ty dc sc,(Builtin.copy_ #[148,148] ty #[.slice (some ⟨N,(i+1)*5,none⟩) (n-i) dc,.slice (some ⟨g,i*5,none⟩) (n-i) sc]).run prog W=.ok (goInt ((n-i:Nat):Int)) (W.setRow N (wS row1 ((i+1)*5) cs).toArray):=fun W hWg hWv ty dc sc=>by
  have:=y7 W 148 148 ty 113 5 (n-i) N ((i+1)*5) (n-i) dc ⟨g,i*5,none⟩ (n-i) sc row1.toArray 113 cs t24 hs5 hWg (by simp only[QG];split<;>omega) hcl
   (fun j v hj=>by rw[yz];exact(kG hWv _).trans (hcget j v hj).1) (by rw[hcl,wF,hr1l];omega) hc1
  exact this
 have hgN:g≠N:=by omega
 have hvN:vb≠N:=by omega
 have hW2N:(W1.setRow N row1.toArray).heap[N]?=some (.cells row1.toArray 113 (0,0)):=Qc _ _ _ _ _ _ hW1N;have hW2g:(W1.setRow N row1.toArray).heap[g]?=some (.cells cur 113 (0,0)):=(jW _ hgN).trans hW1g;have hfin:∀W:World,W.heap=((W1.setRow N row1.toArray).setRow N (wS row1 ((i+1)*5) cs).toArray).heap->W.os=w.os->W.tape=w.tape->W.output=w.output->w.drawn<=W.drawn->W.heap[N]?=some (.cells (wS row1 ((i+1)*5) cs).toArray 113 (0,0))/\Fr True w (fun b=>b=N) W:=fun W e1 e2 e3 e4 e5=>by
  refine⟨by rw[e1];exact Qc _ _ _ _ _ _ hW2N,e2,e3,e4,?_,fun _=>e5,fun k hk hn=>?_⟩
  ·rw[e1,<-hW1,setRow_size,setRow_size,cc];exact jS _
  ·rw[e1,jW _ hn,jW _ hn,<-hW1];exact Zf (w:=w.drew) _ hk
 have hm1:G<=9223372036854775807:=by unfold maxLen at hGm;omega
 have hGi:¬(G=i):=by omega
 have hGim:¬(G=i+1):=by omega
 have hci:¬(cap=i):=by omega
 rw[hN,hcsd,hvsd,hod];rw[hN,hW1]at hrz;clear hcsd hvsd hod hcl hvl hol hcget hvget hoget hc1 hv1' hold hG hROW hkk hik hi0 hz0 his hib hzc hr1l
 go_enter func226,Tryz.ntmps226
 go_wp2_with (first
  |(at_builtin;refine Lib.wpList_append_run _ rfl _ _ _ _ rfl _ _ rfl rfl _ _ (hrz _) ?_)
  |(at_builtin;refine wpList_copy_runI _ rfl _ _ 148 148 rfl _ _ rfl rfl (hcpA _ hW1N hW1v _ _) ?_)
  |(at_builtin;refine wpList_copy_runI _ rfl _ _ 148 148 rfl _ _ rfl rfl (hcpB _ hW2N hW2g _ _ _) ?_))
 go_region_law_o (refine step_copy_runI rfl _ _ 148 148 rfl (.slice (some ⟨N,(i+1)*5,none⟩) (n-i) (G-(i+1))) (.slice (some ⟨g,i*5,none⟩) (n-i) (cap-i)) (by simp[Act.eval,Act.put]) (by simp[Act.eval,Act.put]) (hcpB (W1.setRow N row1.toArray).drew hW2N hW2g 3 (G-(i+1)) (cap-i)) ?_)
 go_wp2
 go_ret
 subst hW1;subst hrow1;refine⟨G,ROW.toList,hGn,hGm,by simpa using hRl,hRo,rfl,?_⟩;refine hfin _ ?_ ?_ ?_ ?_ ?_
 ·rfl
 ·rfl
 ·rfl
 ·rfl
 ·first|exact jS _|exact z8 (jS _) (jS _)
theorem zax:HP prog 226 113 5 56:=by
 intro w g A n i cap B c a C D u k K m v o L E d F p q r;have b:(a.toList.take 5).length=5:=by simp;omega
 have f:((c.toList.take (n*5)).drop (i*5)).length=(n-i)*5:=by simp;omega
 unfold maxLen at k;by_cases h:n+1<=cap
 ·refine(Gi w g A n i cap B c a C D h k v o E d F p q r).mono fun e N x=>?_
  obtain⟨rfl,t,y⟩:=x;refine⟨g,cap,_,h,by unfold maxLen;exact k,rfl,.inl rfl,t,?_,y,fun j H=>?_⟩
  ·rw[wF,wV (by rw[wV (by rw[f,zR,d];omega),b,zR,d];omega),wV (by rw[f,zR,d];omega),zR,d]
  ·have:=fG (l:=c.toList) (vs:=a.toList.take 5) (n:=n) (i:=i) (s:=5) (by omega) (by rw[zR,d];omega) b j H;simpa using this
 ·refine(L2 w g A n i cap B c a C D u (by omega) m o E d F p q r).mono fun e N x=>?_
  obtain⟨G,R,P,Q,J,S,rfl,t,y⟩:=x;have z:(c.toList.take (i*5)).length=i*5:=by simp;omega
  have T:(i+1)*5=i*5+(a.toList.take 5).length:=by rw[b];omega
  rw[T]at t;refine⟨w.heap.size,G,_,P,Q,rfl,.inr (zk _),t,?_,y,fun j H=>?_⟩
  ·rw[wF,wV (by rw[wV (by rw[b];omega),f,b];omega),wV (by rw[b];omega),J]
  ·have:=oa (R:=R) (olds:=c.toList.take (i*5)) (vs:=a.toList.take 5) (cs:=(c.toList.take (n*5)).drop (i*5)) (I:=i*5) z S (by rw[b,f,J];omega) j (by rw[b,f];omega);simpa using this
end Go.Q
namespace Go.Q
noncomputable def Z7 (c:Cut):List Cut->List Cut
 |[]=>[c]
 |a::l=>if wP a c<0 then a::Z7 c l else if wP a c=0 then a::l else c::a::l
theorem Aj(c:Cut):∀(l:List Cut) (i:Nat),i<=l.length->(∀j (h:j<l.length),j<i->wP l[j] c<0)->(∀h:i<l.length,¬wP l[i] c<0)->((∃h:i<l.length,wP l[i] c=0)->Z7 c l=l)/\((∀h:i<l.length,wP l[i] c≠0)->Z7 c l=l.take i++c::l.drop i)
 |[],i,b,_,_=>by
  obtain rfl:i=0:=by simpa using b
  exact⟨fun⟨h,_⟩=>absurd h (by simp),fun _=>rfl⟩
 |a::l,0,_,_,d=>by
  have h:=d (by simp);simp only[yY]at h;refine⟨fun⟨_,e⟩=>?_,fun f=>?_⟩
  ·simp only[yY]at e;simp only[Z7];rw[zf h,zg e]
  ·have:=f (by simp);simp only[yY]at this;simp only[Z7];rw[zf h,zf this];rfl
 |a::l,i+1,b,g,d=>by
  have k:=g 0 (by simp) (by omega);simp only[yY]at k;obtain⟨m,n⟩:=Aj c l i (by simpa using b) (fun j o p=>g (j+1) (by simpa using o) (by omega)) (fun h=>d (by simpa using h));simp only[Z7];rw[zg k];refine⟨fun⟨h,e⟩=>?_,fun f=>?_⟩
  ·rw[m ⟨by simpa using h,e⟩]
  ·rw[n fun h=>f (by simpa using h)];rfl
theorem od{c:Cut}:∀{l:List Cut},(∀a∈l,wP a c=0->a=c)->∀x,x∈Z7 c l↔x=c\/x∈l
 |[],_,x=>by simp[Z7]
 |a::l,h,x=>by
  simp only[Z7];split
  ·rw[zv,od (fun b d=>h b (by simp[d])) x,zv];constructor
   ·rintro (h|h|h)
    ·exact .inr (.inl h)
    ·exact .inl h
    ·exact .inr (.inr h)
   ·rintro (h|h|h)
    ·exact .inr (.inl h)
    ·exact .inl h
    ·exact .inr (.inr h)
  ·split
   ·rename_i e;have:=h a (by simp) e;subst this;simp
   ·simp
theorem gV{c:Cut}:∀{l:List Cut},(l.Pairwise fun a b=>wP a b<0)->(∀a∈l,wP a c=0->a=c)->(Z7 c l).Pairwise fun a b=>wP a b<0
 |[],_,_=>by simp[Z7]
 |a::l,h,i=>by
  obtain⟨j,k⟩:=wB.1 h;simp only[Z7];split
  ·rename_i d;refine wB.2 ⟨fun x hx=>?_,gV k fun b f=>i b (by simp[f])⟩;rcases(od (fun b f=>i b (by simp[f])) x).1 hx with rfl|hx
   ·exact d
   ·exact j x hx
  ·rename_i d;split
   ·exact h
   ·rename_i g;have e:wP c a<0:=by
     have:=wy.zcm d;rcases aO this with h|h
     ·exact h
     ·exact absurd ((wy.eq a c).2 h) g
    refine wB.2 ⟨fun x hx=>?_,h⟩;rcases zv.1 hx with rfl|hx
    ·exact e
    ·exact wy.trans e (j x hx)
noncomputable def kP (l:List Cut):List Cut:=l.foldl (fun o c=>Z7 c o) []
theorem gW:∀(l o:List Cut),(∀a∈l,a.vY)->(∀a∈o,a.vY)->(o.Pairwise fun a b=>wP a b<0)->((l.foldl (fun o c=>Z7 c o) o).Pairwise fun a b=>wP a b<0)/\∀x,x∈l.foldl (fun o c=>Z7 c o) o↔x∈l\/x∈o
 |[],o,_,_,e=>⟨e,fun x=>by simp⟩
 |c::l,o,f,g,e=>by
  have i:=f c (by simp);have j:∀a∈o,wP a c=0->a=c:=fun a d h=>lz (g a d) i h
  have k:=od (l:=o) j;obtain⟨m,n⟩:=gW l (Z7 c o) (fun a d=>f a (by simp[d])) (fun a d=>by
   rcases(k a).1 d with rfl|h
   ·exact i
   ·exact g a h) (gV e j)
  simp only[ju];refine⟨m,fun x=>?_⟩;rw[n x,k x,zv];constructor
  ·rintro (h|h|h)
   ·exact .inl (.inr h)
   ·exact .inl (.inl h)
   ·exact .inr h
  ·rintro ((h|h)|h)
   ·exact .inr (.inl h)
   ·exact .inl h
   ·exact .inr (.inr h)
theorem cd:∀(l o:List Cut),(l.foldl (fun o c=>Z7 c o) o).length<=o.length+l.length
 |[],o=>by simp
 |c::l,o=>by
  have b:∀o:List Cut,(Z7 c o).length<=o.length+1:=by
   intro o
   induction o with
   |nil=>simp[Z7]
   |cons a o d=>
    simp only[Z7];split
    ·simp only[zd];omega
    ·split<;>simp
  have:=cd l (Z7 c o);have:=b o;simp only[ju,zd];omega
theorem L3{a b:List wG}(d:jI a)(e:jI b):kP (q7 (a++b))=nL a b:=by
 rw[Wf];have f:∀c∈q7 a++q7 b,c.vY:=fun c g=>by
  rcases qO.1 g with h|h
  ·exact ao d c h
  ·exact ao e c h
 obtain⟨i,j⟩:=gW (q7 a++q7 b) [] f (fun a d=>by cases d) .nil;refine rY _ _ i (Vh d e) fun c=>?_
 unfold kP;rw[j c,Kr,qO];simp
theorem P0(f:Bool->Bool->Bool){a b:List wG}(d:jI a)(e:jI b):kF f a b=(Vz (fun c=>f (yE a c) (yE b c)) (kP (q7 (a++b))) (false,[])).2:=by rw[L3 d e];unfold kF nL;rw[nj]
end Go.Q
