/- Lemmas. -/
import Derived.Shelf.Spec.SlicesInsert
import Derived.Test.YtnbicamkimignaaGreatDoorG31
set_option maxRecDepth 100000
set_option maxHeartbeats 4000000
open Go Proofs Proofs.YtnbicamkimignaaGreatDoor Proofs.Tryz RowKit AM SpanLaw Q Zz
open Go.IntKind renaming i64→i6
namespace Go.Q
noncomputable def NP (n:Nat):zc→Option O:=qv (α:=qE×qE) (fun a=>[.agg a.1.V,.agg a.2.V]) (fun a=>a.1.vb≤zG∧a.1.vb≤n∧a.2.vb≤zG) (fun a=>wq (kc a.1 a.2))
theorem ud(n:Nat)(a b:qE)(Y:Hp)(Z:Nat)(h:a.vb≤zG∧a.vb≤n∧b.vb≤zG):zi false [] (NP n) [.agg a.V,.agg b.V] Y Z=some (wq (kc a b),Y,Z):=
 qe (Y1:=Y) (show zA Y [.agg a.V,.agg b.V]=some ([.agg a.V,.agg b.V],Y) by simp only[zA,Z3])
  (zJ (V:=fun a:qE×qE=>[.agg a.1.V,.agg a.2.V]) (a:=(a,b)) (fun x y e=>by obtain⟨c,d⟩:=x;obtain⟨f,g⟩:=y;simp only[zh,zK,O.agg.injEq]at e;rw[Yp e.1,Yp e.2]) h) (.inl rfl)
theorem zbH{n:Nat}{a b:List qE}(h:(Jf a≤zG∧Jf a≤n)∧Jf b≤zG):a.length≤zG:=by have:=jk a;omega
theorem zbI{n:Nat}{a b:List qE}(h:(Jf a≤zG∧Jf a≤n)∧Jf b≤zG):b.length≤zG:=by have:=jk b;omega
theorem zey{n:Nat}{a b:List qE}(h:(Jf a≤zG∧Jf a≤n)∧Jf b≤zG){x y:qE}(c:x∈a)(d:y∈b):x.vb≤zG∧x.vb≤n∧y.vb≤zG:=by have:=kP c;have:=kP d;omega
noncomputable abbrev Csv4 (n:Nat):Ctx:=qb prog [(116,zi false [] (NP n))]
theorem zbJ(n:Nat)(a b:List (qE))(h:(Jf a≤zG∧Jf a≤n)∧Jf b≤zG):zz (Csv4 n) f115 [.sl 5 (a.map qE.V),.sl 5 (b.map qE.V),.fn (.func 116) [] []]=some (wq (kc a b)):=by
 refine zo rfl ?_;have z:=zbH h;have A:=zbI h;unfold zG at z A;by_cases m:a.length=b.length
 case neg=>
  have r:kc a b=false:=JJ m;have s:((a.length:Int)==b.length)=false:=q7.2 (by omega);have e:((a.length:Int) != b.length)=true:=by rw[bne,s];rfl
  simp[e,r,f115]
 have e:((a.length:Int) != b.length)=false:=by rw[m];simp
 simp[e];refine zQ (fun k f Y Z=>f 0=.sl 5 (a.map qE.V)∧f 1=.sl 5 (b.map qE.V)∧f 2=.fn (.func 116) [] []∧f 15=.sl 5 (a.map qE.V)∧f 16=int a.length∧f 17=int k∧kc a b=kc (a.drop k) (b.drop k)) a.length
  ⟨by simp,by simp,by simp,by simp,by simp[m],by simp,by simp⟩ ?_
 rintro k f Y Z C ⟨t,u,v,g,i,j,l⟩;by_cases d:k<a.length
 ·have c:k<b.length:=by omega
  have B:i6.wrap ((k:Int)+1)=(k:Int)+1:=zn (by omega) (by omega);obtain⟨x,o⟩:∃x,a[k]=x:=⟨_,rfl⟩;obtain⟨y,p⟩:∃y,b[k]=y:=⟨_,rfl⟩;have w:=fun Y Z=>ud n x y Y Z (by rw[←o,←p];exact zey h (zm d) (zm c))
  rw[WQ d c,o,p]at l;cases q:kc x y
  ·rw[q,kM]at l;simp[t,u,v,g,i,j,d,c,o,p,w,q,l,f115]
  ·rw[q,yZ]at l;simp[t,u,v,g,i,j,d,c,o,p,w,q,B];exact⟨by omega,l⟩
 ·obtain rfl:k=a.length:=by omega
  rw[zl,m,zl,QP]at l;simp[t,u,v,g,i,j,l,f115]
noncomputable def Lsv (n:Nat):zc→Option O:=qv (α:=List (qE)×List (qE)) (fun a=>[.sl 5 (a.1.map qE.V),.sl 5 (a.2.map qE.V),.fn (.func 116) [] []]) (fun p=>let a:=p.1;let b:=p.2;(Jf a≤zG∧Jf a≤n)∧Jf b≤zG) (fun a=>wq (kc a.1 a.2))
theorem Fe(n:Nat)(a b:List (qE))(Y:Hp)(Z:Nat)(h:(Jf a≤zG∧Jf a≤n)∧Jf b≤zG):zi false [] (Lsv n) [.sl 5 (a.map qE.V),.sl 5 (b.map qE.V),.fn (.func 116) [] []] Y Z=some (wq (kc a b),Y,Z):=
 qe (Y1:=Y) (by simp) (zJ (V:=fun a:List (qE)×List (qE)=>[O.sl 5 (a.1.map qE.V),.sl 5 (a.2.map qE.V),.fn (.func 116) [] []]) (a:=(a,b)) (fun x y e=>by obtain⟨f,g⟩:=x;obtain⟨i,j⟩:=y;simp only[zh,zK]at e;obtain⟨c,d⟩:=e;injection c with _ c;injection d with _ d;rw[Ku c,Ku d]) h) (.inl rfl)
theorem Ff(n:Nat)(hs:zg prog 116 (zi false [] (NP n))):zg prog 115 (zi false [] (Lsv n)):=
 qq (fn:=f115) (zI (q:=[]) mixed ⟨hs,by simp,trivial⟩:AM.Good (Csv4 n) _) ⟨_,func115,by kernel_rfl,rfl,by kernel_rfl⟩ false [] _ fun args r h=>by obtain⟨⟨a,b⟩,rfl,c,rfl⟩:=zr h;exact⟨zC (ze 3) (by decide),_,zbJ n a b c,qm _⟩
noncomputable def Fsfe (n:Nat):zc→Option O:=qv (α:=(za×qE)×(za×qE)) (fun a=>[.agg (yu a.1),.agg (yu a.2)]) (fun a=>(a.1.2.vb≤zG∧a.1.2.vb≤n∧a.2.2.vb≤zG)) (fun a=>wq (kc a.1 a.2))
theorem NQ(n:Nat)(a b:za×qE)(Y:Hp)(Z:Nat)(h:a.2.vb≤zG∧a.2.vb≤n∧b.2.vb≤zG):zi false [] (Fsfe n) [.agg (yu a),.agg (yu b)] Y Z=some (wq (kc a b),Y,Z):=
 qe (Y1:=Y) (show zA Y [.agg (yu a),.agg (yu b)]=some ([.agg (yu a),.agg (yu b)],Y) by simp[yu])
  (zJ (V:=fun a:(za×qE)×(za×qE)=>[.agg (yu a.1),.agg (yu a.2)]) (a:=(a,b)) (fun x y e=>by
   obtain⟨d,f⟩:=x;obtain⟨g,i⟩:=y;have c:yu d=yu g∧yu f=yu i:=by simp only[zh,zK,O.agg.injEq]at e;exact⟨zh .. ▸ e.1,zh .. ▸ e.2⟩
   rw[Kt c.1,Kt c.2]) h) (.inl rfl)
theorem zbK{n:Nat}{a b:List (za×qE)}(h:(KX a≤zG∧KX a≤n)∧KX b≤zG):a.length≤zG:=by have:=ke a;omega
theorem zbL{n:Nat}{a b:List (za×qE)}(h:(KX a≤zG∧KX a≤n)∧KX b≤zG):b.length≤zG:=by have:=ke b;omega
theorem zez{n:Nat}{a b:List (za×qE)}(h:(KX a≤zG∧KX a≤n)∧KX b≤zG){x y:za×qE}(c:x∈a)(d:y∈b):x.2.vb≤zG∧x.2.vb≤n∧y.2.vb≤zG:=by have:=xV c;have:=xV d;omega
noncomputable abbrev Csf (n:Nat):Ctx:=qb prog [(149,zi false [] (Fsfe n))]
theorem zbM(n:Nat)(a b:List (za×qE))(h:(KX a≤zG∧KX a≤n)∧KX b≤zG):zz (Csf n) f148 [.sl 6 (a.map yu),.sl 6 (b.map yu),.fn (.func 149) [] []]=some (wq (kc a b)):=by
 refine zo rfl ?_;have z:=zbK h;have A:=zbL h;unfold zG at z A;by_cases m:a.length=b.length
 case neg=>
  have r:kc a b=false:=JJ m;have s:((a.length:Int)==b.length)=false:=q7.2 (by omega);have e:((a.length:Int) != b.length)=true:=by rw[bne,s];rfl
  simp[e,r,f148]
 have e:((a.length:Int) != b.length)=false:=by rw[m];simp
 simp[e];refine zQ (fun k f Y Z=>f 0=.sl 6 (a.map yu)∧f 1=.sl 6 (b.map yu)∧f 2=.fn (.func 149) [] []∧f 15=.sl 6 (a.map yu)∧f 16=int a.length∧f 17=int k∧kc a b=kc (a.drop k) (b.drop k)) a.length
  ⟨by simp,by simp,by simp,by simp,by simp[m],by simp,by simp⟩ ?_
 rintro k f Y Z C ⟨t,u,v,g,i,j,l⟩;by_cases d:k<a.length
 ·have c:k<b.length:=by omega
  have B:i6.wrap ((k:Int)+1)=(k:Int)+1:=zn (by omega) (by omega);obtain⟨x,o⟩:∃x,a[k]=x:=⟨_,rfl⟩;obtain⟨y,p⟩:∃y,b[k]=y:=⟨_,rfl⟩;have w:=fun Y Z=>NQ n x y Y Z (by rw[←o,←p];exact zez h (zm d) (zm c))
  rw[WQ d c,o,p]at l;cases q:kc x y
  ·rw[q,kM]at l;simp[t,u,v,g,i,j,d,c,o,p,w,q,l,f148]
  ·rw[q,yZ]at l;simp[t,u,v,g,i,j,d,c,o,p,w,q,B];exact⟨by omega,l⟩
 ·obtain rfl:k=a.length:=by omega
  rw[zl,m,zl,QP]at l;simp[t,u,v,g,i,j,l,f148]
noncomputable def Lsf (n:Nat):zc→Option O:=qv (α:=List (za×qE)×List (za×qE)) (fun a=>[.sl 6 (a.1.map yu),.sl 6 (a.2.map yu),.fn (.func 149) [] []]) (fun p=>let a:=p.1;let b:=p.2;(KX a≤zG∧KX a≤n)∧KX b≤zG) (fun a=>wq (kc a.1 a.2))
theorem SL(n:Nat)(a b:List (za×qE))(Y:Hp)(Z:Nat)(h:(KX a≤zG∧KX a≤n)∧KX b≤zG):zi false [] (Lsf n) [.sl 6 (a.map yu),.sl 6 (b.map yu),.fn (.func 149) [] []] Y Z=some (wq (kc a b),Y,Z):=
 qe (Y1:=Y) (by simp) (zJ (V:=fun a:List (za×qE)×List (za×qE)=>[O.sl 6 (a.1.map yu),.sl 6 (a.2.map yu),.fn (.func 149) [] []]) (a:=(a,b)) (fun x y e=>by obtain⟨f,g⟩:=x;obtain⟨i,j⟩:=y;simp only[zh,zK]at e;obtain⟨c,d⟩:=e;injection c with _ c;injection d with _ d;rw[av c,av d]) h) (.inl rfl)
theorem SM(n:Nat)(hs:zg prog 149 (zi false [] (Fsfe n))):zg prog 148 (zi false [] (Lsf n)):=
 qq (fn:=f148) (zI (q:=[]) mixed ⟨hs,by simp,trivial⟩:AM.Good (Csf n) _) ⟨_,func148,by kernel_rfl,rfl,by kernel_rfl⟩ false [] _ fun args r h=>by obtain⟨⟨a,b⟩,rfl,c,rfl⟩:=zr h;exact⟨zC (ze 3) (by decide),_,zbM n a b c,qm _⟩
noncomputable abbrev Csf1 (n:Nat):Ctx:=qb prog [(116,zi false [] (NP n))]
@[simp]theorem qsf1(n:Nat):yB (Csf1 n) 116:=wC (by rfl) (zt _ _)
theorem o7(n:Nat)(a b:za×qE)(h:a.2.vb≤zG∧a.2.vb≤n∧b.2.vb≤zG):zz (Csf1 n) f149 [.agg (yu a),.agg (yu b)]=some (wq (kc a b)):=by
 refine zo rfl ?_;have c:=fun Y Z=>ud n a.2 b.2 Y Z h
 simp[yu,c,zbD,f149]
theorem lq(n:Nat)(hs:zg prog 116 (zi false [] (NP n))):zg prog 149 (zi false [] (Fsfe n)):=
 qq (fn:=f149) (zI (q:=[116]) mixed ⟨hs,fun _=>zt _ _,trivial⟩:AM.Good (Csf1 n) _) ⟨_,func149,by kernel_rfl,rfl,by kernel_rfl⟩ false [] _ fun args r h=>by obtain⟨⟨a,b⟩,rfl,c,rfl⟩:=zr h;exact⟨zC (ze 2) (by decide),_,o7 n a b c,qm _⟩
abbrev qsv1:List Nat:=[115,148]
noncomputable abbrev Csv1 (n:Nat):Ctx:=qb prog [(115,zi false [] (Lsv n)),(148,zi false [] (Lsf n))]
@[simp]theorem zlB(n:Nat):yB (Csv1 n) 115:=wC (by rfl) (zt _ _)
@[simp]theorem zlC(n:Nat):yB (Csv1 n) 148:=wC (by rfl) (zt _ _)
theorem o8(n:Nat)(a b:qE)(h:a.vb≤zG∧a.vb≤n+1∧b.vb≤zG):zz (Csv1 n) f116 [.agg a.V,.agg b.V]=some (wq (kc a b)):=by
 refine zo rfl ?_;have e:=QW a;have f:=QW b;have c:=fun Y Z=>Fe n a.items b.items Y Z (by omega)
 have d:=fun Y Z=>SL n a.fields b.fields Y Z (by omega)
 simp[c,d,zbC,Fm,f116]
theorem lr:∀n,zg prog 116 (zi false [] (NP n)):=by
 intro n
 induction n with
 |zero=>
  exact Ks ⟨_,func116,by kernel_rfl,by kernel_rfl⟩ fun args r h=>by obtain⟨⟨a,b⟩,rfl,c,rfl⟩:=zr h;have:=Vb a;simp only at c;omega
 |succ n d=>
  have e:AM.Good (Csv1 n) (fun g=>qsv1.contains g):=zI mixed ⟨Ff n d,fun _=>zt _ _,SM n (lq n d),fun _=>zt _ _,trivial⟩;exact qq (fn:=f116) e ⟨_,func116,by kernel_rfl,rfl,by kernel_rfl⟩ false [] _ fun args r h=>by obtain⟨⟨a,b⟩,rfl,c,rfl⟩:=zr h;exact⟨zC (ze 2) (by decide),_,o8 n a b c,qm _⟩
noncomputable def SN (n:Nat):zc→Option O:=qv (α:=wV×wV) (fun a=>[.agg a.1.V,.agg a.2.V]) (fun a=>a.1.cb≤zG∧a.1.cb≤n∧a.2.cb≤zG) (fun a=>wq (kc a.1 a.2))
theorem ue(n:Nat)(a b:wV)(Y:Hp)(Z:Nat)(h:a.cb≤zG∧a.cb≤n∧b.cb≤zG):zi false [] (SN n) [.agg a.V,.agg b.V] Y Z=some (wq (kc a b),Y,Z):=
 qe (Y1:=Y) (show zA Y [.agg a.V,.agg b.V]=some ([.agg a.V,.agg b.V],Y) by simp only[zA,Ju])
  (zJ (V:=fun a:wV×wV=>[.agg a.1.V,.agg a.2.V]) (a:=(a,b)) (fun x y e=>by obtain⟨c,d⟩:=x;obtain⟨f,g⟩:=y;simp only[zh,zK,O.agg.injEq]at e;rw[Ki e.1,Ki e.2]) h) (.inl rfl)
theorem zbN{n:Nat}{a b:List wV}(h:(cO a≤zG∧cO a≤n)∧cO b≤zG):a.length≤zG:=by have:=Zk a;omega
theorem zbO{n:Nat}{a b:List wV}(h:(cO a≤zG∧cO a≤n)∧cO b≤zG):b.length≤zG:=by have:=Zk b;omega
theorem zeA{n:Nat}{a b:List wV}(h:(cO a≤zG∧cO a≤n)∧cO b≤zG){x y:wV}(c:x∈a)(d:y∈b):x.cb≤zG∧x.cb≤n∧y.cb≤zG:=by have:=Yr c;have:=Yr d;omega
theorem uf{a b:List wV}(h:a.map wV.V=b.map wV.V):a=b:=y7 (fun _ _=>Ki) h
noncomputable abbrev Csc (n:Nat):Ctx:=qb prog [(76,zi false [] (SN n))]
theorem zbP(n:Nat)(a b:List (wV))(h:(cO a≤zG∧cO a≤n)∧cO b≤zG):zz (Csc n) f117 [.sl 7 (a.map wV.V),.sl 7 (b.map wV.V),.fn (.func 76) [] []]=some (wq (kc a b)):=by
 refine zo rfl ?_;have z:=zbN h;have A:=zbO h;unfold zG at z A;by_cases m:a.length=b.length
 case neg=>
  have r:kc a b=false:=JJ m;have s:((a.length:Int)==b.length)=false:=q7.2 (by omega);have e:((a.length:Int) != b.length)=true:=by rw[bne,s];rfl
  simp[e,r,f117]
 have e:((a.length:Int) != b.length)=false:=by rw[m];simp
 simp[e];refine zQ (fun k f Y Z=>f 0=.sl 7 (a.map wV.V)∧f 1=.sl 7 (b.map wV.V)∧f 2=.fn (.func 76) [] []∧f 15=.sl 7 (a.map wV.V)∧f 16=int a.length∧f 17=int k∧kc a b=kc (a.drop k) (b.drop k)) a.length
  ⟨by simp,by simp,by simp,by simp,by simp[m],by simp,by simp⟩ ?_
 rintro k f Y Z C ⟨t,u,v,g,i,j,l⟩;by_cases d:k<a.length
 ·have c:k<b.length:=by omega
  have B:i6.wrap ((k:Int)+1)=(k:Int)+1:=zn (by omega) (by omega);obtain⟨x,o⟩:∃x,a[k]=x:=⟨_,rfl⟩;obtain⟨y,p⟩:∃y,b[k]=y:=⟨_,rfl⟩;have w:=fun Y Z=>ue n x y Y Z (by rw[←o,←p];exact zeA h (zm d) (zm c))
  rw[WQ d c,o,p]at l;cases q:kc x y
  ·rw[q,kM]at l;simp[t,u,v,g,i,j,d,c,o,p,w,q,l,f117]
  ·rw[q,yZ]at l;simp[t,u,v,g,i,j,d,c,o,p,w,q,B];exact⟨by omega,l⟩
 ·obtain rfl:k=a.length:=by omega
  rw[zl,m,zl,QP]at l;simp[t,u,v,g,i,j,l,f117]
noncomputable def Lsc (n:Nat):zc→Option O:=qv (α:=List (wV)×List (wV)) (fun a=>[.sl 7 (a.1.map wV.V),.sl 7 (a.2.map wV.V),.fn (.func 76) [] []]) (fun p=>let a:=p.1;let b:=p.2;(cO a≤zG∧cO a≤n)∧cO b≤zG) (fun a=>wq (kc a.1 a.2))
theorem SO(n:Nat)(a b:List (wV))(Y:Hp)(Z:Nat)(h:(cO a≤zG∧cO a≤n)∧cO b≤zG):zi false [] (Lsc n) [.sl 7 (a.map wV.V),.sl 7 (b.map wV.V),.fn (.func 76) [] []] Y Z=some (wq (kc a b),Y,Z):=
 qe (Y1:=Y) (by simp) (zJ (V:=fun a:List (wV)×List (wV)=>[O.sl 7 (a.1.map wV.V),.sl 7 (a.2.map wV.V),.fn (.func 76) [] []]) (a:=(a,b)) (fun x y e=>by obtain⟨f,g⟩:=x;obtain⟨i,j⟩:=y;simp only[zh,zK]at e;obtain⟨c,d⟩:=e;injection c with _ c;injection d with _ d;rw[uf c,uf d]) h) (.inl rfl)
theorem SP(n:Nat)(hs:zg prog 76 (zi false [] (SN n))):zg prog 117 (zi false [] (Lsc n)):=
 qq (fn:=f117) (zI (q:=[]) mixed ⟨hs,by simp,trivial⟩:AM.Good (Csc n) _) ⟨_,func117,by kernel_rfl,rfl,by kernel_rfl⟩ false [] _ fun args r h=>by obtain⟨⟨a,b⟩,rfl,c,rfl⟩:=zr h;exact⟨zC (ze 3) (by decide),_,zbP n a b c,qm _⟩
abbrev qsc1:List Nat:=[115,117]
noncomputable abbrev Csc1 (n:Nat):Ctx:=qb prog [(115,zi false [] (Lsv zG)),(117,zi false [] (Lsc n))]
@[simp]theorem zlD(n:Nat):yB (Csc1 n) 115:=wC (by rfl) (zt _ _)
@[simp]theorem zlE(n:Nat):yB (Csc1 n) 117:=wC (by rfl) (zt _ _)
theorem rS(n:Nat)(a b:wV)(h:a.cb≤zG∧a.cb≤n+1∧b.cb≤zG):zz (Csc1 n) f76 [.agg a.V,.agg b.V]=some (wq (kc a b)):=by
 refine zo rfl ?_;have e:=VX a;have f:=VX b;have c:=fun Y Z=>Fe zG a.yY b.yY Y Z (by omega)
 have d:=fun Y Z=>SO n a.args b.args Y Z (by omega)
 simp[c,d,zbE,Fm,f76]
theorem o9:∀n,zg prog 76 (zi false [] (SN n)):=by
 intro n
 induction n with
 |zero=>
  exact Ks ⟨_,func76,by kernel_rfl,by kernel_rfl⟩ fun args r h=>by obtain⟨⟨a,b⟩,rfl,c,rfl⟩:=zr h;have:=mO a;simp only at c;omega
 |succ n d=>
  have e:AM.Good (Csc1 n) (fun g=>qsc1.contains g):=zI mixed ⟨Ff zG (lr zG),fun _=>zt _ _,SP n d,fun _=>zt _ _,trivial⟩;exact qq (fn:=f76) e ⟨_,func76,by kernel_rfl,rfl,by kernel_rfl⟩ false [] _ fun args r h=>by obtain⟨⟨a,b⟩,rfl,c,rfl⟩:=zr h;exact⟨zC (ze 2) (by decide),_,rS n a b c,qm _⟩
noncomputable def Fspe (n:Nat):zc→Option O:=qv (α:=wc×wc) (fun a=>[.agg a.1.V,.agg a.2.V]) (fun a=>a.1.qS.length≤zG∧0≤n) (fun a=>wq (kc a.1 a.2))
theorem NR(n:Nat)(a b:wc)(Y:Hp)(Z:Nat)(h:a.qS.length≤zG∧0≤n):zi false [] (Fspe n) [.agg a.V,.agg b.V] Y Z=some (wq (kc a b),Y,Z):=
 qe (Y1:=Y) (show zA Y [.agg a.V,.agg b.V]=some ([.agg a.V,.agg b.V],Y) by simp[wc.V])
  (zJ (V:=fun a:wc×wc=>[.agg a.1.V,.agg a.2.V]) (a:=(a,b)) (fun x y e=>by obtain⟨c,d⟩:=x;obtain⟨f,g⟩:=y;simp only[zh,zK,O.agg.injEq]at e;rw[dU e.1,dU e.2]) h) (.inl rfl)
noncomputable abbrev Csp1:Ctx:=qb prog [(118,zi false [] (lT (fun a b=>wq (decide (a=b))) fun a _=>a.length≤zG))]
@[simp]theorem qsp1:yB Csp1 118:=wC (by rfl) (zt _ _)
theorem Lf{α:Type}[DecidableEq α](a b:α):kc a b=decide (a=b):=by rw[qA,xy,decide_eq_true_iff]
theorem pa(a b:wc)(h:a.qS.length≤zG):zz Csp1 f79 [.agg a.V,.agg b.V]=some (wq (kc a b)):=by
 refine zo rfl ?_;have c:=fun Y Z=>WI (fun a b=>wq (decide (a=b))) (fun a _=>a.length≤zG) a.qS b.qS Y Z h
 have d:=Lf a.qS b.qS;simp[wc.V,c,zbF,d,f79]
theorem lu(n:Nat):zg prog 79 (zi false [] (Fspe n)):=
 qq (fn:=f79) (zI (q:=[118]) mixed ⟨dS,fun _=>zt _ _,trivial⟩:AM.Good Csp1 _) ⟨_,func79,by kernel_rfl,rfl,by kernel_rfl⟩ false [] _ fun args r h=>by obtain⟨⟨a,b⟩,rfl,c,rfl⟩:=zr h;exact⟨zC (ze 2) (by decide),_,pa a b c.1,qm _⟩
theorem zbQ{n:Nat}{a b:List wc}(h:(∀p∈a,p.qS.length≤zG)∧a.length≤zG∧b.length≤zG∧0≤n):a.length≤zG:=h.2.1
theorem zbR{n:Nat}{a b:List wc}(h:(∀p∈a,p.qS.length≤zG)∧a.length≤zG∧b.length≤zG∧0≤n):b.length≤zG:=h.2.2.1
theorem zeB{n:Nat}{a b:List wc}(h:(∀p∈a,p.qS.length≤zG)∧a.length≤zG∧b.length≤zG∧0≤n){x y:wc}(c:x∈a)(_:y∈b):x.qS.length≤zG∧0≤n:=⟨h.1 x c,kD _⟩
theorem ug{a b:List wc}(h:a.map wc.V=b.map wc.V):a=b:=y7 (fun _ _=>dU) h
noncomputable abbrev Csp4 (n:Nat):Ctx:=qb prog [(79,zi false [] (Fspe n))]
theorem zbS(n:Nat)(a b:List (wc))(h:(∀p∈a,p.qS.length≤zG)∧a.length≤zG∧b.length≤zG∧0≤n):zz (Csp4 n) f78 [.sl 2 (a.map wc.V),.sl 2 (b.map wc.V),.fn (.func 79) [] []]=some (wq (kc a b)):=by
 refine zo rfl ?_;have A:=zbQ h;have B:=zbR h;unfold zG at A B;by_cases m:a.length=b.length
 case neg=>
  have r:kc a b=false:=JJ m;have s:((a.length:Int)==b.length)=false:=q7.2 (by omega);have e:((a.length:Int) != b.length)=true:=by rw[bne,s];rfl
  simp[e,r,f78]
 have e:((a.length:Int) != b.length)=false:=by rw[m];simp
 simp[e];refine zQ (fun k f Y Z=>f 0=.sl 2 (a.map wc.V)∧f 1=.sl 2 (b.map wc.V)∧f 2=.fn (.func 79) [] []∧f 15=.sl 2 (a.map wc.V)∧f 16=int a.length∧f 17=int k∧kc a b=kc (a.drop k) (b.drop k)) a.length
  ⟨by simp,by simp,by simp,by simp,by simp[m],by simp,by simp⟩ ?_
 rintro k f Y Z D ⟨t,u,v,g,i,j,l⟩;by_cases d:k<a.length
 ·have c:k<b.length:=by omega
  have C:i6.wrap ((k:Int)+1)=(k:Int)+1:=zn (by omega) (by omega);obtain⟨x,o⟩:∃x,a[k]=x:=⟨_,rfl⟩;obtain⟨y,w⟩:∃y,b[k]=y:=⟨_,rfl⟩;have z:=fun Y Z=>NR n x y Y Z (by rw[←o];exact zeB h (zm d) (zm c))
  rw[WQ d c,o,w]at l;simp only[wc.V]at z;cases q:kc x y
  ·rw[q,kM]at l;simp[t,u,v,g,i,j,d,c,o,w,wc.V,z,q,l,f78]
  ·rw[q,yZ]at l;simp[t,u,v,g,i,j,d,c,o,w,wc.V,z,q,C];exact⟨by omega,l⟩
 ·obtain rfl:k=a.length:=by omega
  rw[zl,m,zl,QP]at l;simp[t,u,v,g,i,j,l,f78]
noncomputable def Lsp (n:Nat):zc→Option O:=qv (α:=List (wc)×List (wc)) (fun a=>[.sl 2 (a.1.map wc.V),.sl 2 (a.2.map wc.V),.fn (.func 79) [] []]) (fun p=>let a:=p.1;let b:=p.2;(∀p∈a,p.qS.length≤zG)∧a.length≤zG∧b.length≤zG∧0≤n) (fun a=>wq (kc a.1 a.2))
theorem SQ(n:Nat)(a b:List (wc))(Y:Hp)(Z:Nat)(h:(∀p∈a,p.qS.length≤zG)∧a.length≤zG∧b.length≤zG∧0≤n):zi false [] (Lsp n) [.sl 2 (a.map wc.V),.sl 2 (b.map wc.V),.fn (.func 79) [] []] Y Z=some (wq (kc a b),Y,Z):=
 qe (Y1:=Y) (by simp) (zJ (V:=fun a:List (wc)×List (wc)=>[O.sl 2 (a.1.map wc.V),.sl 2 (a.2.map wc.V),.fn (.func 79) [] []]) (a:=(a,b)) (fun x y e=>by obtain⟨f,g⟩:=x;obtain⟨i,j⟩:=y;simp only[zh,zK]at e;obtain⟨c,d⟩:=e;injection c with _ c;injection d with _ d;rw[ug c,ug d]) h) (.inl rfl)
theorem SR(n:Nat)(hs:zg prog 79 (zi false [] (Fspe n))):zg prog 78 (zi false [] (Lsp n)):=
 qq (fn:=f78) (zI (q:=[]) mixed ⟨hs,by simp,trivial⟩:AM.Good (Csp4 n) _) ⟨_,func78,by kernel_rfl,rfl,by kernel_rfl⟩ false [] _ fun args r h=>by obtain⟨⟨a,b⟩,rfl,c,rfl⟩:=zr h;exact⟨zC (ze 3) (by decide),_,zbS n a b c,qm _⟩
def vQ(x:Xp):Prop:=x.cond.cb≤zG∧x.jX.length≤zG∧(∀p∈x.zs,p.qS.length≤zG)∧x.zs.length≤zG
abbrev qse1:List Nat:=[76,77,78]
noncomputable abbrev SS:Ctx:=qb prog [(76,zi false [] (SN zG)),(77,zi false [] (FRR2 (fun a b=>wq (decide (a=b))) fun a _=>a.length≤zG)),(78,zi false [] (Lsp 0))]
@[simp]theorem zlF:yB SS 76:=wC (by rfl) (zt _ _)
@[simp]theorem zlG:yB SS 77:=wC (by rfl) (zt _ _)
@[simp]theorem zlH:yB SS 78:=wC (by rfl) (zt _ _)
theorem BJ(a b:Xp)(c:vQ a)(d:vQ b):zz SS f41 [.agg a.V,.agg b.V]=some (wq (kc a b)):=by
 refine zo rfl ?_;have e:=fun Y Z=>ue zG a.cond b.cond Y Z ⟨c.1,c.1,d.1⟩
 have f:=fun Y Z=>NN (fun a b=>wq (decide (a=b))) (fun a _=>a.length≤zG) a.jX b.jX Y Z c.2.1
 have g:=fun Y Z=>SQ 0 a.zs b.zs Y Z ⟨c.2.2.1,c.2.2.2,d.2.2.2,ze _⟩
 have h:=Lf a.jX b.jX;rw[yU,yU]at e;simp[zZ,e,f,g,h,zex,Fm,f41]
end Go.Q
namespace Go.Q
open Go.RowKit Go.Lib Go.AM
attribute [local go_sem] Oper.semAt_some
end Go.Q
namespace Go.Q
theorem zhP(a b:za):((⟨a.toArray⟩:ByteArray)==⟨b.toArray⟩)=decide (a=b):=by show(a.toArray==b.toArray)=_;by_cases h:a=b<;>simp[h]
theorem Fg(a b:List za)(s:a.length≤zG):zz C0 f75 [.sl 1 (qd a),.sl 1 (qd b)]=some (wq (kc a b)):=by
 unfold zG at s;refine zo rfl ?_;by_cases m:a.length=b.length
 case neg=>
  have d:((a.length:Int) != (b.length:Int))=true:=by simp;omega
  have n:kc a b=false:=JJ m;simp[d,n,f75]
 have d:((a.length:Int) != (b.length:Int))=false:=by simp[m]
 simp[d];refine zQ (fun k l Y Z=>l 0=.sl 1 (qd a)∧l 1=.sl 1 (qd b)∧l 12=int a.length∧l 13=int k∧kc a b=kc (a.drop k) (b.drop k)) a.length
  ⟨by simp,by simp,by simp,by simp,by simp⟩ ?_
 rintro k l Y Z u ⟨o,r,e,f,g⟩;by_cases h:k<a.length
 ·have c:k<b.length:=by omega
  have t:i6.wrap ((k:Int)+1)=(k:Int)+1:=zn (by omega) (by omega);obtain⟨p,Y0⟩:∃p,a[k]=p:=⟨_,rfl⟩;obtain⟨q,i⟩:∃q,b[k]=q:=⟨_,rfl⟩;rw[WQ h c,Y0,i,zbB]at g;cases hd:(p==q)
  ·rw[hd,kM]at g;have j:¬p=q:=by simpa using hd
   simp[o,r,e,f,h,c,Y0,i,j,hd,g,f75]
  ·rw[hd,yZ]at g;have j:p=q:=by simpa using hd
   simp[o,r,e,f,h,c,Y0,i,j,t];exact⟨by omega,g⟩
 ·obtain rfl:k=a.length:=by omega
  rw[zl,m,zl,QP]at g;simp[o,r,e,f,g,f75]
noncomputable def FTq:zc→Option O:=qv (α:=List za×List za) (fun a=>[.sl 1 (qd a.1),.sl 1 (qd a.2)]) (fun a=>a.1.length≤zG) (fun a=>wq (kc a.1 a.2))
theorem SU(a b:List za)(Y:Hp)(Z:Nat)(h:a.length≤zG):zi false [] FTq [.sl 1 (qd a),.sl 1 (qd b)] Y Z=some (wq (kc a b),Y,Z):=
 qe rfl (zJ (V:=fun a:List za×List za=>[O.sl 1 (qd a.1),.sl 1 (qd a.2)]) (a:=(a,b)) (fun x y e=>by obtain⟨f,g⟩:=x;obtain⟨i,j⟩:=y;simp only[zh,zK]at e;obtain⟨c,d⟩:=e;rw[vf (O.sl.inj c).2,vf (O.sl.inj d).2]) h) (.inl rfl)
theorem BK:zg prog 75 (zi false [] FTq):=
 qq (fn:=f75) w8 ⟨_,func75,by kernel_rfl,rfl,by kernel_rfl⟩ false [] _ fun args r h=>by obtain⟨⟨a,b⟩,rfl,c,rfl⟩:=zr h;exact⟨zC (ze 2) (by decide),_,Fg a b c,qm _⟩
theorem zhQ(s t u v:za)(x y:Int):jP prog .neq 61 (.agg [str s,str t,int x]) (.agg [str u,str v,int y])=some (wq (!(decide (s=u)&&(decide (t=v)&&decide (x=y))))):=by simp only[jP,fl61,yi,wi,zH,ae,zhP];rfl
theorem zbT(a b:wh):kc a b=(decide (a.name=b.name)&&(decide (a.qI=b.qI)&&decide (a.rest=b.rest))):=by rw[qA];simp only[zF,xy,ql];cases a;cases b;simp
theorem Fh(a b:List wh)(s:a.length≤zG):zz C0 f37 [.sl 3 (a.map wh.V),.sl 3 (b.map wh.V)]=some (wq (kc a b)):=by
 unfold zG at s;refine zo rfl ?_;by_cases m:a.length=b.length
 case neg=>
  have e:((a.length:Int) != (b.length:Int))=true:=by simp;omega
  have n:kc a b=false:=JJ m;simp[e,n,f37]
 have e:((a.length:Int) != (b.length:Int))=false:=by simp[m]
 simp[e];refine zQ (fun k j Y Z=>j 0=.sl 3 (a.map wh.V)∧j 1=.sl 3 (b.map wh.V)∧j 12=int a.length∧j 13=int k∧kc a b=kc (a.drop k) (b.drop k)) a.length
  ⟨by simp,by simp,by simp,by simp,by simp⟩ ?_
 rintro k j Y Z u ⟨o,r,f,g,d⟩;by_cases h:k<a.length
 ·have c:k<b.length:=by omega
  have t:i6.wrap ((k:Int)+1)=(k:Int)+1:=zn (by omega) (by omega);obtain⟨p,Y0⟩:∃p,a[k]=p:=⟨_,rfl⟩;obtain⟨q,i⟩:∃q,b[k]=q:=⟨_,rfl⟩;have l:=zhQ p.name p.qI q.name q.qI p.rest q.rest;rw[←zbT]at l;rw[WQ h c,Y0,i]at d;cases hd:kc p q
  ·rw[hd]at d l;rw[kM]at d;simp[o,r,f,g,h,c,Y0,i,wh.V,l,d,f37]
  ·rw[hd]at d l;rw[yZ]at d;simp[o,r,f,g,h,c,Y0,i,wh.V,l,t];exact⟨by omega,d⟩
 ·obtain rfl:k=a.length:=by omega
  rw[zl,m,zl,QP]at d;simp[o,r,f,g,d,f37]
noncomputable def FLq:zc→Option O:=qv (α:=List wh×List wh) (fun a=>[.sl 3 (a.1.map wh.V),.sl 3 (a.2.map wh.V)]) (fun a=>a.1.length≤zG) (fun a=>wq (kc a.1 a.2))
theorem SV(a b:List wh)(Y:Hp)(Z:Nat)(h:a.length≤zG):zi false [] FLq [.sl 3 (a.map wh.V),.sl 3 (b.map wh.V)] Y Z=some (wq (kc a b),Y,Z):=
 qe rfl (zJ (V:=fun a:List wh×List wh=>[O.sl 3 (a.1.map wh.V),.sl 3 (a.2.map wh.V)]) (a:=(a,b)) (fun x y e=>by obtain⟨f,g⟩:=x;obtain⟨i,j⟩:=y;simp only[zh,zK]at e;obtain⟨c,d⟩:=e;rw[y7 (fun _ _=>Yy) (O.sl.inj c).2,y7 (fun _ _=>Yy) (O.sl.inj d).2]) h) (.inl rfl)
theorem BL:zg prog 37 (zi false [] FLq):=
 qq (fn:=f37) w8 ⟨_,func37,by kernel_rfl,rfl,by kernel_rfl⟩ false [] _ fun args r h=>by obtain⟨⟨a,b⟩,rfl,c,rfl⟩:=zr h;exact⟨zC (ze 2) (by decide),_,Fh a b c,qm _⟩
theorem zbU(a b:yI):kc a b=((a.name==b.name)&&((a.qI==b.qI)&&((a.buckets==b.buckets)&&kc a.zk b.zk))):=by rw[qA];simp only[zF,xy,eO];cases a;cases b;simp
noncomputable def Fshe (n:Nat):zc→Option O:=qv (α:=yI×yI) (fun a=>[.agg a.1.V,.agg a.2.V]) (fun a=>a.1.zk.length≤zG∧0≤n) (fun a=>wq (kc a.1 a.2))
theorem NS(n:Nat)(a b:yI)(Y:Hp)(Z:Nat)(h:a.zk.length≤zG∧0≤n):zi false [] (Fshe n) [.agg a.V,.agg b.V] Y Z=some (wq (kc a b),Y,Z):=
 qe (Y1:=Y) (show zA Y [.agg a.V,.agg b.V]=some ([.agg a.V,.agg b.V],Y) by simp[yI.V])
  (zJ (V:=fun a:yI×yI=>[.agg a.1.V,.agg a.2.V]) (a:=(a,b)) (fun x y e=>by obtain⟨c,d⟩:=x;obtain⟨f,g⟩:=y;simp only[zh,zK,O.agg.injEq]at e;rw[lM e.1,lM e.2]) h) (.inl rfl)
noncomputable abbrev Csh1:Ctx:=qb prog [(75,zi false [] FTq)]
@[simp]theorem qsh1:yB Csh1 75:=wC (by rfl) (zt _ _)
theorem rT(a b:yI)(h:a.zk.length≤zG):zz Csh1 f39 [.agg a.V,.agg b.V]=some (wq (kc a b)):=by
 refine zo rfl ?_;have c:=fun Y Z=>SU a.zk b.zk Y Z h
 simp[yI.V,c,zbU,Fm,f39]
theorem pd(n:Nat):zg prog 39 (zi false [] (Fshe n)):=
 qq (fn:=f39) (zI (q:=[75]) mixed ⟨BK,fun _=>zt _ _,trivial⟩:AM.Good Csh1 _) ⟨_,func39,by kernel_rfl,rfl,by kernel_rfl⟩ false [] _ fun args r h=>by obtain⟨⟨a,b⟩,rfl,c,rfl⟩:=zr h;exact⟨zC (ze 2) (by decide),_,rT a b c.1,qm _⟩
theorem zbV{n:Nat}{a b:List yI}(h:(∀p∈a,p.zk.length≤zG)∧a.length≤zG∧b.length≤zG∧0≤n):a.length≤zG:=h.2.1
theorem zbW{n:Nat}{a b:List yI}(h:(∀p∈a,p.zk.length≤zG)∧a.length≤zG∧b.length≤zG∧0≤n):b.length≤zG:=h.2.2.1
theorem zeC{n:Nat}{a b:List yI}(h:(∀p∈a,p.zk.length≤zG)∧a.length≤zG∧b.length≤zG∧0≤n){x y:yI}(c:x∈a)(_:y∈b):x.zk.length≤zG∧0≤n:=⟨h.1 x c,kD _⟩
theorem uh{a b:List yI}(h:a.map yI.V=b.map yI.V):a=b:=y7 (fun _ _=>lM) h
noncomputable abbrev Csh (n:Nat):Ctx:=qb prog [(39,zi false [] (Fshe n))]
theorem zbX(n:Nat)(a b:List (yI))(h:(∀p∈a,p.zk.length≤zG)∧a.length≤zG∧b.length≤zG∧0≤n):zz (Csh n) f38 [.sl 4 (a.map yI.V),.sl 4 (b.map yI.V),.fn (.func 39) [] []]=some (wq (kc a b)):=by
 refine zo rfl ?_;have A:=zbV h;have B:=zbW h;unfold zG at A B;by_cases m:a.length=b.length
 case neg=>
  have r:kc a b=false:=JJ m;have s:((a.length:Int)==b.length)=false:=q7.2 (by omega);have e:((a.length:Int) != b.length)=true:=by rw[bne,s];rfl
  simp[e,r,f38]
 have e:((a.length:Int) != b.length)=false:=by rw[m];simp
 simp[e];refine zQ (fun k f Y Z=>f 0=.sl 4 (a.map yI.V)∧f 1=.sl 4 (b.map yI.V)∧f 2=.fn (.func 39) [] []∧f 15=.sl 4 (a.map yI.V)∧f 16=int a.length∧f 17=int k∧kc a b=kc (a.drop k) (b.drop k)) a.length
  ⟨by simp,by simp,by simp,by simp,by simp[m],by simp,by simp⟩ ?_
 rintro k f Y Z D ⟨t,u,v,g,i,j,l⟩;by_cases d:k<a.length
 ·have c:k<b.length:=by omega
  have C:i6.wrap ((k:Int)+1)=(k:Int)+1:=zn (by omega) (by omega);obtain⟨x,o⟩:∃x,a[k]=x:=⟨_,rfl⟩;obtain⟨y,w⟩:∃y,b[k]=y:=⟨_,rfl⟩;have z:=fun Y Z=>NS n x y Y Z (by rw[←o];exact zeC h (zm d) (zm c))
  rw[WQ d c,o,w]at l;simp only[yI.V]at z;cases q:kc x y
  ·rw[q,kM]at l;simp[t,u,v,g,i,j,d,c,o,w,yI.V,z,q,l,f38]
  ·rw[q,yZ]at l;simp[t,u,v,g,i,j,d,c,o,w,yI.V,z,q,C];exact⟨by omega,l⟩
 ·obtain rfl:k=a.length:=by omega
  rw[zl,m,zl,QP]at l;simp[t,u,v,g,i,j,l,f38]
noncomputable def Lsh (n:Nat):zc→Option O:=qv (α:=List (yI)×List (yI)) (fun a=>[.sl 4 (a.1.map yI.V),.sl 4 (a.2.map yI.V),.fn (.func 39) [] []]) (fun p=>let a:=p.1;let b:=p.2;(∀p∈a,p.zk.length≤zG)∧a.length≤zG∧b.length≤zG∧0≤n) (fun a=>wq (kc a.1 a.2))
theorem SX(n:Nat)(a b:List (yI))(Y:Hp)(Z:Nat)(h:(∀p∈a,p.zk.length≤zG)∧a.length≤zG∧b.length≤zG∧0≤n):zi false [] (Lsh n) [.sl 4 (a.map yI.V),.sl 4 (b.map yI.V),.fn (.func 39) [] []] Y Z=some (wq (kc a b),Y,Z):=
 qe (Y1:=Y) (by simp) (zJ (V:=fun a:List (yI)×List (yI)=>[O.sl 4 (a.1.map yI.V),.sl 4 (a.2.map yI.V),.fn (.func 39) [] []]) (a:=(a,b)) (fun x y e=>by obtain⟨f,g⟩:=x;obtain⟨i,j⟩:=y;simp only[zh,zK]at e;obtain⟨c,d⟩:=e;injection c with _ c;injection d with _ d;rw[uh c,uh d]) h) (.inl rfl)
theorem SY(n:Nat)(hs:zg prog 39 (zi false [] (Fshe n))):zg prog 38 (zi false [] (Lsh n)):=
 qq (fn:=f38) (zI (q:=[]) mixed ⟨hs,by simp,trivial⟩:AM.Good (Csh n) _) ⟨_,func38,by kernel_rfl,rfl,by kernel_rfl⟩ false [] _ fun args r h=>by obtain⟨⟨a,b⟩,rfl,c,rfl⟩:=zr h;exact⟨zC (ze 3) (by decide),_,zbX n a b c,qm _⟩
noncomputable def Fsxe (n:Nat):zc→Option O:=qv (α:=Xp×Xp) (fun a=>[.agg a.1.V,.agg a.2.V]) (fun a=>(vQ a.1∧vQ a.2)∧0≤n) (fun a=>wq (kc a.1 a.2))
theorem NT(n:Nat)(a b:Xp)(Y:Hp)(Z:Nat)(h:(vQ a∧vQ b)∧0≤n):zi false [] (Fsxe n) [.agg a.V,.agg b.V] Y Z=some (wq (kc a b),Y,Z):=
 qe (Y1:=Y) (show zA Y [.agg a.V,.agg b.V]=some ([.agg a.V,.agg b.V],Y) by simp only[zA,Qh])
  (zJ (V:=fun a:Xp×Xp=>[.agg a.1.V,.agg a.2.V]) (a:=(a,b)) (fun x y e=>by obtain⟨c,d⟩:=x;obtain⟨f,g⟩:=y;simp only[zh,zK,O.agg.injEq]at e;rw[xQ e.1,xQ e.2]) h) (.inl rfl)
theorem pg(n:Nat):zg prog 41 (zi false [] (Fsxe n)):=
 qq (fn:=f41) (zI (q:=qse1) mixed ⟨o9 zG,fun _=>zt _ _,rR,fun _=>zt _ _,SR 0 (lu 0),fun _=>zt _ _,trivial⟩:AM.Good SS _) ⟨_,func41,by kernel_rfl,rfl,by kernel_rfl⟩ false [] _ fun args r h=>by obtain⟨⟨a,b⟩,rfl,c,rfl⟩:=zr h;exact⟨zC (ze 2) (by decide),_,BJ a b c.1.1 c.1.2,qm _⟩
theorem zbY{n:Nat}{a b:List Xp}(h:((∀p∈a,vQ p)∧∀p∈b,vQ p)∧a.length≤zG∧b.length≤zG∧0≤n):a.length≤zG:=h.2.1
theorem zbZ{n:Nat}{a b:List Xp}(h:((∀p∈a,vQ p)∧∀p∈b,vQ p)∧a.length≤zG∧b.length≤zG∧0≤n):b.length≤zG:=h.2.2.1
theorem zeD{n:Nat}{a b:List Xp}(h:((∀p∈a,vQ p)∧∀p∈b,vQ p)∧a.length≤zG∧b.length≤zG∧0≤n){x y:Xp}(c:x∈a)(d:y∈b):(vQ x∧vQ y)∧0≤n:=⟨⟨h.1.1 x c,h.1.2 y d⟩,kD _⟩
theorem ui{a b:List Xp}(h:a.map Xp.V=b.map Xp.V):a=b:=y7 (fun _ _=>xQ) h
noncomputable abbrev Csx (n:Nat):Ctx:=qb prog [(41,zi false [] (Fsxe n))]
theorem zb0(n:Nat)(a b:List (Xp))(h:((∀p∈a,vQ p)∧∀p∈b,vQ p)∧a.length≤zG∧b.length≤zG∧0≤n):zz (Csx n) f40 [.sl 13 (a.map Xp.V),.sl 13 (b.map Xp.V),.fn (.func 41) [] []]=some (wq (kc a b)):=by
 refine zo rfl ?_;have A:=zbY h;have B:=zbZ h;unfold zG at A B;by_cases m:a.length=b.length
 case neg=>
  have s:kc a b=false:=JJ m;have t:((a.length:Int)==b.length)=false:=q7.2 (by omega);have e:((a.length:Int) != b.length)=true:=by rw[bne,t];rfl
  simp[e,s,f40]
 have e:((a.length:Int) != b.length)=false:=by rw[m];simp
 simp[e];refine zQ (fun k f Y Z=>f 0=.sl 13 (a.map Xp.V)∧f 1=.sl 13 (b.map Xp.V)∧f 2=.fn (.func 41) [] []∧f 15=.sl 13 (a.map Xp.V)∧f 16=int a.length∧f 17=int k∧kc a b=kc (a.drop k) (b.drop k)) a.length
  ⟨by simp,by simp,by simp,by simp,by simp[m],by simp,by simp⟩ ?_
 rintro k f Y Z D ⟨u,v,w,g,i,j,l⟩;by_cases d:k<a.length
 ·have c:k<b.length:=by omega
  have C:i6.wrap ((k:Int)+1)=(k:Int)+1:=zn (by omega) (by omega);obtain⟨x,o⟩:∃x,a[k]=x:=⟨_,rfl⟩;obtain⟨y,q⟩:∃y,b[k]=y:=⟨_,rfl⟩;have z:=fun Y Z=>NT n x y Y Z (by rw[←o,←q];exact zeD h (zm d) (zm c))
  rw[WQ d c,o,q]at l;simp only[zZ]at z;cases r:kc x y
  ·rw[r,kM]at l;simp[u,v,w,g,i,j,d,c,o,q,zZ,z,r,l,f40]
  ·rw[r,yZ]at l;simp[u,v,w,g,i,j,d,c,o,q,zZ,z,r,C];exact⟨by omega,l⟩
 ·obtain rfl:k=a.length:=by omega
  rw[zl,m,zl,QP]at l;simp[u,v,w,g,i,j,l,f40]
noncomputable def Lsx (n:Nat):zc→Option O:=qv (α:=List (Xp)×List (Xp)) (fun a=>[.sl 13 (a.1.map Xp.V),.sl 13 (a.2.map Xp.V),.fn (.func 41) [] []]) (fun p=>let a:=p.1;let b:=p.2;((∀p∈a,vQ p)∧∀p∈b,vQ p)∧a.length≤zG∧b.length≤zG∧0≤n) (fun a=>wq (kc a.1 a.2))
theorem SZ(n:Nat)(a b:List (Xp))(Y:Hp)(Z:Nat)(h:((∀p∈a,vQ p)∧∀p∈b,vQ p)∧a.length≤zG∧b.length≤zG∧0≤n):zi false [] (Lsx n) [.sl 13 (a.map Xp.V),.sl 13 (b.map Xp.V),.fn (.func 41) [] []] Y Z=some (wq (kc a b),Y,Z):=
 qe (Y1:=Y) (by simp) (zJ (V:=fun a:List (Xp)×List (Xp)=>[O.sl 13 (a.1.map Xp.V),.sl 13 (a.2.map Xp.V),.fn (.func 41) [] []]) (a:=(a,b)) (fun x y e=>by obtain⟨f,g⟩:=x;obtain⟨i,j⟩:=y;simp only[zh,zK]at e;obtain⟨c,d⟩:=e;injection c with _ c;injection d with _ d;rw[ui c,ui d]) h) (.inl rfl)
theorem S3(n:Nat)(hs:zg prog 41 (zi false [] (Fsxe n))):zg prog 40 (zi false [] (Lsx n)):=
 qq (fn:=f40) (zI (q:=[]) mixed ⟨hs,by simp,trivial⟩:AM.Good (Csx n) _) ⟨_,func40,by kernel_rfl,rfl,by kernel_rfl⟩ false [] _ fun args r h=>by obtain⟨⟨a,b⟩,rfl,c,rfl⟩:=zr h;exact⟨zC (ze 3) (by decide),_,zb0 n a b c,qm _⟩
abbrev qsb:List Nat:=[37,38,40]
noncomputable abbrev Csb:Ctx:=qb prog [(37,zi false [] FLq),(38,zi false [] (Lsh 0)),(40,zi false [] (Lsx 0))]
theorem zeE:AM.Good Csb (fun g=>qsb.contains g):=zI mixed ⟨BL,fun _=>zt _ _,SY 0 (pd 0),fun _=>zt _ _,S3 0 (pg 0),fun _=>zt _ _,trivial⟩
@[simp]theorem qsb2:yB Csb 38:=wC (by rfl) (zt _ _)
@[simp]theorem qsb3:yB Csb 40:=wC (by rfl) (zt _ _)
theorem zeF(a b:Bk):kc a b=(kc a.zk b.zk&&(kc a.holds b.holds&&kc a.zE b.zE)):=by rw[qA];simp only[zF,xy];cases a;cases b;simp
theorem S5{b:Bk}(h:b.cb≤zG):b.zk.length≤zG∧b.holds.length≤zG∧(∀p∈b.holds,p.zk.length≤zG)∧b.zE.length≤zG∧∀p∈b.zE,vQ p:=by
 have c:b.cb=wg wh.cb b.zk+wg yI.cb b.holds+wg Xp.cb b.zE:=rfl;have n:=qJ xa b.zk;have o:=qJ JF b.holds;have r:=qJ ZG b.zE;refine⟨by omega,by omega,fun q d=>?_,by omega,fun x e=>?_⟩
 ·have g:=yg (f:=yI.cb) d;have i:q.cb=1+q.name.length+q.qI.length+wg (fun s:List UInt8=>1+s.length) q.zk:=rfl;have j:=qJ (f:=fun s:List UInt8=>1+s.length) (fun _=>by omega) q.zk;omega
 ·have k:=yg (f:=Xp.cb) e;have l:x.cb=x.name.length+x.qi.length+x.flag.length+x.cond.cb+x.qI.length+x.jX.length+wg wc.cb x.zs:=rfl;have a:=qJ vG x.zs;refine⟨by omega,by omega,fun p Y=>?_,by omega⟩;have:=yg (f:=wc.cb) Y;have m:p.cb=1+p.qS.length:=rfl;omega
theorem rU(a b:Bk)(c:a.cb≤zG)(d:b.cb≤zG):zz Csb Tryz.f6 [.agg a.V,.agg b.V]=some (wq (kc a b)):=by
 refine zo rfl ?_;obtain⟨e,f,g,h,i⟩:=S5 c;obtain⟨p,j,q,k,l⟩:=S5 d;have m:=fun Y Z=>SV a.zk b.zk Y Z e
 have n:=fun Y Z=>SX 0 a.holds b.holds Y Z ⟨g,f,j,ze _⟩
 have o:=fun Y Z=>SZ 0 a.zE b.zE Y Z ⟨⟨i,l⟩,h,k,ze _⟩
 simp[Bk.V,m,n,o,zeF,Fm,Tryz.f6]
noncomputable def FBkk:zc→Option O:=qv (α:=Bk×Bk) (fun a=>[.agg a.1.V,.agg a.2.V]) (fun a=>a.1.cb≤zG∧a.2.cb≤zG) (fun a=>wq (kc a.1 a.2))
theorem aL(a b:Bk)(Y:Hp)(Z:Nat)(h:a.cb≤zG∧b.cb≤zG):zi false [] FBkk [.agg a.V,.agg b.V] Y Z=some (wq (kc a b),Y,Z):=
 qe (Y1:=Y) (show zA Y [.agg a.V,.agg b.V]=some ([.agg a.V,.agg b.V],Y) by simp only[zA,jW]) (zJ (V:=fun a:Bk×Bk=>[.agg a.1.V,.agg a.2.V]) (a:=(a,b)) (fun x y e=>by obtain⟨c,d⟩:=x;obtain⟨f,g⟩:=y;simp only[zh,zK,O.agg.injEq]at e;rw[vk e.1,vk e.2]) h) (.inl rfl)
theorem ph:zg prog 6 (zi false [] FBkk):=
 qq (fn:=Tryz.f6) zeE ⟨_,func6,by kernel_rfl,rfl,by kernel_rfl⟩ false [] _ fun args r h=>by obtain⟨⟨a,b⟩,rfl,c,rfl⟩:=zr h;exact⟨zC (ze 2) (by decide),_,rU a b c.1 c.2,qm _⟩
abbrev qacm:List Nat:=[6]
noncomputable abbrev Cacm:Ctx:=qb prog [(4,zi false [] RC),(5,zi false [] RC),(7,zi false [] RH),(8,zi false [] RH),(9,zi false [] (FB4 (fun b=>b.cb+100001≤zG) M8)),(10,zi false [] (FB4 (fun b=>b.cb+100001≤zG) M8)),(11,zi false [] (RR (fun b=>b.cb+1≤zG) M9)),(12,zi false [] (RR (fun b=>b.cb+1≤zG) M9)),(6,zi false [] FBkk)]
theorem zb1:AM.Good Cacm (fun g=>qacm.contains g):=zI mixed ⟨Ej,by simp,BE,by simp,Ht,by simp,Fc,by simp,AX,by simp,rQ,by simp,HH,by simp,Fb,by simp,ph,fun _=>zt _ _,trivial⟩
theorem Lg{b:Bk}{n:Nat}(h:b.cb≤n):(yD b).1.cb≤n:=by
 unfold yD;split
 ·exact h
 ·rw[xP];omega
theorem NU{b:Bk}{s:za}{n at_:Int}:(jG b s n at_).1.cb≤b.cb+100001:=by
 unfold jG;split
 case isFalse=>simp only[xP];omega
 rename_i a;split
 ·simp only[xP];omega
 ·rename_i x c;split
  ·simp only[xP];omega
  split
  case isFalse=>simp only[xP];omega
  have d:=(AW a c).1;have e:=og b (vd (b.zE.map Xp.name) s).1 at_ (wS (jq [] at_ x.zs) (wM (jq [] at_ x.zs)-n));have f:=tA (jq [] at_ x.zs) (wM (jq [] at_ x.zs)-n) d;exact Lg (by omega)
theorem zb2{b:Bk}{s:za}{at_:Int}:(QY b s at_).1.cb≤b.cb+1:=by
 unfold QY;split
 case isFalse=>simp only[xP];omega
 split
 ·simp only[xP];omega
 ·split
  ·simp only[xP];omega
  have a:=og b (vd (b.zE.map Xp.name) s).1 at_ [];exact Lg (by simpa using a)
theorem S6(b:Bk)(e:Xp)(s:za)(n at_:Int)(D:b.cb+e.cb≤1048576):zz Cacm Tryz.f3 [.agg b.V,.agg e.V,str s,int n,int at_]=some (wq true):=by
 refine zo rfl ?_;have k:=RA (b:=b) (e:=e) (n:=n) (at_:=at_);have l:=zaI (b:=b) (s:=s) (n:=n) (at_:=at_);have m:=NU (b:=b) (s:=s) (n:=n) (at_:=at_);have o:=zb2 (b:=b) (s:=s) (at_:=at_);have a:=fun Y Z=>MW b e n at_ Y Z (by unfold zG;omega)
 have c:=fun Y Z=>M0 b s n at_ Y Z (by unfold zG;omega)
 have d:=fun Y Z=>RS (fun b=>b.cb+100001≤zG) M8 b s n at_ Y Z (by unfold zG;omega)
 have j:=fun Y Z=>M7 (fun b=>b.cb+1≤zG) M9 b s at_ Y Z (by unfold zG;omega)
 obtain⟨⟨x,f⟩,p⟩:∃r,yp b e n at_=r:=⟨_,rfl⟩;obtain⟨⟨y,g⟩,q⟩:∃r,kF b s n at_=r:=⟨_,rfl⟩;obtain⟨⟨z,h⟩,t⟩:∃r,jG b s n at_=r:=⟨_,rfl⟩;obtain⟨⟨w,i⟩,u⟩:∃r,QY b s at_=r:=⟨_,rfl⟩;rw[p]at k;rw[q]at l;rw[t]at m;rw[u]at o;simp only at k l m o;simp only[p,yX,Bk.V,zZ]at a;simp only[q,yX,Bk.V]at c;simp only[M8,t,yX,Bk.V]at d;simp only[M9,u,yX,Bk.V]at j;have v:=fun Y Z=>aL x x Y Z ⟨by unfold zG;omega,by unfold zG;omega⟩
 have A:=fun Y Z=>aL y y Y Z ⟨by unfold zG;omega,by unfold zG;omega⟩
 have B:=fun Y Z=>aL z z Y Z ⟨by unfold zG;omega,by unfold zG;omega⟩
 have C:=fun Y Z=>aL w w Y Z ⟨by unfold zG;omega,by unfold zG;omega⟩
 simp only[Bk.V,QP]at v A B C;simp[Bk.V,zZ,a,c,d,j,v,A,B,C,wH,Tryz.f3]
theorem NV:Xk Cacm (fun g=>qacm.contains g) 3 Tryz.f3:=⟨_,func3,by kernel_rfl,rfl,by kernel_rfl⟩
end Go.Q
namespace Go.AM
open Go.RowKit Go.WideShapes Go.ChangeShapes
def jZ{H:Type}(P:Program):Nat→TypeId→DataW H→zc→Prop
 | 0,_,_,_=>False
 |n+1,t,d,a=>match P.underlying t with
  |some .bool=>∃b,d=.lit (.bool b)∧a=[.v (.bool b)]
  |some (.int k)=>∃i,d=.lit (.int k i)∧a=[.v (.int k i)]∧(Lit.int k i).wf=true
  |some .string=>∃s:ByteArray,d=.lit (.string s.data.toList)∧a=[.v (.string s)]∧s.size≤maxLen
  |some (.slice e)=>∃(es:List zc) (ds:List (DataW H)),((d=.nil∧ds=[])∨∃sp,d=.slice ds sp)∧a=[.sl (P.cellsOf e) es]∧es.length≤maxLen∧Zip (fun c y=>c.length=P.cellsOf e∧jZ P n e y c) es ds
  |some (.struct g)=>∃ds:List (DataW H),d=.agg ds∧a.length=P.cellsOf t∧ds.length=g.size∧∀(i:Nat) f y,g[i]?=some f→ds[i]?=some y→jZ P n f.type y ((a.drop f.offset).take (P.cellsOf f.type))
  |_=>False
section
variable{H:Type}{V:TypeId×Value→H}{P:Program}{w:World}{sp:Nat→Bool}{held:Bool}
theorem VL{T:List TypeId}(hT:lC P T=true):∀(J:Nat) (t:TypeId) (cs:List Value) (d:DataW H) (ps:List MemPlace),t∈T→DataW.trod V P w 0 sp held J t cs=some (d,ps) →
  ∃o,Zip (fun z u=>wT w (fun b=>b<w.heap.size) z u∧u.oneCell'=true) o cs∧cs.length=P.cellsOf t∧jZ P J t d o
 | 0,t,cs,d,ps,_,h=>by simp[DataW.trod]at h
 |n+1,t,cs,d,ps,ht,h=>by
  have r:=qW.1 hT t ht;have one:∀{z:O} {u:Value},wT w (fun b=>b<w.heap.size) z u→u.oneCell'=true→Zip (fun z u=>wT w (fun b=>b<w.heap.size) z u∧u.oneCell'=true) [z] [u]:=fun F h2=>.cons ⟨F,h2⟩ .nil
  split at r
  ·rename_i B;obtain⟨b,rfl,A⟩:=DataW.trod_bool B h;simp only[N3]at A;exact⟨[.v (.bool b)],one (.v rfl) rfl,by simpa using(by simpa using r:P.cellsOf t=1).symm,by unfold jZ;rw[B];exact⟨b,A.1,rfl⟩⟩
  ·rename_i k B;obtain⟨i,rfl,A,hwf⟩:=DataW.trod_int B h;simp only[N3]at A;exact⟨[.v (.int k i)],one (.v rfl) rfl,by simpa using(by simpa using r:P.cellsOf t=1).symm,by unfold jZ;rw[B];exact⟨i,A.1,rfl,hwf⟩⟩
  ·rename_i B;obtain⟨s,rfl,A,hs⟩:=DataW.trod_string B h;simp only[N3]at A;exact⟨[.v (.string s)],one (.v rfl) rfl,by simpa using(by simpa using r:P.cellsOf t=1).symm,by unfold jZ;rw[B];exact⟨s,A.1,rfl,hs⟩⟩
  ·rename_i e B;simp only[zF,eO,ql,List.contains_iff_mem]at r;obtain⟨⟨W,heT⟩,hce⟩:=r;rcases DataW.trod_slice B h with⟨rfl,A⟩|⟨a,len,cap,g,rest,m,hm,rfl,A,_,hlc,hcm,hel,X,_,_⟩
   ·simp only[N3]at A;refine⟨[.sl (P.cellsOf e) []],one ?_ rfl,by simp[W],by unfold jZ;rw[B];exact⟨[],[],.inl ⟨A.1,rfl⟩,rfl,by simp,.nil⟩⟩;exact wT.sl (es:=[]) (s:=P.cellsOf e) (fun _ _=>undef) (by simp) (by simp) (by simp[maxLen]) (by simp) (by simp) (by simp)
   ·obtain rfl:m=n:=by omega
    simp only[N3]at A;have hel':∀i (l:i<len),∃C,w.cells? 0 (a.add (i*P.cellsOf e)) (P.cellsOf e)=some C∧DataW.trod V P w 0 sp held m e C=some (g[i]'(by omega)):=by
     intro i l;have F:=X i l;have h2:g[i]?=some (g[i]'(by omega)):=zu (by omega);rw[h2]at F;cases hc:w.cells? 0 (a.add (i*P.cellsOf e)) (P.cellsOf e)with
     |none=>simp[hc]at F
     |some C=>exact⟨C,rfl,by simpa[hc]using F⟩
    have hch:∀i,∃q:List Value×zc,∀l:i<len,w.cells? 0 (a.add (i*P.cellsOf e)) (P.cellsOf e)=some q.1∧Zip (fun z u=>wT w (fun b=>b<w.heap.size) z u∧u.oneCell'=true) q.2 q.1∧q.1.length=P.cellsOf e∧jZ P m e (g[i]'(by omega)).1 q.2:=by
     intro i;by_cases l:i<len
     ·obtain⟨C,g1,g3⟩:=hel' i l;obtain⟨o,q1,q2,q3⟩:=VL hT m e C (g[i]'(by omega)).1 (g[i]'(by omega)).2 heT (by rw[g3]);exact⟨(C,o),fun _=>⟨g1,q1,q2,q3⟩⟩
     ·exact⟨([],[]),fun h=>absurd h l⟩
    let q:Nat→List Value×zc:=fun i=>Classical.choose (hch i)
    have hq:∀i (l:i<len),w.cells? 0 (a.add (i*P.cellsOf e)) (P.cellsOf e)=some (q i).1∧Zip (fun z u=>wT w (fun b=>b<w.heap.size) z u∧u.oneCell'=true) (q i).2 (q i).1∧(q i).1.length=P.cellsOf e∧jZ P m e (g[i]'(by omega)).1 (q i).2:=fun i=>jN (hch i)
    have E:((List.range len).map fun i=>(q i).2).length=len:=by simp
    have K:∀(i:Nat) (c:zc),((List.range len).map fun i=>(q i).2)[i]?=some c→i<len∧c=(q i).2:=by
     intro i c l;have p:i<len:=by have:=(zq.1 l).1;simpa using this
     rw[wy,V9 p]at l;simp at l;exact⟨p,l.symm⟩
    have key:wT w (fun b=>b<w.heap.size) (.sl (P.cellsOf e) ((List.range len).map fun i=>(q i).2)) (.slice (some a) ((List.range len).map fun i=>(q i).2).length cap):=by
     refine .sl (fun i j=>((q i).1[j]?).getD undef) (by simp) (by rw[E];exact hlc) hcm (fun c hc=>?_) (fun i j c z l L=>?_) (fun i j c z l L=>?_)
     ·obtain⟨i,l,rfl⟩:=qX.1 hc;have F:=hq i (ZV.1 l);rw[F.2.1.1,F.2.2.1]
     ·obtain⟨p,rfl⟩:=K i c l;obtain⟨g1,M,g3,_⟩:=hq i p;have N:j<(q i).1.length:=by rw[←M.1];exact(zq.1 L).1
      have D:(q i).1[j]?=some ((q i).1[j]):=zu N;obtain⟨_,g5,g6⟩:=World.cells?_some g1;have x:=g6 j (by omega);rw[cR]at x;rw[D]at x;refine⟨a,rfl,?_,?_,?_⟩
      ·have:=block_lt_of_cell x;rwa [Q1]at this
      ·rw[x,D];rfl
      ·rw[D];exact(M.2 j z _ L D).2
     ·obtain⟨p,rfl⟩:=K i c l;obtain⟨g1,M,g3,_⟩:=hq i p;have N:j<(q i).1.length:=by rw[←M.1];exact(zq.1 L).1
      have D:(q i).1[j]?=some ((q i).1[j]):=zu N;rw[D];exact(M.2 j z _ L D).1
    rw[E]at key;refine⟨[.sl (P.cellsOf e) ((List.range len).map fun i=>(q i).2)],one key rfl,by simp[W],?_⟩;unfold jZ;rw[B];refine⟨_,g.map (·.1),.inr ⟨_,A.1⟩,rfl,by rw[E];omega,by rw[E,qO,hel],fun i c y l G=>?_⟩;obtain⟨p,rfl⟩:=K i c l;have F:=hq i p;rw[wy,zu (by omega)]at G;simp only[zH,qw]at G;subst G;exact⟨by rw[F.2.1.1,F.2.2.1],F.2.2.2⟩
  ·rename_i fs B;simp only[zF,eO,qW,List.contains_iff_mem]at r;obtain⟨S,hfT⟩:=r;obtain⟨xs,m,hm,A,hcl,Tv,hf⟩:=DataW.trod_struct B h;obtain rfl:m=n:=by omega
   simp only[N3]at A;obtain⟨o,g1,M,g3⟩:=su (P:=P) (R:=fun z u=>wT w (fun b=>b<w.heap.size) z u∧u.oneCell'=true) (Q:=fun f o=>∀(i:Nat) y,fs[i]?=some f→(xs.map (·.1))[i]?=some y→jZ P m f.type y o) fs.toList 0 (P.cellsOf t) cs S hcl (fun f I=>by
    obtain⟨i,l⟩:=pq I;have U:=hf i f (by simpa using l);have p:i<xs.length:=by rw[Tv];have:=(zq.1 l).1;simpa using this
    rw[zu p]at U;obtain⟨o,q1,_,q3⟩:=VL hT m f.type _ (xs[i]).1 (xs[i]).2 (hfT f I) U;refine⟨o,q1,fun k y hk G=>?_⟩;have hfk:=hf k f hk;rw[U]at hfk;rw[wy,←hfk]at G;simp only[zH,qw]at G;subst G;exact q3)
   refine⟨o,⟨by omega,fun j z u L hu'=>M j z u L (by simpa using hu')⟩,hcl,?_⟩;unfold jZ;rw[B];refine⟨xs.map (·.1),A.1,by omega,by rw[qO,Tv],fun i f y l G=>?_⟩;have I:f∈fs.toList:=by
    have:fs.toList[i]?=some f:=by simpa using l
    exact zO this
   have:=(g3 f I).2 i y l G;simpa using this
  ·cases r
theorem pj{T:List TypeId}(f:lC P T=true){t:TypeId}{v:Value}{d:DataW H}{ps:List MemPlace}{r:Reach}{base:Nat}{g:Array Field}(i:t∈T)(k:P.underlying t=some (.struct g))(l:Value.okWide P w r base t v)(h:DataW.Trod V P w 0 sp held t v d ps) :
  ∃(n:Nat) (a:zc),jZ P n t d a∧wT w (fun b=>b<w.heap.size) (.agg a) v:=by
 obtain⟨n,m⟩:=h;obtain⟨a,e,x,o⟩:=VL f n t v.cells.toList d ps i m;obtain⟨cs,rfl,p⟩:=okWide_struct k l;exact⟨n,a,o,.agg (by have:=e.1;simpa[Value.cells]using this) (fun j q u s c=>(e.2 j q u s (by simpa[Value.cells]using c)).1)⟩
theorem pk{T:List TypeId}(x:lC P T=true){t:TypeId}{v:Value}{d:DataW H}{ps:List MemPlace}{r:Reach}{base:Nat}(y:t∈T)(z:¬∃f,P.underlying t=some (.struct f))(i:Value.okWide P w r base t v)(h:DataW.Trod V P w 0 sp held t v d ps) :
  ∃(n:Nat) (p:O),jZ P n t d [p]∧wT w (fun b=>b<w.heap.size) p v:=by
 obtain⟨n,A⟩:=h;obtain⟨j,e,k,g⟩:=VL x n t v.cells.toList d ps y A;have c:=qW.1 x t y;have m:P.cellsOf t=1:=by
  split at c
  ·simpa using c
  ·simpa using c
  ·simpa using c
  ·simp only[zF,eO]at c;exact c.1.1
  ·rename_i f a;exact absurd ⟨f,a⟩ z
  ·cases c
 rw[m]at k
 match j,e,g with
 |[],e,g=>have:=e.1;rw[k]at this;simp at this
 |p::q::l,e,g=>have:=e.1;rw[k]at this;simp at this
 |[p],e,g=>
  obtain⟨u,o,B,C⟩:=Qv e;have s:v=u:=by
   cases v with
   |agg cs=>
    exfalso;split at c
    ·rename_i a;simp[Value.okWide,a,Cell.okWide,Cell.ok]at i
    ·rename_i a;simp[Value.okWide,a,Cell.okWide,Cell.ok]at i
    ·rename_i a;simp[Value.okWide,a,Cell.okWide,Cell.ok]at i
    ·rename_i a;simp[Value.okWide,a,Cell.okWide,Cell.ok]at i
    ·rename_i f a;exact z ⟨f,a⟩
    ·cases c
   |_=>simpa[Value.cells]using o
  subst s;exact⟨n,p,g,B⟩
end
end Go.AM
namespace Go.AM
def QQ(P:Program)(t:TypeId):Option (List (TypeId×Nat×Nat)):=match P.underlying t with
 |some (.struct a)=>some (a.toList.map fun f=>(f.type,f.offset,P.cellsOf f.type))
 |_=>none
def aM{H:Type}(P:Program)(n:Nat)(pvs:zc):List (TypeId×Nat×Nat)→List (DataW H)→Prop
 |[],[]=>True
 |(t,o,c)::l,y::ds=>jZ P n t y ((pvs.drop o).take c)∧aM P n pvs l ds
 |_,_=>False
section
variable{H:Type}{P:Program}{n:Nat}{t:TypeId}{d:DataW H}{pvs:zc}
theorem pn(n:Nat)(pvs:zc):∀(a:List Field) (ds:List (DataW H)),ds.length=a.length→(∀(i:Nat) f y,a[i]?=some f→ds[i]?=some y→jZ P n f.type y ((pvs.drop f.offset).take (P.cellsOf f.type)))→aM P n pvs (a.map fun f=>(f.type,f.offset,P.cellsOf f.type)) ds
 |[],[],_,_=>trivial
 |f::a,y::ds,b,h=>⟨h 0 f y rfl rfl,pn n pvs a ds (by simpa using b) fun i f' c d e=>h (i+1) f' c (by simpa using d) (by simpa using e)⟩
theorem VM{l:List (TypeId×Nat×Nat)}(hs:QQ P t=some l):∃a,P.underlying t=some (.struct a)∧l=a.toList.map fun f=>(f.type,f.offset,P.cellsOf f.type):=by
 unfold QQ at hs;split at hs
 ·rename_i a b;injection hs with hs
  exact⟨a,b,hs.symm⟩
 ·cases hs
theorem ko{l:List (TypeId×Nat×Nat)}(hs:QQ P t=some l)(h:jZ P n t d pvs):∃(m:Nat) (ds:List (DataW H)),n=m+1∧d=.agg ds∧pvs.length=P.cellsOf t∧aM P m pvs l ds:=by
 obtain⟨a,b,rfl⟩:=VM hs;cases n with
 |zero=>exact h.elim
 |succ m=>unfold jZ at h;rw[b]at h;obtain⟨ds,c,e,g,j⟩:=h;exact⟨m,ds,rfl,c,e,pn m pvs a.toList ds (by simpa using g) fun i f y k o=>j i f y (by simpa using k) o⟩
theorem qD{o c:Nat}{l:List (TypeId×Nat×Nat)}{ds:List (DataW H)}(h:aM P n pvs ((t,o,c)::l) ds):∃y a,ds=y::a∧jZ P n t y ((pvs.drop o).take c)∧aM P n pvs l a:=by
 cases ds with
 |nil=>exact h.elim
 |cons y a=>exact⟨y,a,rfl,h.1,h.2⟩
theorem kX{ds:List (DataW H)}(h:aM P n pvs [] ds):ds=[]:=by
 cases ds with
 |nil=>rfl
 |cons y a=>exact h.elim
theorem kC{k:IntKind}(a:P.underlying t=some (.int k))(h:jZ P n t d pvs):∃i,d=.lit (.int k i)∧pvs=[.v (.int k i)]∧(Lit.int k i).wf=true:=by
 cases n with
 |zero=>exact h.elim
 |succ m=>unfold jZ at h;rw[a]at h;exact h
theorem yW(a:P.underlying t=some .string)(h:jZ P n t d pvs):∃l:za,d=.lit (.string l)∧pvs=[str l]∧l.length≤maxLen:=by
 cases n with
 |zero=>exact h.elim
 |succ m=>unfold jZ at h;rw[a]at h;obtain⟨s,b,c,e⟩:=h;exact⟨s.data.toList,b,by rw[c],e⟩
theorem ky{e:TypeId}(a:P.underlying t=some (.slice e))(h:jZ P n t d pvs):∃(m:Nat) (es:List zc) (ds:List (DataW H)),n=m+1∧((d=.nil∧ds=[])∨∃b,d=.slice ds b)∧pvs=[.sl (P.cellsOf e) es]∧es.length≤maxLen∧Zip (fun c y=>c.length=P.cellsOf e∧jZ P m e y c) es ds:=by
 cases n with
 |zero=>exact h.elim
 |succ m=>unfold jZ at h;rw[a]at h;obtain⟨es,ds,f,g,i,j⟩:=h;exact⟨m,es,ds,rfl,f,g,i,j⟩
theorem kI{α:Type}{V:α→zc}{w:α→Nat}{b:DataW H→Nat}{R:zc→DataW H→Prop}(d:∀c y,R c y→∃a,c=V a∧w a≤b y):∀{es:List zc} {ds:List (DataW H)},Zip R es ds→∃l:List α,es=l.map V∧(l.map w).sum≤(ds.map b).sum
 |[],[],_=>⟨[],rfl,by simp⟩
 |[],_::_,h=>by have:=h.1;simp at this
 |_::_,[],h=>by have:=h.1;simp at this
 |c::es,y::ds,h=>by obtain⟨a,rfl,k⟩:=d c y (h.2 0 c y rfl rfl);obtain⟨l,rfl,m⟩:=kI d (es:=es) (ds:=ds) ⟨by have:=h.1;simpa using this,fun i e f g j=>h.2 (i+1) e f (by simpa using g) (by simpa using j)⟩;exact⟨a::l,rfl,by simp;omega⟩
end
end Go.AM
