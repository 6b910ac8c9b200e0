/- Lemmas. -/
import Derived.Shelf.SlSortCmp.InsertionK
import Derived.Sort.AssemblyPlain
import Derived.Test.YtmbfinldjgmhaaaGreatDoorG6
set_option maxRecDepth 100000
set_option maxHeartbeats 4000000
open Go Proofs Proofs.YtmbfinldjgmhaaaGreatDoor Proofs.Tryz RowKit AM SpanLaw Q Zz
namespace Go.Q
def Kz:List Int->Int
 |[]=>0
 |n::l=>if n=0 then Kz l else n
def bq(l:List Int):List zb:=l.map fun n=>[int n]
@[simp]theorem zaA(l:List Int):(bq l).length=l.length:=by simp[bq]
@[simp]theorem zgt{l:List Int}{k:Nat}(h:k<(bq l).length):(bq l)[k]=[int (l[k]'(by simpa using h))]:=by simp[bq]
theorem NS{a b:List Int}(h:bq a=bq b):a=b:=vw (fun x y e=>by simp only[zl,zM]at e;exact qS e) h
noncomputable def MI:zb->Option O:=qu (α:=List Int) (fun l=>[.sl 1 (bq l)]) (fun l=>l.length<=zx) (fun l=>int (Kz l))
theorem SO(l:List Int)(i:l.length<=zx):zt C0 f168 [.sl 1 (bq l)]=some (int (Kz l)):=by
 refine zn rfl ?_;unfold zx at i;simp;refine zT (fun k U Y Z=>U 3=int 0/\U 6=.sl 1 (bq l)/\U 7=int l.length/\U 8=int k/\Kz l=Kz (l.drop k)) l.length ⟨by simp,by simp,by simp,by simp,by simp⟩ ?_;rintro k U Y Z m ⟨d,e,f,g,b⟩;by_cases a:k<l.length
 ·have j:=qH k;rw[zh a]at b;simp only[Kz]at b;by_cases c:l[k]=0
  ·rw[zf c]at b;simp[d,e,f,g,a,c,j];exact⟨a,b⟩
  ·rw[zc c]at b;have h:=ZX c;simp[d,e,f,g,a,h,b,f168]
 ·obtain rfl:k=l.length:=by omega
  rw[zq]at b;simp[d,e,f,g,b,Kz,f168]
theorem VU:zg prog 168 (zi false [] MI):=
 Z2 jY func168 false [] fun l Y=>⟨by simp[f168],_,SO l Y,qq _⟩
theorem cJ(l:List Int)(Y:Hp)(Z id:Nat)(e:Nat)(h:l.length<=zx)(c:Y id=some ⟨e,1,true,bq l⟩):zi false [] MI [.own id 0 l.length] Y Z=some (int (Kz l),Y,Z):=by have d:(bq l).take l.length=bq l:=qe (by simp);refine yk (show zw Y [.own id 0 l.length]=some ([.sl 1 (bq l)],qt Y id none) by simp[c,d]) ?_ (.inl rfl);exact qG (V:=fun l:List Int=>[O.sl 1 (bq l)]) (a:=l) (fun a b e=>by simp only[zl,zM]at e;injection e with _ e;exact NS e) h
def xE(l:za):Bool:=!l.isEmpty&&kO l
noncomputable def wO (a b:za):Int:=if xE a=true then(if xE b=true then Kz [wA (Lib.trimLeftB a 48).length (Lib.trimLeftB b 48).length,yB (Lib.trimLeftB a 48) (Lib.trimLeftB b 48)]else -1)else if xE b=true then 1 else yB a b
noncomputable abbrev Ccp:Ctx:=zW prog [(213,zi false [] (FS kO)),(225,zi false [] (Qg tlP fun _ b=>lT b)),(37,zi false [] (NQ wA)),(56,zi false [] (IP yB)),(168,zi false [] MI)]
theorem zbJ:AM.Good Ccp (fun g=>[213].contains g):=qx mixed ⟨WM,fun _=>zr _ _,Yz,by simp,ZS,by simp,vK,by simp,VU,by simp,trivial⟩
@[simp]theorem zgu:kN Ccp 213:=jd (by rfl) (zr _ _)
theorem iB(a:za)(Y:Hp)(Z:Nat)(h:a.length<=zx):zi false [] (Qg tlP fun _ b=>lT b) [str a,str [48]] Y Z=some (str (Lib.trimLeftB a 48),Y,Z):=ko _ _ a [48] Y Z h (by decide) ⟨48,rfl,by decide⟩ rfl
theorem gR(a b:za)(i:a.length<=zx)(j:b.length<=zx):zt Ccp f247 [str a,str b]=some (int (wO a b)):=by
 refine zn rfl ?_;have c:=fun Y Z=>kA kO a Y Z i
 have d:=fun Y Z=>kA kO b Y Z j
 have k:=fun Y Z=>iB a Y Z i
 have tb:=fun Y Z=>iB b Y Z j
 have e:(!a.isEmpty&&kO a)=xE a:=rfl;have f:(!b.isEmpty&&kO b)=xE b:=rfl;cases g:xE a<;>cases h:xE b
 ·simp[c,d,e,f,g,h,wO,f247]
 ·simp[c,d,e,f,g,h,wO,f247]
 ·simp[c,d,e,f,g,h,wO,f247]
 ·have l:∀(Y:Hp) (Z id:Nat),Y id=some ⟨3,1,true,[[int (wA (Lib.trimLeftB a 48).length (Lib.trimLeftB b 48).length)],[int (yB (Lib.trimLeftB a 48) (Lib.trimLeftB b 48))]]⟩->zi false [] MI [.own id 0 2] Y Z=some (int (Kz [wA (Lib.trimLeftB a 48).length (Lib.trimLeftB b 48).length,yB (Lib.trimLeftB a 48) (Lib.trimLeftB b 48)]),Y,Z):=fun Y Z id m=>cJ [_,_] Y Z id _ (by show 2<=zx;decide) m
  simp[c,d,k,tb,e,f,g,h,l,zp,zy,zo,wO,f247]
theorem ee:zg prog 247 (zi false [] (Qg (fun a b=>int (wO a b)) fun _ _=>True)):=
 yj (fn:=f247) zbJ (qE func247) false [] _ fun args r h=>by obtain⟨a,b,rfl,c,d,_,rfl⟩:=kB h;exact⟨by simp[f247],_,gR a b c d,qq _⟩
theorem rK(a b:za)(Y:Hp)(Z:Nat)(h:a.length<=zx)(c:b.length<=zx):zi false [] (Qg (fun a b=>int (wO a b)) fun _ _=>True) [str a,str b] Y Z=some (int (wO a b),Y,Z):=ko _ _ a b Y Z h c trivial rfl
def w7{α:Type}(c:α->α->Int):List α->List α->Int
 |[],[]=>0
 |[],_::_=>-1
 |_::_,[]=>1
 |x::a,y::b=>if c x y=0 then w7 c a b else c x y
noncomputable abbrev Ccf:Ctx:=zW prog [(247,zi false [] (Qg (fun a b=>int (wO a b)) fun _ _=>True))]
theorem zbK:Gd Ccf:=qc mixed ⟨ee,trivial⟩
def vi(l:List za):Prop:=l.length<=zx/\∀p∈l,p.length<=zx
theorem cK(a b:List za)(o:vi a)(p:vi b):zt Ccf f246 [.sl 1 (zH a),.sl 1 (zH b),.fn (.func 247) [] []]=some (int (w7 wO a b)):=by
 refine zn rfl ?_;obtain⟨o,q⟩:=o;obtain⟨p,r⟩:=p;unfold zx at o p;simp;refine zT (fun k U Y Z=>U 0=.sl 1 (zH a)/\U 1=.sl 1 (zH b)/\U 2=.fn (.func 247) [] []/\U 11=.sl 1 (zH a)/\U 12=int a.length/\U 13=int k/\k<=b.length/\w7 wO a b=w7 wO (a.drop k) (b.drop k)) a.length
  ⟨by simp,by simp,by simp,by simp,by simp,by simp,by simp,by simp⟩ ?_
 rintro k U Y Z y ⟨j,l,m,f,g,h,v,c⟩;by_cases d:k<a.length
 ·have w:=qH k;by_cases e:k<b.length
  ·have i:¬b.length<=k:=by omega
   have u:=fun Y Z=>rK a[k] b[k] Y Z (q _ (zk d)) (r _ (zk e))
   rw[zh d,zh e]at c;simp only[w7]at c;by_cases n:wO a[k] b[k]=0
   ·rw[zf n]at c;simp[j,l,m,f,g,h,d,e,i,u,n,w];exact⟨d,by omega,c⟩
   ·rw[zc n]at c;have s:=ZX n;simp[j,l,m,f,g,h,d,e,i,u,s,c,f246]
  ·obtain rfl:k=b.length:=by omega
   rw[zh d,zq]at c;simp only[w7]at c;simp[j,l,m,f,g,h,d,c,f246]
 ·obtain rfl:k=a.length:=by omega
  rw[zq]at c;by_cases t:a.length<b.length
  ·rw[zh t]at c;simp only[w7]at c;simp[j,l,m,f,g,h,t,c,f246]
  ·rw[kW (by omega)]at c;simp only[w7]at c;have x:¬((a.length:Int)<b.length):=by omega
   simp[j,l,m,f,g,h,t,c,f246]
noncomputable def FCf:zb->Option O:=qu (α:=List za×List za) (fun a=>[.sl 1 (zH a.1),.sl 1 (zH a.2),.fn (.func 247) [] []]) (fun a=>vi a.1/\vi a.2) (fun a=>int (w7 wO a.1 a.2))
theorem zbL:∀a b:List za×List za,[O.sl 1 (zH a.1),.sl 1 (zH a.2),.fn (.func 247) [] []]=[.sl 1 (zH b.1),.sl 1 (zH b.2),.fn (.func 247) [] []]->a=b:=by rintro⟨f,g⟩ ⟨h,i⟩ e;simp only[zl,zM]at e;obtain⟨c,d⟩:=e;injection c with _ c;injection d with _ d;rw[jI c,jI d]
theorem br:zg prog 246 (zi false [] FCf):=
 Z2 zbK func246 false [] fun⟨a,b⟩ ⟨c,d⟩=>⟨by simp[f246],_,cK a b c d,qq _⟩
theorem SP(a b:List za)(Y:Hp)(Z:Nat)(c:vi a)(d:vi b):zi false [] FCf [.sl 1 (zH a),.sl 1 (zH b),.fn (.func 247) [] []] Y Z=some (int (w7 wO a b),Y,Z):=
 yk (Y1:=Y) (by simp) (qG (V:=fun a:List za×List za=>[O.sl 1 (zH a.1),.sl 1 (zH a.2),.fn (.func 247) [] []]) (a:=(a,b)) zbL ⟨c,d⟩) (.inl rfl)
noncomputable def Zy (v w:wN):Int:=if Kz [wA v.a w.a,wA v.b w.b,wA v.c w.c]=0 then(if v.pre.length=0 then(if w.pre.length=0 then 0 else 1)else if w.pre.length=0 then -1 else w7 wO v.pre w.pre)else Kz [wA v.a w.a,wA v.b w.b,wA v.c w.c]
noncomputable abbrev Ccv:Ctx:=zW prog [(37,zi false [] (NQ wA)),(168,zi false [] MI),(246,zi false [] FCf)]
theorem zbM:AM.Good Ccv (fun g=>[37,168].contains g):=qx mixed ⟨ZS,fun _=>zr _ _,VU,fun _=>zr _ _,br,by simp,trivial⟩
theorem VV(v w:wN)(t:v.small)(u:w.small):zt Ccv f216 [.agg v.V,.agg w.V]=some (int (Zy v w)):=by
 obtain⟨a,b,c,p⟩:=v;obtain⟨k,l,m,e⟩:=w;refine zn rfl ?_;have n:=fun Y Z=>SP p e Y Z t u
 obtain⟨o,s⟩:=jj (Kz [wA a k,wA b l,wA c m]);have d:∀(Y:Hp) (Z id:Nat),Y id=some ⟨3,1,true,[[int (wA a k)],[int (wA b l)],[int (wA c m)]]⟩->zi false [] MI [.own id 0 3] Y Z=some (int o,Y,Z):=fun Y Z id x=>s ▸ cJ [_,_,_] Y Z id _ (by show 3<=zx;decide) x
 have j:Zy ⟨a,b,c,p⟩ ⟨k,l,m,e⟩=if o=0 then(if p.length=0 then(if e.length=0 then 0 else 1)else if e.length=0 then -1 else w7 wO p e)else o:=by rw[<-s];rfl
 rw[j];by_cases q:o=0
 ·subst q;by_cases h:p.length=0<;>by_cases i:e.length=0
  ·simp[wN.V,d,zp,zy,zo,h,i,f216]
  ·have f:((e.length:Int)==0)=false:=by simpa using i
   simp[wN.V,d,zp,zy,zo,h,i,f,f216]
  ·have g:((p.length:Int)==0)=false:=by simpa using h
   simp[wN.V,d,zp,zy,zo,h,i,g,f216]
  ·have g:((p.length:Int)==0)=false:=by simpa using h
   have f:((e.length:Int)==0)=false:=by simpa using i
   simp[wN.V,d,zp,zy,zo,h,i,g,f,n,f216]
 ·have r:=ZX q;simp[wN.V,d,zp,zy,zo,q,r,f216]
noncomputable def NT (f:wN->wN->O):zb->Option O:=qu (α:=wN×wN) (fun a=>[.agg a.1.V,.agg a.2.V]) (fun a=>a.1.small/\a.2.small) (fun a=>f a.1 a.2)
theorem zbN:∀a b:wN×wN,[O.agg a.1.V,.agg a.2.V]=[.agg b.1.V,.agg b.2.V]->a=b:=by rintro⟨f,g⟩ ⟨h,i⟩ e;simp only[zl,zM]at e;obtain⟨c,d⟩:=e;injection c with c;injection d with d;rw[Wo c,Wo d]
theorem Vo:zg prog 216 (qA [.g kp,.g kp] (NT fun v w=>int (Zy v w))):=
 wT (fn:=f216) zbM (qE func216) _ _ fun args r h=>by obtain⟨⟨v,w⟩,rfl,⟨a,b⟩,rfl⟩:=zK h;exact⟨by simp[f216],_,VV v w a b,qg.refl _⟩
theorem tT(v w:wN)(Y:Hp)(Z:Nat)(b:v.small)(c:w.small):qA [.g kp,.g kp] (NT fun v w=>int (Zy v w)) [.agg v.V,.agg w.V] Y Z=some (int (Zy v w),Y,Z):=
 vH (show zw Y [.agg v.V,.agg w.V]=some ([.agg v.V,.agg w.V],Y) by simp[wN.V]) (qG (V:=fun a:wN×wN=>[O.agg a.1.V,.agg a.2.V]) (a:=(v,w)) zbN ⟨b,c⟩) (.inl rfl)
structure Cut where
 v:wN
 after:Bool
def Cut.V(c:Cut):zb:=[int c.v.a,int c.v.b,int c.v.c,.sl 1 (zH c.v.pre),q8 c.after]
abbrev jz:List (Option Nat):=[none,none,none,some 1,none]
theorem Zl{a b:Cut}(h:a.V=b.V):a=b:=by obtain⟨⟨i,j,k,l⟩,m⟩:=a;obtain⟨⟨n,o,p,q⟩,r⟩:=b;simp only[Cut.V,zl,zM]at h;obtain⟨d,e,f,c,g⟩:=h;injection c with _ c;rw[qS d,qS e,qS f,jI c,Ym g]
noncomputable def wv (a b:Cut):Int:=if Zy a.v b.v=0 then(if a.after=b.after then 0 else if b.after=true then -1 else 1)else Zy a.v b.v
noncomputable def AP (f:Cut->Cut->O):zb->Option O:=qu (α:=Cut×Cut) (fun a=>[.agg a.1.V,.agg a.2.V]) (fun a=>a.1.v.small/\a.2.v.small) (fun a=>f a.1 a.2)
theorem NU:∀a b:Cut×Cut,[O.agg a.1.V,.agg a.2.V]=[.agg b.1.V,.agg b.2.V]->a=b:=by rintro⟨f,g⟩ ⟨h,i⟩ e;simp only[zl,zM]at e;obtain⟨c,d⟩:=e;injection c with c;injection d with d;rw[Zl c,Zl d]
noncomputable abbrev Ccu:Ctx:=zW prog [(216,qA [.g kp,.g kp] (NT fun v w=>int (Zy v w)))]
theorem NV:Gd Ccu:=qc mixed ⟨Vo,trivial⟩
theorem ef(x y:Cut)(l:x.v.small)(m:y.v.small):zt Ccu f181 [.agg x.V,.agg y.V]=some (int (wv x y)):=by
 obtain⟨⟨a,b,c,p⟩,f⟩:=x;obtain⟨⟨h,i,j,k⟩,f'⟩:=y;refine zn rfl ?_;have d:=fun Y Z=>tT ⟨a,b,c,p⟩ ⟨h,i,j,k⟩ Y Z l m
 simp only[wN.V]at d;by_cases e:Zy ⟨a,b,c,p⟩ ⟨h,i,j,k⟩=0
 ·cases f<;>cases f'<;>simp[Cut.V,d,e,wv,f181]
 ·have g:=ZX e;simp[Cut.V,d,e,g,wv,f181]
theorem xF:zg prog 181 (qA [.g jz,.g jz] (AP fun v w=>int (wv v w))):=
 wT (fn:=f181) NV (qE func181) _ _ fun args r h=>by obtain⟨⟨v,w⟩,rfl,⟨a,b⟩,rfl⟩:=zK h;exact⟨by simp[f181],_,ef v w a b,qg.refl _⟩
theorem tU(x y:Cut)(u v:O)(Y:Hp)(Z:Nat)(b:(Sh.g jz).fix u=.agg x.V)(c:(Sh.g jz).fix v=.agg y.V)(d:zw Y [u,v]=some ([u,v],Y))(e:x.v.small)(f:y.v.small):qA [.g jz,.g jz] (AP fun v w=>int (wv v w)) [u,v] Y Z=some (int (wv x y),Y,Z):=
 vH d (by show AP _ [(Sh.g jz).fix u,(Sh.g jz).fix v]=_;rw[b,c];exact qG (V:=fun a:Cut×Cut=>[O.agg a.1.V,.agg a.2.V]) (a:=(x,y)) NU ⟨e,f⟩) (.inl rfl)
mutual
noncomputable def qQ:zZ->zZ->Int
 | .mk k n s a b,w=>if k=w.kind then(if k=1\/k=2 then wA n w.n else if k=3 then yB s w.s else if k=4 then iT a w.items else if k=5 then iU b w.fields else 0)else wA k w.kind
noncomputable def iT:List zZ->List zZ->Int
 |[],[]=>0
 |[],_::_=>-1
 |_::_,[]=>1
 |a::xs,b::ys=>if qQ a b=0 then iT xs ys else qQ a b
noncomputable def iU:List (za×zZ)->List (za×zZ)->Int
 |[],[]=>0
 |[],_::_=>-1
 |_::_,[]=>1
 |(x,a)::xs,g::ys=>if Kz [yB x g.1,qQ a g.2]=0 then iU xs ys else Kz [yB x g.1,qQ a g.2]
end
noncomputable def jN (f g:za×zZ):Int:=Kz [yB f.1 g.1,qQ f.2 g.2]
theorem mi:∀a b:List zZ,iT a b=w7 qQ a b
 |[],[]=>rfl
 |[],_::_=>rfl
 |_::_,[]=>rfl
 |a::xs,b::ys=>by simp only[iT,w7,mi xs ys]
theorem mj:∀a b:List (za×zZ),iU a b=w7 jN a b
 |[],[]=>rfl
 |[],_::_=>rfl
 |_::_,[]=>rfl
 |(x,a)::xs,g::ys=>by simp only[iU,w7,mj xs ys,jN];rfl
theorem JT(a b:zZ):qQ a b=if a.kind=b.kind then(if a.kind=1\/a.kind=2 then wA a.n b.n else if a.kind=3 then yB a.s b.s else if a.kind=4 then w7 qQ a.items b.items else if a.kind=5 then w7 jN a.fields b.fields else 0)else wA a.kind b.kind:=by
 cases a with
 |mk k n s e f=>
  cases b with
  |mk g h i c d=>simp only[qQ,mi,mj,zZ.kind,zZ.n,zZ.s,zZ.items,zZ.fields];rfl
noncomputable def R0 (n:Nat):zb->Option O:=qu (α:=zZ×zZ) (fun a=>[.agg a.1.V,.agg a.2.V]) (fun a=>a.1.vb<=zx/\a.1.vb<=n/\a.2.vb<=zx) (fun a=>int (qQ a.1 a.2))
theorem YC(n:Nat)(a b:zZ)(Y:Hp)(Z:Nat)(h:a.vb<=zx/\a.vb<=n/\b.vb<=zx):zi false [] (R0 n) [.agg a.V,.agg b.V] Y Z=some (int (qQ a b),Y,Z):=
 yk (Y1:=Y) (show zw Y [.agg a.V,.agg b.V]=some ([.agg a.V,.agg b.V],Y) by simp only[zw,ZR])
  (qG (V:=fun a:zZ×zZ=>[.agg a.1.V,.agg a.2.V]) (a:=(a,b)) (fun x y e=>by obtain⟨c,d⟩:=x;obtain⟨f,g⟩:=y;simp only[zl,zM,O.agg.injEq]at e;rw[Qs e.1,Qs e.2]) h) (.inl rfl)
theorem Yn{f:FuncId}{F:zb->Option O}(b:∃fn,prog.funcs[f]?=some fn/\(fn.name== "runtime.NumGoroutine")=false/\fn.body.isNone=false)(h:∀args r,F args=some r->False):zg prog f (zi false [] F):=by
 refine⟨b,fun args Y Z r Y' c a=>?_⟩;unfold zi at a;split at a
 ·split at a
  ·rename_i d hF;exact(h _ _ hF).elim
  ·cases a
 ·cases a
theorem ei{a b:za×zZ}(h:ya a=ya b):a=b:=by obtain⟨c,d⟩:=a;obtain⟨e,f⟩:=b;simp only[ya,zl]at h;rw[wR h.1,Qs h.2]
theorem rL{a b:List (za×zZ)}(h:a.map ya=b.map ya):a=b:=vw (fun _ _=>ei) h
theorem ej{a b:List zZ}(h:a.map zZ.V=b.map zZ.V):a=b:=vw (fun _ _=>Qs) h
noncomputable abbrev Ccfv (n:Nat):Ctx:=zW prog [(105,zi false []<|R0 n)]
theorem cL(n:Nat)(a b:List (zZ))(p:JI a<=zx/\JI a<=n)(t:JI b<=zx):zt (Ccfv n) f135 [.sl 5 (a.map zZ.V),.sl 5 (b.map zZ.V),.fn (.func 105) [] []]=some (int (w7 qQ a b)):=by
 refine zn rfl ?_;obtain⟨p,u⟩:=p;have y:=yE a;have z:=yE b;unfold zx at p t;simp;refine zT (fun k U Y Z=>U 0=.sl 5 (a.map zZ.V)/\U 1=.sl 5 (b.map zZ.V)/\U 2=.fn (.func 105) [] []/\U 11=.sl 5 (a.map zZ.V)/\U 12=int a.length/\U 13=int k/\k<=b.length/\w7 qQ a b=w7 qQ (a.drop k) (b.drop k)) a.length
  ⟨by simp,by simp,by simp,by simp,by simp,by simp,by simp,by simp⟩ ?_
 rintro k U Y Z A ⟨j,l,m,f,g,h,v,c⟩;by_cases d:k<a.length
 ·have w:=qH k;by_cases e:k<b.length
  ·have i:¬b.length<=k:=by omega
   have B:=js (zk d);have C:=js (zk e);have s:=fun Y Z=>YC n a[k] b[k] Y Z ⟨by unfold zx;omega,by omega,by unfold zx;omega⟩
   skip
   rw[zh d,zh e]at c;simp only[w7]at c;by_cases o:qQ a[k] b[k]=0
   ·rw[zf o]at c;simp[j,l,m,f,g,h,d,e,i,s,o,w];exact⟨d,by omega,c⟩
   ·rw[zc o]at c;have q:=ZX o;simp[j,l,m,f,g,h,d,e,i,s,q,c,f135]
  ·obtain rfl:k=b.length:=by omega
   rw[zh d,zq]at c;simp only[w7]at c;simp[j,l,m,f,g,h,d,c,f135]
 ·obtain rfl:k=a.length:=by omega
  rw[zq]at c;by_cases r:a.length<b.length
  ·rw[zh r]at c;simp only[w7]at c;simp[j,l,m,f,g,h,r,c,f135]
  ·rw[kW (by omega)]at c;simp only[w7]at c;have x:¬((a.length:Int)<b.length):=by omega
   simp[j,l,m,f,g,h,r,c,f135]
noncomputable def FLV (n:Nat):zb->Option O:=qu (α:=List (zZ)×List (zZ)) (fun a=>[.sl 5 (a.1.map zZ.V),.sl 5 (a.2.map zZ.V),.fn (.func 105) [] []]) (fun a=>(JI a.1<=zx/\JI a.1<=n)/\JI a.2<=zx) (fun a=>int (w7 qQ a.1 a.2))
theorem NW(n:Nat)(a b:List (zZ))(Y:Hp)(Z:Nat)(h:(JI a<=zx/\JI a<=n)/\JI b<=zx):zi false [] (FLV n) [.sl 5 (a.map zZ.V),.sl 5 (b.map zZ.V),.fn (.func 105) [] []] Y Z=some (int (w7 qQ a b),Y,Z):=
 yk (Y1:=Y) (by simp) (qG (V:=fun a:List (zZ)×List (zZ)=>[O.sl 5 (a.1.map zZ.V),.sl 5 (a.2.map zZ.V),.fn (.func 105) [] []]) (a:=(a,b)) (fun x y e=>by obtain⟨f,g⟩:=x;obtain⟨i,j⟩:=y;simp only[zl,zM]at e;obtain⟨c,d⟩:=e;injection c with _ c;injection d with _ d;rw[ej c,ej d]) h) (.inl rfl)
noncomputable def FFF (n:Nat):zb->Option O:=qu (α:=(za×zZ)×(za×zZ)) (fun a=>[.agg (ya a.1),.agg (ya a.2)]) (fun a=>(a.1.2.vb<=zx/\a.1.2.vb<=n/\a.2.2.vb<=zx)) (fun a=>int (jN a.1 a.2))
theorem NX(n:Nat)(a b:za×zZ)(Y:Hp)(Z:Nat)(h:a.2.vb<=zx/\a.2.vb<=n/\b.2.vb<=zx):zi false [] (FFF n) [.agg (ya a),.agg (ya b)] Y Z=some (int (jN a b),Y,Z):=
 yk (Y1:=Y) (show zw Y [.agg (ya a),.agg (ya b)]=some ([.agg (ya a),.agg (ya b)],Y) by simp[ya])
  (qG (V:=fun a:(za×zZ)×(za×zZ)=>[.agg (ya a.1),.agg (ya a.2)]) (a:=(a,b)) (fun x y e=>by
   obtain⟨d,f⟩:=x;obtain⟨g,i⟩:=y;have c:ya d=ya g/\ya f=ya i:=by simp only[zl,zM,O.agg.injEq]at e;exact⟨zl .. ▸ e.1,zl .. ▸ e.2⟩
   rw[ei c.1,ei c.2]) h) (.inl rfl)
noncomputable abbrev Ccfl (n:Nat):Ctx:=zW prog [(56,zi false [] (IP yB)),(105,zi false [] (R0 n)),(168,zi false [] MI)]
theorem bu(n:Nat)(a b:za×zZ)(h:a.2.vb<=zx/\a.2.vb<=n/\b.2.vb<=zx):zt (Ccfl n) f137 [.agg (ya a),.agg (ya b)]=some (int (jN a b)):=by
 refine zn rfl ?_;have c:=fun Y Z=>YC n a.2 b.2 Y Z h
 have d:∀(Y:Hp) (Z id:Nat),Y id=some ⟨3,1,true,[[int (yB a.1 b.1)],[int (qQ a.2 b.2)]]⟩->zi false [] MI [.own id 0 2] Y Z=some (int (jN a b),Y,Z):=fun Y Z id e=>cJ [_,_] Y Z id _ (by show 2<=zx;decide) e
 simp[ya,c,d,zp,zy,zo,f137]
noncomputable abbrev Ccff (n:Nat):Ctx:=zW prog [(137,zi false []<|FFF n)]
theorem cM(n:Nat)(a b:List (za×zZ))(p:dI a<=zx/\dI a<=n)(t:dI b<=zx):zt (Ccff n) f136 [.sl 6 (a.map ya),.sl 6 (b.map ya),.fn (.func 137) [] []]=some (int (w7 jN a b)):=by
 refine zn rfl ?_;obtain⟨p,u⟩:=p;have y:=jt a;have z:=jt b;unfold zx at p t;simp;refine zT (fun k U Y Z=>U 0=.sl 6 (a.map ya)/\U 1=.sl 6 (b.map ya)/\U 2=.fn (.func 137) [] []/\U 11=.sl 6 (a.map ya)/\U 12=int a.length/\U 13=int k/\k<=b.length/\w7 jN a b=w7 jN (a.drop k) (b.drop k)) a.length
  ⟨by simp,by simp,by simp,by simp,by simp,by simp,by simp,by simp⟩ ?_
 rintro k U Y Z A ⟨j,l,m,f,g,h,v,c⟩;by_cases d:k<a.length
 ·have w:=qH k;by_cases e:k<b.length
  ·have i:¬b.length<=k:=by omega
   have B:=vx (zk d);have C:=vx (zk e);have q:=fun Y Z=>NX n a[k] b[k] Y Z ⟨by unfold zx;omega,by omega,by unfold zx;omega⟩
   simp only[ya]at q;rw[zh d,zh e]at c;simp only[w7]at c;by_cases o:jN a[k] b[k]=0
   ·rw[zf o]at c;simp[j,l,m,f,g,h,d,e,i,q,o,w];exact⟨d,by omega,c⟩
   ·rw[zc o]at c;have r:=ZX o;simp[j,l,m,f,g,h,d,e,i,q,r,c,f136]
  ·obtain rfl:k=b.length:=by omega
   rw[zh d,zq]at c;simp only[w7]at c;simp[j,l,m,f,g,h,d,c,f136]
 ·obtain rfl:k=a.length:=by omega
  rw[zq]at c;by_cases s:a.length<b.length
  ·rw[zh s]at c;simp only[w7]at c;simp[j,l,m,f,g,h,s,c,f136]
  ·rw[kW (by omega)]at c;simp only[w7]at c;have x:¬((a.length:Int)<b.length):=by omega
   simp[j,l,m,f,g,h,s,c,f136]
noncomputable def FLF (n:Nat):zb->Option O:=qu (α:=List (za×zZ)×List (za×zZ)) (fun a=>[.sl 6 (a.1.map ya),.sl 6 (a.2.map ya),.fn (.func 137) [] []]) (fun a=>(dI a.1<=zx/\dI a.1<=n)/\dI a.2<=zx) (fun a=>int (w7 jN a.1 a.2))
theorem NY(n:Nat)(a b:List (za×zZ))(Y:Hp)(Z:Nat)(h:(dI a<=zx/\dI a<=n)/\dI b<=zx):zi false [] (FLF n) [.sl 6 (a.map ya),.sl 6 (b.map ya),.fn (.func 137) [] []] Y Z=some (int (w7 jN a b),Y,Z):=
 yk (Y1:=Y) (by simp) (qG (V:=fun a:List (za×zZ)×List (za×zZ)=>[O.sl 6 (a.1.map ya),.sl 6 (a.2.map ya),.fn (.func 137) [] []]) (a:=(a,b)) (fun x y e=>by obtain⟨f,g⟩:=x;obtain⟨i,j⟩:=y;simp only[zl,zM]at e;obtain⟨c,d⟩:=e;injection c with _ c;injection d with _ d;rw[rL c,rL d]) h) (.inl rfl)
noncomputable abbrev Ccmv (n:Nat):Ctx:=zW prog [(37,zi false [] (NQ wA)),(56,zi false [] (IP yB)),(135,zi false [] (FLV n)),(136,zi false [] (FLF n))]
theorem o1(n:Nat)(a b:zZ)(h:a.vb<=zx/\a.vb<=n+1/\b.vb<=zx):zt (Ccmv n) f105 [.agg a.V,.agg b.V]=some (int (qQ a b)):=by
 obtain⟨u,v,w⟩:=h;have x:=xD a;have y:=xD b;have m:=fun Y Z=>NW n a.items b.items Y Z ⟨⟨by omega,by omega⟩,by omega⟩
 have o:=fun Y Z=>NY n a.fields b.fields Y Z ⟨⟨by omega,by omega⟩,by omega⟩
 refine zn rfl ?_;have c:=JT a b;by_cases e:a.kind=b.kind
 ·rw[zf e]at c;by_cases j:a.kind=1
  ·rw[zf (.inl j)]at c;have d:b.kind=1:=by omega
   simp[j,d,c,f105]
  by_cases k:a.kind=2
  ·rw[zf (.inr k)]at c;have d:b.kind=2:=by omega
   simp[k,d,c,f105]
  rw[zc (by omega)]at c;by_cases f:a.kind=3
  ·rw[zf f]at c;have d:b.kind=3:=by omega
   simp[f,d,c,f105]
  rw[zc f]at c;by_cases g:a.kind=4
  ·rw[zf g]at c;have d:b.kind=4:=by omega
   simp[g,d,c,m,f105]
  rw[zc g]at c;by_cases i:a.kind=5
  ·rw[zf i]at c;have d:b.kind=5:=by omega
   simp[i,d,c,o,f105]
  rw[zc i]at c;have l:(a.kind != b.kind)=false:=by simpa using e
  have p:=yq j;have q:=yq k;have r:=yq f;have s:=yq g;have t:=yq i;simp[l,p,q,r,s,t,c,f105]
 ·rw[zc e]at c;have l:(a.kind != b.kind)=true:=by simpa using e
  simp[l,c,f105]
theorem iC{n:Nat}{args:zb}{r:O}(h:R0 n args=some r):∃a b:zZ,args=[.agg a.V,.agg b.V]/\(a.vb<=zx/\a.vb<=n/\b.vb<=zx)/\r=int (qQ a b):=by obtain⟨⟨a,b⟩,c,d,e⟩:=zK h;exact⟨a,b,c,d,e⟩
theorem VW:∀n,zg prog 105 (zi false [] (R0 n)):=by
 intro n
 induction n with
 |zero=>
  exact Yn ⟨_,func105,by kernel_rfl,by kernel_rfl⟩ fun args r h=>by obtain⟨a,b,_,d,_⟩:=iC h;have:=WN a;omega
 |succ n e=>
  have f:Gd (Ccfv n):=qc mixed ⟨e,trivial⟩;have i:zg prog 135 (zi false [] (FLV n)):=
   Z2 f func135 false [] fun⟨a,b⟩ ⟨c,d⟩=>by exact⟨zE (ze 3) (by decide),_,cL n a b c d,qq _⟩
  have j:AM.Good (Ccfl n) (fun g=>[56,105,168].contains g):=qx mixed ⟨vK,fun _=>zr _ _,e,fun _=>zr _ _,VU,fun _=>zr _ _,trivial⟩;have k:zg prog 137 (zi false [] (FFF n)):=
   Z2 j func137 false [] fun⟨a,b⟩ c=>by exact⟨zE (ze 2) (by decide),_,bu n a b c,qq _⟩
  have l:Gd (Ccff n):=qc mixed ⟨k,trivial⟩;have m:zg prog 136 (zi false [] (FLF n)):=
   Z2 l func136 false [] fun⟨a,b⟩ ⟨c,d⟩=>by exact⟨zE (ze 3) (by decide),_,cM n a b c d,qq _⟩
  have o:Gd (Ccmv n):=qc mixed ⟨ZS,vK,i,m,trivial⟩;exact yj (fn:=f105) o (qE func105) false [] _ fun args r h=>by obtain⟨a,b,rfl,c,rfl⟩:=iC h;exact⟨zE (ze 2) (by decide),_,o1 n a b c,qq _⟩
inductive zG where
 |mk (kind:Int) (attr:List UInt8) (op:Int) (qZ:List zZ) (pat name:List UInt8) (args:List zG)
namespace zG
def kind:zG->Int|.mk k _ _ _ _ _ _=>k
def attr:zG->za|.mk _ a _ _ _ _ _=>a
def op:zG->Int|.mk _ _ o _ _ _ _=>o
def qZ:zG->List zZ|.mk _ _ _ v _ _ _=>v
def pat:zG->za|.mk _ _ _ _ p _ _=>p
def name:zG->za|.mk _ _ _ _ _ n _=>n
def args:zG->List zG|.mk _ _ _ _ _ _ l=>l
end zG
theorem zG.ind{P:zG->Prop}(h:∀k a o v p n l,(∀x∈l,P x)->P (.mk k a o v p n l))(c:zG):P c:=
 zG.rec (motive_1:=P) (motive_2:=fun l=>∀x∈l,P x) (fun k a o v p n l b=>h k a o v p n l b) (by simp)
  (fun x l e b y d=>by
   rcases zv.1 d with rfl|d
   ·exact e
   ·exact b y d) c
mutual
def zG.V:zG->zb
 | .mk k a o v p n l=>[int k,str a,int o,.sl 5 (v.map zZ.V),str p,str n,.sl 7 (AJ l)]
def AJ:List zG->List zb
 |[]=>[]
 |c::l=>c.V::AJ l
end
theorem ml:∀l:List zG,AJ l=l.map zG.V
 |[]=>rfl
 |c::l=>by simp[AJ,ml l]
theorem zI(c:zG):c.V=[int c.kind,str c.attr,int c.op,.sl 5 (c.qZ.map zZ.V),str c.pat,str c.name,.sl 7 (c.args.map zG.V)]:=by
 cases c with
 |mk k a o v p n l=>simp[zG.V,ml,zG.kind,zG.attr,zG.op,zG.qZ,zG.pat,zG.name,zG.args]
@[simp]theorem zaB(c:zG):c.V.length=7:=by rw[zI];rfl
@[simp]theorem E3(c:zG):c.V.all O.wH=true:=by rw[zI];rfl
@[simp]theorem zaC(c:zG):(∀x,x∈c.V->O.wH x=true)=True:=by have:=E3 c;rw[zL]at this;exact eq_true this
@[simp]theorem XP(c:zG):c.V.take 7=c.V:=qe (by simp)
@[simp]theorem zgS(c:zG)(h:0<c.V.length):c.V[0]=int c.kind:=by simp[zI c]
@[simp]theorem zgT(c:zG)(h:1<c.V.length):c.V[1]=str c.attr:=by simp[zI c]
@[simp]theorem zgU(c:zG)(h:2<c.V.length):c.V[2]=int c.op:=by simp[zI c]
@[simp]theorem zgV(c:zG)(h:3<c.V.length):c.V[3]=.sl 5 (c.qZ.map zZ.V):=by simp[zI c]
@[simp]theorem zgW(c:zG)(h:4<c.V.length):c.V[4]=str c.pat:=by simp[zI c]
@[simp]theorem zgX(c:zG)(h:5<c.V.length):c.V[5]=str c.name:=by simp[zI c]
@[simp]theorem zgY(c:zG)(h:6<c.V.length):c.V[6]=.sl 7 (c.args.map zG.V):=by simp[zI c]
theorem BJ{a b:List zZ}(h:a.map zZ.V=b.map zZ.V):a=b:=vw (fun _ _=>Qs) h
theorem ka:∀{a b:zG},a.V=b.V->a=b:=by
 intro a
 induction a using zG.ind with
 |h k a o v p n l f=>
  intro b e;cases b with
  |mk s t o' u w z l'=>
   simp only[zI,zG.kind,zG.attr,zG.op,zG.qZ,zG.pat,zG.name,zG.args,zl,zM]at e;obtain⟨g,i,j,c,m,q,d⟩:=e;obtain rfl:=qS g;obtain rfl:=wR i;obtain rfl:=qS j;injection c with _ c
   obtain rfl:=BJ c;obtain rfl:=wR m;obtain rfl:=wR q;injection d with _ d;rw[Kx (fun x r y=>f x r) d]
mutual
def zG.cb:zG->Nat
 | .mk _ a _ v p n l=>1+a.length+JI v+p.length+n.length+ay l
def ay:List zG->Nat
 |[]=>0
 |c::l=>c.cb+ay l
end
theorem xG(c:zG):c.cb=1+c.attr.length+JI c.qZ+c.pat.length+c.name.length+ay c.args:=by cases c;rfl
theorem VX(c:zG):0<c.cb:=by rw[xG];omega
theorem kg:∀{l:List zG} {x:zG},x∈l->x.cb<=ay l
 |y::l,x,h=>by
  simp only[ay];rcases zv.1 h with rfl|h
  ·omega
  ·have:=kg h;omega
theorem ju:∀l:List zG,l.length<=ay l
 |[]=>by simp[ay]
 |c::l=>by have:=ju l;have:=VX c;simp only[ay,z7];omega
mutual
def zG.parts:zG->Nat
 | .mk _ _ _ _ _ _ l=>1+wI l
def wI:List zG->Nat
 |[]=>0
 |c::l=>c.parts+wI l
end
mutual
def zG.levels:zG->Nat
 | .mk _ _ _ _ _ _ l=>yp l+1
def yp:List zG->Nat
 |[]=>0
 |c::l=>max c.levels (yp l)
end
theorem QX(c:zG):c.parts=1+wI c.args:=by cases c;rfl
theorem bw(c:zG):c.levels=yp c.args+1:=by cases c;rfl
theorem E4(l:List zG)(h:∀x∈l,x.parts<=x.cb):wI l<=ay l:=by
 induction l with
 |nil=>simp[wI]
 |cons v l a=>have:=h v (by simp);have:=a fun x b=>h x (by simp[b]);simp only[wI,ay];omega
theorem IQ(c:zG):c.parts<=c.cb:=by
 induction c using zG.ind with
 |h k a o v p n l b=>have:=E4 l b;rw[QX,xG];simp only[zG.args];omega
theorem BK(l:List zG)(h:∀x∈l,x.levels<=x.parts):yp l<=wI l:=by
 induction l with
 |nil=>simp[yp]
 |cons v l a=>have:=h v (by simp);have:=a fun x b=>h x (by simp[b]);simp only[wI,yp];omega
theorem E5(c:zG):c.levels<=c.parts:=by
 induction c using zG.ind with
 |h k a o v p n l b=>have:=BK l b;rw[QX,bw];simp only[zG.args];omega
theorem aS(a b:List zG):wI (a++b)=wI a+wI b:=by
 induction a with
 |nil=>simp[wI]
 |cons v a c=>simp only[qX,wI,c];omega
theorem mm(a b:List zG):yp (a++b)=max (yp a) (yp b):=by
 induction a with
 |nil=>simp[yp]
 |cons v a c=>simp only[qX,yp,c];omega
theorem zeQ{l:List zG}{k:Nat}(h:k<l.length):wI (l.take (k+1))=wI (l.take k)+l[k].parts/\yp (l.take (k+1))=max (yp (l.take k)) l[k].levels:=by rw[ql h,aS,mm];simp[wI,yp]
theorem rM(l:List zG)(k:Nat):wI (l.take k)<=wI l:=by have:=aS (l.take k) (l.drop k);rw[vO]at this;omega
noncomputable def FC (out:zG->O) (n:Nat):zb->Option O:=qu (α:=zG) (fun c=>[.agg c.V]) (fun c=>c.cb<=zx/\c.cb<=n) out
theorem zeR(out:zG->O)(n:Nat)(c:zG)(h:c.cb<=zx/\c.cb<=n):FC out n [.agg c.V]=some (out c):=
 qG (V:=fun c:zG=>[.agg c.V]) (a:=c) (fun a b e=>by simp only[zl,zM,O.agg.injEq]at e;exact ka e) h
@[simp]theorem IU(Y:Hp)(c:zG):qY Y c.V=some (c.V,Y):=by rw[zI];simp
theorem x0(Y:Hp)(c:zG):qa Y (.agg c.V)=some (.agg c.V,Y):=by rw[zI];simp
theorem mn(c:zG):O.noOwn (.agg c.V)=true:=by rw[zI];simp
theorem Wa(out:zG->O)(n:Nat)(c:zG)(Y:Hp)(Z:Nat)(h:c.cb<=zx/\c.cb<=n):zi false [] (FC out n) [.agg c.V] Y Z=some (out c,Y,Z):=
 yk (Y1:=Y) (show zw Y [.agg c.V]=some ([.agg c.V],Y) by simp only[zw,x0]) (zeR out n c h) (.inr (by simp only[q9,mn,Zn,zhq]))
theorem YD{out:zG->O}{n:Nat}{args:zb}{r:O}(h:FC out n args=some r):∃c:zG,args=[.agg c.V]/\(c.cb<=zx/\c.cb<=n)/\r=out c:=zK h
theorem ek(c:zG):0<c.parts:=by rw[QX];omega
theorem YE:∀{l:List zG} {x:zG},x∈l->x.parts<=wI l
 |y::l,x,h=>by
  simp only[wI];rcases zv.1 h with rfl|h
  ·omega
  ·have:=YE h;omega
theorem bz:∀l:List zG,l.length<=wI l
 |[]=>by simp
 |c::l=>by have:=bz l;have:=ek c;simp only[wI,z7];omega
noncomputable def FCp (out:zG->O) (n:Nat):zb->Option O:=qu (α:=zG) (fun c=>[.agg c.V]) (fun c=>c.parts<=zx/\c.parts<=n) out
theorem E6(out:zG->O)(n:Nat)(c:zG)(h:c.parts<=zx/\c.parts<=n):FCp out n [.agg c.V]=some (out c):=
 qG (V:=fun c:zG=>[.agg c.V]) (a:=c) (fun a b e=>by simp only[zl,zM,O.agg.injEq]at e;exact ka e) h
theorem NZ(out:zG->O)(n:Nat)(c:zG)(Y:Hp)(Z:Nat)(h:c.parts<=zx/\c.parts<=n):zi false [] (FCp out n) [.agg c.V] Y Z=some (out c,Y,Z):=
 yk (Y1:=Y) (show zw Y [.agg c.V]=some ([.agg c.V],Y) by simp only[zw,x0]) (E6 out n c h) (.inr (by simp only[q9,mn,Zn,zhq]))
theorem rN{dr:Prop}{P:Program}{f:FuncId}{a:Bool}{ns:List Nat}{F b:zb->Option O}(h:∀args r,F args=some r->b args=some r)(hs:jr dr P f (zi a ns b)):jr dr P f (zi a ns F):=
 ⟨hs.1,fun args Y Z r Y' c e=>hs.2 args Y Z r Y' c (by
  unfold zi at e⊢;split at e
  ·split at e
   ·rename_i hF;simp only[h _ _ hF];exact e
   ·cases e
  ·cases e)⟩
theorem N0(out:zG->O)(n:Nat):∀args r,FC out n args=some r->FCp out zx args=some r:=fun args r h=>by obtain⟨c,rfl,⟨a,_⟩,rfl⟩:=zK h;have:=IQ c;exact E6 out zx c ⟨by omega,by omega⟩
theorem iD{out:zG->O}{f:FuncId}(a:∃fn,prog.funcs[f]?=some fn/\(fn.name== "runtime.NumGoroutine")=false/\fn.body.isNone=false):zg prog f (zi false [] (FC out 0)):=by
 refine⟨a,fun args Y Z r Y' b h=>?_⟩;unfold zi at h;split at h
 ·split at h
  ·rename_i d hF;obtain⟨c,_,e,_⟩:=YD hF;have:=VX c;omega
  ·cases h
 ·cases h
noncomputable abbrev GC (out:zG->O):AM.Spec:=zi false [] (FC out zx)
theorem xc(out:zG->O)(c:zG)(Y:Hp)(Z:Nat)(h:c.cb<=zx):GC out [.agg c.V] Y Z=some (out c,Y,Z):=Wa out zx c Y Z ⟨h,h⟩
end Go.Q
namespace Go.AM
def YF(a:List Sh)(F:zb->Option O):AM.Spec:=zi true [] fun args=>F (cw a args)
theorem BL{C:Ctx}{pf:FuncId->Bool}{f:FuncId}{fn:Func}(c:AM.Good C pf)(d:QU C pf f fn)(a:List Sh)(F:zb->Option O)
  (hF:∀args r,F args=some r->args.length<=fn.ntmps/\∃b,zt C fn args=some b/\qg b r):zg C.P f (YF a F):=
 xl c d true [] _ fun args r h w S vs e=>by obtain⟨g,b,i,j⟩:=hF _ _ h;exact⟨cw a args,b,JP e,g,i,j⟩
theorem N1{a:List Sh}{F:zb->Option O}{args:zb}{Y Y1:Hp}{Z:Nat}{ys:zb}{r:O}(b:zw Y args=some (ys,Y1))(c:F (cw a ys)=some r)(d:(r.flat=true\/args.all O.noOwn=true)->Y1=Y) :
  YF a F args Y Z=some (r,Y1,Z):=by
 have e:q6 [] ys=ys:=by cases ys<;>rfl
 unfold YF zi;simp only[b,e,c];split
 ·rename_i h;rw[d h]
 ·simp
theorem E7(c:List Sh)(F:zb->Option O):Ql (YF c F):=by
 intro args Y Z r Y' e h;unfold YF zi at h;split at h
 ·rename_i ys Y1 d;split at h
  ·split at h
   ·injection h with h;injection h with _ h;injection h with a b;subst a;subst b;exact⟨ze _,fun id blk _ a _=>a⟩
   ·split at h
    ·injection h with h;injection h with _ h;injection h with a b;subst a;subst b;exact⟨ze _,fun id blk _ a b=>Qp d a b⟩
    ·cases h
  ·cases h
 ·cases h
def xH(P:Program)(l:Qf)(k:Nat)(D:List (Tmp×Tmp))(L:List Tmp)(b:List Nat):Ctx:=⟨P,lookup l,fun i=>if i=k then D else[],fun i=>if i=k then L else[],fun g=>b.contains g,fun _=>[],fun _=>none⟩
@[simp]theorem zdv(P:Program)(l:Qf)(k:Nat)(D:List (Tmp×Tmp))(L:List Tmp)(b:List Nat):(xH P l k D L b).P=P:=rfl
@[simp]theorem zdw(P:Program)(l:Qf)(k:Nat)(D:List (Tmp×Tmp))(L:List Tmp)(b:List Nat)(Y:Hp)(Z g:Nat)(x y xs:zb):jG (xH P l k D L b) Y Z (some (.fn (.func g) x y)) xs=(lookup l g).bind fun s=>s (x++xs++y) Y Z:=by unfold jG xH;simp only;cases lookup l g<;>rfl
@[simp]theorem MJ(P:Program)(l:Qf)(k:Nat)(D:List (Tmp×Tmp))(L:List Tmp)(b:List Nat)(i:Nat)(a:Array Oper)(d:Bool)(st:St)(K:Exit->St->Prop)(h:¬i=k):Zw (xH P l k D L b) (.region i a d) st K=iy (xH P l k D L b) a a.toList st (Z1 K):=
 Yw _ i a d st K (by simp[xH,h]) (by simp[xH,h])
theorem jZ{P:Program}{l:Qf}{k:Nat}{D:List (Tmp×Tmp)}{L:List Tmp}{b:List Nat}{a:Array Oper}{d:Bool}{st:St}{K:Exit->St->Prop}(h:WH D st)(c:xy L st):Zw (xH P l k D L b) (.region k a d) st K=iy (xH P l k D L b) a a.toList st (Z1 K):=
 Wl _ k a d st K (by simpa[xH]using h) (by simpa[xH]using c)
theorem rO{P:Program}{l:Qf}{q:List Nat}{k:Nat}{D:List (Tmp×Tmp)}{L:List Tmp}{b:List Nat}(a:P.follows .mixedOrders=true)(h:cv True P q l)(c:bh b l):AM.Good (xH P l k D L b) (fun g=>q.contains g):=
 let g:=JO (k:=k) (L:=L) a h c
 ⟨g.spec,g.quiet,g.mixed,g.box,fun _ _ h=>by cases h⟩
end Go.AM
namespace Go.Q
def AQ(a b c:Int):O:=.agg [int a,int b,int c]
noncomputable def E8:zb->Option O:=qu (α:=Int×Int×Int×List za) (fun a=>[AQ a.1 a.2.1 a.2.2.1,.sl 1 (zH a.2.2.2)]) (fun _=>True) (fun a=>.agg (⟨a.1,a.2.1,a.2.2.1,a.2.2.2⟩:wN).V)
theorem SQ:∀a b:Int×Int×Int×List za,[AQ a.1 a.2.1 a.2.2.1,.sl 1 (zH a.2.2.2)]=[AQ b.1 b.2.1 b.2.2.1,.sl 1 (zH b.2.2.2)]->a=b:=by rintro⟨h,i,j,k⟩ ⟨l,m,n,o⟩ e;simp only[AQ,zl,zM]at e;obtain⟨c,d⟩:=e;injection c with c;simp only[zl,zM]at c;obtain⟨c,f,g⟩:=c;injection d with _ d;rw[qS c,qS f,qS g,jI d]
theorem tV(a b c:Int)(p:List za):zt C0 f220 [AQ a b c,.sl 1 (zH p)]=some (.agg (⟨a,b,c,p⟩:wN).V):=by refine zn rfl ?_;simp[AQ,wN.V,zS,qn,wc,f220]
theorem Ju:zg prog 220 (YF [.a,.s 1 []] E8):=
 BL (fn:=f220) jY (qE func220) _ _ fun args r h=>by obtain⟨⟨a,b,c,p⟩,rfl,_,rfl⟩:=zK h;exact⟨by simp[f220],_,tV a b c p,qg.refl _⟩
theorem KA(a b c:Int)(p:List za)(y z:O)(Y Y1:Hp)(Z:Nat)(e:qa Y y=some (z,Y1))(d:n1 1 z=.sl 1 (zH p))(f:y.noOwn=true->Y1=Y):YF [.a,.s 1 []] E8 [AQ a b c,y] Y Z=some (.agg (⟨a,b,c,p⟩:wN).V,Y1,Z):=
 N1 (ys:=[AQ a b c,z]) (by
  have g:qa Y (AQ a b c)=some (AQ a b c,Y):=by simp[AQ]
  simp only[zw,g,e]) (by
  have:(Sh.s 1 []).fix z=.sl 1 (zH p):=by
   cases z with
   |sl m es=>simp only[n1]at d;simp only[Sh.fix];rw[<-d];congr 1;exact(Vt (fun c _=>by cases c<;>rfl)).trans (List.map_id _)
   |_=>exact d
  show E8 [AQ a b c,(Sh.s 1 []).fix z]=_;rw[this];exact qG (V:=fun a:Int×Int×Int×List za=>[AQ a.1 a.2.1 a.2.2.1,.sl 1 (zH a.2.2.2)]) (a:=(a,b,c,p)) SQ trivial) (by simpa[AQ,wN.V]using f)
def qR:Cut:=⟨⟨0,0,0,[[48]]⟩,false⟩
noncomputable def YG (r:O):zb->Option O:=qu (α:=Unit) (fun _=>[]) (fun _=>True) (fun _=>r)
theorem QY(r:O)(Y:Hp)(Z:Nat):qA [] (YG r) [] Y Z=some (r,Y,Z):=vH (show zw Y []=some ([],Y)from rfl) (qG (V:=fun _:Unit=>[]) (a:=()) (fun _ _ _=>rfl) trivial) (.inr rfl)
theorem E9:zt C0 f175 []=some (.agg qR.V):=by refine zn rfl ?_;simp[qR,Cut.V,zH,str,zS,qn,zp,zy,zo,wc,f175]
theorem fK:zg prog 175 (qA [] (YG (.agg qR.V))):=
 wT (fn:=f175) jY (qE func175) _ _ fun args r h=>by obtain⟨_,rfl,_,rfl⟩:=zK h;exact⟨by simp[f175],_,E9,qg.refl _⟩
structure qN where
 lo:Cut
 hi:Cut
 y7:Bool
def qN.V(s:qN):zb:=s.lo.V++s.hi.V++[q8 s.y7]
def QL:Cut:=⟨⟨0,0,0,[]⟩,false⟩
abbrev jo:List (Option Nat):=[none,none,none,some 1,none,none,none,none,some 1,none,none]
def w5(c:Cut):qN:=⟨c,QL,true⟩
def bA(a b:Cut):qN:=⟨a,b,false⟩
def z6(l:List qN):List zb:=l.map qN.V
def bB:O:=.sl 11 (z6 [w5 qR])
noncomputable abbrev Cev:Ctx:=zW prog [(175,qA [] (YG (.agg qR.V)))]
theorem zbO:Gd Cev:=qc mixed ⟨fK,trivial⟩
theorem gS:∃a,zt Cev f140 []=some a/\qg a bB:=by refine Ya (sh:=.s 11 jo) rfl ?_;simp[QY,qR,Cut.V,zH,str,zS,qn,zp,zy,zo,cx,bB,z6,w5,qN.V,QL,f140]
theorem JU:zg prog 140 (qA [] (YG bB)):=
 wT (fn:=f140) zbO (qE func140) _ _ fun args r h=>by obtain⟨_,rfl,_,rfl⟩:=zK h;obtain⟨a,b,c⟩:=gS;exact⟨by simp[f140],a,b,c⟩
theorem mo{a b:Part}(h:a.V=b.V):a=b:=by obtain⟨i,j,k,l,m⟩:=a;obtain⟨n,o,p,q,r⟩:=b;simp only[Part.V,zl,zM]at h;obtain⟨d,e,f,g,c⟩:=h;injection c with _ c;rw[qS d,qS e,qS f,qS g,jI c]
def Part.ok(p:Part):Prop:=(0<=p.n0/\p.n0<=999999)/\(0<=p.n1/\p.n1<=999999)/\(0<=p.n2/\p.n2<=999999)/\(1<=p.has/\p.has<=3)/\vi p.pre
noncomputable def FPa (f:Part->O):zb->Option O:=qu (α:=Part) (fun p=>[.agg p.V]) Part.ok f
theorem BM(f:Part->O)(p:Part)(u:O)(Y:Hp)(Z:Nat)(h:p.ok)(c:(Sh.g VQ).fix u=.agg p.V)(d:qa Y u=some (u,Y))(i:u.noOwn=true):qA [.g VQ] (FPa f) [u] Y Z=some (f p,Y,Z):=
 vH (show zw Y [u]=some ([u],Y) by simp only[zw,d]) (by show FPa f [(Sh.g VQ).fix u]=_;rw[c];exact qG (V:=fun p:Part=>[O.agg p.V]) (a:=p) (fun a b e=>by simp only[zl,zM]at e;injection e with e;exact mo e) h) (.inr (by rw[q9,i];rfl))
noncomputable def FPt (f:Part->O):zb->Option O:=qu (α:=Part) (fun p=>[.agg p.V]) (fun _=>True) f
theorem N2(f:Part->O)(p:Part)(Y:Hp)(Z:Nat):qA [.g VQ] (FPt f) [.agg p.V] Y Z=some (f p,Y,Z):=
 vH (show zw Y [.agg p.V]=some ([.agg p.V],Y) by simp[Part.V]) (by show FPt f [(Sh.g VQ).fix (.agg p.V)]=_;rw[show(Sh.g VQ).fix (.agg p.V)=.agg p.V by simp[Part.V]];exact qG (V:=fun p:Part=>[O.agg p.V]) (a:=p) (fun a b e=>by simp only[zl,zM]at e;injection e with e;exact mo e) trivial) (.inr (by simp[Part.V]))
def Zz(p:Part):Cut:=⟨⟨p.n0,p.n1,p.n2,p.pre⟩,false⟩
noncomputable abbrev Clo:Ctx:=zW prog [(220,YF [.a,.s 1 []] E8)]
theorem zbP:Gd Clo:=qc mixed ⟨Ju,trivial⟩
theorem N3(p:Part):zt Clo f176 [.agg p.V]=some (.agg (Zz p).V):=by
 obtain⟨a,b,c,d,e⟩:=p;refine zn rfl ?_;have f:=fun Y Z=>KA a b c e (.sl 1 (zH e)) (.sl 1 (zH e)) Y Y Z (by simp) rfl (fun _=>rfl)
 simp[AQ]at f;simp[Part.V,f,Zz,Cut.V,wN.V,zS,qn,wc,f176]
theorem IV:zg prog 176 (qA [.g VQ] (FPt fun p=>.agg (Zz p).V)):=
 wT (fn:=f176) zbP (qE func176) _ _ fun args r h=>by obtain⟨p,rfl,_,rfl⟩:=zK h;exact⟨by simp[f176],_,N3 p,qg.refl _⟩
def jh(p:Part):Nat->Cut
 | 0=>⟨⟨p.n0+1,0,0,[[48]]⟩,false⟩
 | 1=>⟨⟨p.n0,p.n1+1,0,[[48]]⟩,false⟩
 |_=>⟨⟨p.n0,p.n1,p.n2+1,[[48]]⟩,false⟩
def vy(p:Part):Nat->Bool
 | 0=>decide (p.n0+1<=999999)
 | 1=>decide (p.n1+1<=999999)
 |_=>decide (p.n2+1<=999999)
def kR(p:Part)(i:Nat):O:=.wq [.agg (jh p i).V,q8 (vy p i)]
noncomputable abbrev Crsd:Ctx:=xH prog [(220,YF [.a,.s 1 []] E8)] 7 [(6,4),(28,4)] [4,6,28] [220]
theorem SR:Gd Crsd:=rO mixed ⟨Ju,by simp,trivial⟩ ⟨fun _=>E7 _ _,trivial⟩
theorem Yo(st:St):WH [] st:=fun _ h=>by cases h
theorem ye{a b:Tmp}{D:List (Tmp×Tmp)}{st:St}(h:sV st a b)(c:WH D st):WH ((a,b)::D) st:=fun p Y=>by
 rcases zv.1 Y with rfl|Y
 ·exact h
 ·exact c p Y
theorem JV(st:St):xy [] st:=fun _ h=>by cases h
theorem xn{s:Tmp}{L:List Tmp}{st:St}{id i j:Nat}{blk:kn}(h:st.U s=.ref id i j)(b:id<st.Z)(c:st.Y id=some blk)(d:blk.arr=false)(f:xy L st)(hs:s<zB:=by decide):xy (s::L) st:=fun t a=>by
 rcases zv.1 a with rfl|a
 ·refine⟨⟨fun id' o n e=>(by rw[h]at e;cases e),fun id' i' j' e=>?_⟩,fun g=>absurd hs (zhA.2 g)⟩;rw[h]at e;injection e with e _ _
  subst e;exact⟨b,blk,c,d⟩
 ·exact f t a
theorem kr{s:Tmp}{L:List Tmp}{st:St}{x:zb}(h:st.U s=.wq x)(b:xy L st)(hs:s<zB:=by decide):xy (s::L) st:=fun t a=>by
 rcases zv.1 a with rfl|a
 ·exact⟨⟨fun id' o n e=>(by rw[h]at e;cases e),fun id' i' j' e=>(by rw[h]at e;cases e)⟩,fun c=>absurd hs (zhA.2 c)⟩
 ·exact b t a
theorem Yp{a b:Tmp}{st:St}{id i j id' i' j':Nat}{blk:kn}(d:st.U a=.ref id i j)(e:st.U b=.ref id' i' j')(f:id≠id')(g:st.Y id'=some blk)(h:blk.arr=false):sV st a b:=by
 intro k l m c;rw[d]at c;injection c with c _ _
 subst c;exact⟨id',i',j',blk,e,f,g,h⟩
theorem jO{a b:Tmp}{st:St}{x:zb}(d:st.U a=.wq x):sV st a b:=by intro e f g c;rw[d]at c;cases c
theorem BN(p:Part)(i:Nat)(hi:i<3)(Y:p.ok):∃j,zt Crsd f179 [.agg p.V,int i]=some j/\qg j (kR p i):=by
 obtain⟨a,b,c,d,e⟩:=p;obtain⟨⟨k,l⟩,⟨m,n⟩,⟨o,q⟩,_⟩:=Y;simp only at k l m n o q;refine yM (sh:=.g jz) rfl ?_;have r:=wX (a+1);have t:=wX (b+1);have u:=wX (c+1);have f:∀(a b c:Int) (Y:Hp) (Z id:Nat),Y id=some ⟨9,1,true,[[str [48]]]⟩->YF [.a,.s 1 []] E8 [AQ a b c,.own id 0 1] Y Z=some (.agg (⟨a,b,c,[[48]]⟩:wN).V,qt Y id none,Z):=fun a b c Y Z id v=>KA a b c [[48]] (.own id 0 1) (.sl 1 [[str [48]]]) Y (qt Y id none) Z (by simp[v]) rfl (fun h=>by cases h)
 simp[AQ,str]at f;rcases(by omega:i=0\/i=1\/i=2)with rfl|rfl|rfl
 ·simp[Part.V,r];rw[zJ];simp;rw[zJ];simp;rw[zJ];simp;rw[jZ (ye (Yp (by simp;exact⟨rfl,rfl,rfl⟩) (by simp;exact⟨rfl,rfl,rfl⟩) (by omega) (by simp;rfl) rfl) (ye (jO (by simp;rfl)) (Yo _)))
   (xn (by simp;exact⟨rfl,rfl,rfl⟩) (by simp) (by simp;rfl) rfl (xn (by simp;exact⟨rfl,rfl,rfl⟩) (by simp) (by simp;rfl) rfl (kr (by simp;rfl) (JV _))))]
  simp[f,zS,qn,zp,zy,zo,qo,kR,jh,vy,Cut.V,wN.V,f179]
 ·simp[Part.V,t];rw[zJ];simp;rw[zJ];simp;rw[jZ (ye (Yp (by simp;exact⟨rfl,rfl,rfl⟩) (by simp;exact⟨rfl,rfl,rfl⟩) (by omega) (by simp;rfl) rfl) (ye (jO (by simp;rfl)) (Yo _)))
   (xn (by simp;exact⟨rfl,rfl,rfl⟩) (by simp) (by simp;rfl) rfl (xn (by simp;exact⟨rfl,rfl,rfl⟩) (by simp) (by simp;rfl) rfl (kr (by simp;rfl) (JV _))))]
  simp[f,zS,qn,zp,zy,zo,qo,kR,jh,vy,Cut.V,wN.V,f179]
 ·simp[Part.V,u];rw[zJ];simp;rw[jZ (ye (Yp (by simp;exact⟨rfl,rfl,rfl⟩) (by simp;exact⟨rfl,rfl,rfl⟩) (by omega) (by simp;rfl) rfl) (ye (jO (by simp;rfl)) (Yo _)))
   (xn (by simp;exact⟨rfl,rfl,rfl⟩) (by simp) (by simp;rfl) rfl (xn (by simp;exact⟨rfl,rfl,rfl⟩) (by simp) (by simp;rfl) rfl (kr (by simp;rfl) (JV _))))]
  simp[f,zS,qn,zp,zy,zo,qo,kR,jh,vy,Cut.V,wN.V,f179]
noncomputable def FPi (f:Part->Nat->O):zb->Option O:=qu (α:=Part×Nat) (fun a=>[.agg a.1.V,int a.2]) (fun a=>a.1.ok/\a.2<3) (fun a=>f a.1 a.2)
theorem zbQ:∀a b:Part×Nat,[O.agg a.1.V,int a.2]=[O.agg b.1.V,int b.2]->a=b:=by rintro⟨h,d⟩ ⟨i,f⟩ e;simp only[zl,zM]at e;obtain⟨c,g⟩:=e;injection c with c;have:=qS g;rw[mo c,show d=f by omega]
theorem BO(f:Part->Nat->O)(p:Part)(i:Nat)(u:O)(Y:Hp)(Z:Nat)(h:p.ok)(hi:i<3)(b:(Sh.g VQ).fix u=.agg p.V)(c:qa Y u=some (u,Y))(d:u.noOwn=true):qA [.g VQ] (FPi f) [u,int i] Y Z=some (f p i,Y,Z):=
 vH (show zw Y [u,int i]=some ([u,int i],Y) by simp only[zw,c];rfl) (by show FPi f [(Sh.g VQ).fix u,int i]=_;rw[b];exact qG (V:=fun a:Part×Nat=>[O.agg a.1.V,int a.2]) (a:=(p,i)) zbQ ⟨h,hi⟩) (.inr (by rw[q9,d];rfl))
theorem cN:zg prog 179 (qA [.g VQ] (FPi kR)):=
 wT (fn:=f179) SR (qE func179) _ _ fun args r h=>by obtain⟨⟨p,i⟩,rfl,⟨a,b⟩,rfl⟩:=zK h;obtain⟨c,d,e⟩:=BN p i b a;exact⟨by simp[f179],c,d,e⟩
def vq(p:Part):Cut:=if p.has<3 then jh p (p.has-1).toNat else⟨⟨p.n0,p.n1,p.n2,p.pre⟩,true⟩
def Qt(p:Part):Bool:=if p.has<3 then vy p (p.has-1).toNat else true
def Je(p:Part):O:=.wq [.agg (vq p).V,q8 (Qt p)]
noncomputable abbrev Chi:Ctx:=zW prog [(220,YF [.a,.s 1 []] E8),(179,qA [.g VQ] (FPi kR))]
theorem zbR:Gd Chi:=qc mixed ⟨Ju,cN,trivial⟩
@[simp]theorem iE(p:Part)(Y:Hp):qa Y (.agg p.V)=some (.agg p.V,Y):=by simp[Part.V]
theorem IW(p:Part)(Y:p.ok):zt Chi f178 [.agg p.V]=some (Je p):=by
 have a:=Y;obtain⟨_,_,_,⟨g,h⟩,_⟩:=Y;refine zn rfl ?_;have b:=fun Y Z=>BO kR p (p.has-1).toNat (.agg p.V) Y Z a (by omega) (by simp[Part.V]) (iE p Y) (by simp[Part.V])
 have e:(((p.has-1).toNat:Nat):Int)=p.has-1:=by omega
 have f:=wX (p.has-1);rw[e]at b;have c:=fun Y Z=>KA p.n0 p.n1 p.n2 p.pre (.sl 1 (zH p.pre)) (.sl 1 (zH p.pre)) Y Y Z (by simp) rfl (fun _=>rfl)
 simp[AQ]at c;simp only[Part.V]at b;by_cases d:p.has<3
 ·simp[Part.V,d,b,f,Je,vq,Qt,kR,Cut.V,wc,f178]
 ·simp[Part.V,d,c,Je,vq,Qt,Cut.V,wN.V,zS,qn,wc,f178]
theorem Fa:zg prog 178 (qA [.g VQ] (FPa Je)):=
 wT (fn:=f178) zbR (qE func178) _ _ fun args r h=>by obtain⟨p,rfl,a,rfl⟩:=zK h;exact⟨by simp[f178],_,IW p a,qg.refl _⟩
noncomputable def eo (a b:Cut):List qN:=if 0<=wv a b then[]else[bA a b]
noncomputable def KB (a b:Cut):O:=.sl 11 (z6 (eo a b))
noncomputable abbrev Cbt:Ctx:=zW prog [(181,qA [.g jz,.g jz] (AP fun v w=>int (wv v w)))]
theorem zbS:Gd Cbt:=qc mixed ⟨xF,trivial⟩
theorem tW(x y:Cut)(c:x.v.small)(d:y.v.small):∃b,zt Cbt f177 [.agg x.V,.agg y.V]=some b/\qg b (KB x y):=by
 refine Ya (sh:=.s 11 jo) rfl ?_;have a:=fun Y Z=>tU x y (.agg x.V) (.agg y.V) Y Z (by simp[Cut.V]) (by simp[Cut.V]) (by simp[Cut.V]) c d
 simp only[Cut.V]at a;by_cases h:0<=wv x y
 ·simp[Cut.V,a,h,cx,KB,eo,z6,f177]
 ·simp[Cut.V,a,h,zS,qn,zp,zy,zo,cx,KB,eo,z6,bA,qN.V,f177]
theorem o5:zg prog 177 (qA [.g jz,.g jz] (AP KB)):=
 wT (fn:=f177) zbS (qE func177) _ _ fun args r h=>by obtain⟨⟨v,w⟩,rfl,⟨a,b⟩,rfl⟩:=zK h;obtain⟨c,d,e⟩:=tW v w a b;exact⟨by simp[f177],c,d,e⟩
structure xN where
 sign:List UInt8
 p:Part
 tu:Part
def xN.V(c:xN):zb:=[str c.sign,int c.p.n0,int c.p.n1,int c.p.n2,int c.p.has,.sl 1 (zH c.p.pre),int c.tu.n0,int c.tu.n1,int c.tu.n2,int c.tu.has,.sl 1 (zH c.tu.pre)]
abbrev tX:List (Option Nat):=[none,none,none,none,none,some 1,none,none,none,none,some 1]
theorem IX{a b:xN}(h:a.V=b.V):a=b:=by obtain⟨q,⟨r,s,t,u,v⟩,⟨w,x,y,z,e⟩⟩:=a;obtain⟨A,⟨B,C,D,E,F⟩,⟨G,H,I,J,f⟩⟩:=b;simp only[xN.V,zl,zM]at h;obtain⟨g,i,j,k,l,d,m,n,o,p,c⟩:=h;injection d with _ d;injection c with _ c;rw[wR g,qS i,qS j,qS k,qS l,jI d,qS m,qS n,qS o,qS p,jI c]
def jm:za:=[97,108,108]
def xN.ok(c:xN):Prop:=c.sign.length<=zx/\(c.sign=jm\/(c.p.ok/\(c.sign=[45]->c.tu.ok)))
def jE(p:Part):Nat:=if 1<p.has/\p.n0=0 then(if 2<p.has/\p.n1=0 then 2 else 1)else 0
theorem IY(p:Part):jE p<3:=by unfold jE;split<;>(try split)<;>omega
noncomputable def vj (c:xN):List qN×Bool:=
 if c.sign=jm then([w5 qR],true)
 else if c.sign=[62,61]then([w5 (Zz c.p)],true)
 else if c.sign=[60]then(eo qR (Zz c.p),true)
 else if c.sign=[62]then([w5 (vq c.p)],Qt c.p)
 else if c.sign=[60,61]then(eo qR (vq c.p),Qt c.p)
 else if c.sign=[45]then(eo (Zz c.p) (vq c.tu),Qt c.tu)
 else if c.sign=[126]then(eo (Zz c.p) (jh c.p (min (c.p.has-1) 1).toNat),vy c.p (min (c.p.has-1) 1).toNat)
 else if c.sign=[94]then(eo (Zz c.p) (jh c.p (jE c.p)),vy c.p (jE c.p))
 else(eo (Zz c.p) (vq c.p),Qt c.p)
noncomputable def Jv (c:xN):O:=.wq [.sl 11 (z6 (vj c).1),q8 (vj c).2]
def lowP(p:Part):O:=.agg (Zz p).V
def ep:O:=.agg qR.V
noncomputable abbrev Cstt:Ctx:=zW prog [(176,qA [.g VQ] (FPt lowP)),(178,qA [.g VQ] (FPa Je)),(179,qA [.g VQ] (FPi kR)),(175,qA [] (YG ep)),(140,qA [] (YG bB)),(177,qA [.g jz,.g jz] (AP KB))]
theorem SS:AM.Good Cstt (fun g=>[175,177].contains g):=qx mixed ⟨IV,by simp,Fa,by simp,cN,by simp,fK,fun _=>yR _ _,JU,by simp,o5,fun _=>yR _ _,trivial⟩
theorem tY:qR.v.small:=⟨by decide,fun p Y=>by simp[qR]at Y;subst Y;decide⟩
theorem KC(p:Part)(i:Nat):(jh p i).v.small:=by
 have h:(jh p i).v.pre=[[48]]:=by unfold jh;split<;>rfl
 exact⟨by rw[h];decide,fun q a=>by rw[h]at a;simp at a;subst a;decide⟩
theorem Z4{p:Part}(h:vi p.pre):(Zz p).v.small:=h
theorem QZ{p:Part}(h:vi p.pre):(vq p).v.small:=by
 unfold vq;split
 ·exact KC _ _
 ·exact h
theorem tZ(c:Cut):(Sh.g jz).fix (.agg c.V)=.agg c.V:=by simp[Cut.V]
theorem N4(c:Cut)(Y:Hp):qa Y (.agg c.V)=some (.agg c.V,Y):=by simp[Cut.V]
theorem Wb(x y:Cut)(Y:Hp)(Z:Nat)(b:x.v.small)(c:y.v.small):qA [.g jz,.g jz] (AP KB) [.agg x.V,.agg y.V] Y Z=some (KB x y,Y,Z):=
 vH (show zw Y [.agg x.V,.agg y.V]=some ([.agg x.V,.agg y.V],Y) by simp only[zw,N4]) (by show AP _ [(Sh.g jz).fix (.agg x.V),(Sh.g jz).fix (.agg y.V)]=_;rw[tZ,tZ];exact qG (V:=fun a:Cut×Cut=>[O.agg a.1.V,.agg a.2.V]) (a:=(x,y)) NU ⟨b,c⟩) (.inr (by simp[Cut.V]))
theorem mq(c:xN)(R:c.ok):∃r0,zt Cstt f141 [.agg c.V]=some r0/\qg r0 (Jv c):=by
 obtain⟨h,p,S⟩:=c;obtain⟨_,R⟩:=R;simp only at R;refine yM (sh:=.s 11 jo) rfl ?_;have e:=fun Y Z=>N2 lowP p Y Z
 have I:∀(Y:Hp) (Z:Nat),qA [] (YG ep) [] Y Z=some (.agg [int qR.v.a,int qR.v.b,int qR.v.c,.sl 1 (zH qR.v.pre),q8 qR.after],Y,Z):=fun Y Z=>QY _ Y Z
 have W:∀(Y:Hp) (Z:Nat),qA [] (YG bB) [] Y Z=some (.sl 11 (z6 [w5 qR]),Y,Z):=fun Y Z=>QY _ Y Z
 simp only[lowP,Part.V,Cut.V]at e;by_cases J:h=jm
 ·subst J;simp[xN.V,e,W,jm,qo,Jv,vj,z6,w5,qN.V,Cut.V,QL,f141]
 obtain⟨Y,ht⟩:=R.resolve_left J;have B:vi p.pre:=Y.2.2.2.2;have k:(h==[97,108,108])=false:=by simpa[jm]using J
 by_cases T:h=[62,61]
 ·subst T;simp[xN.V,e,k,zS,qn,zp,zy,zo,jm,qo,Jv,vj,z6,w5,qN.V,Cut.V,QL,f141]
 have l:=yq T;have K:=fun Y Z=>Wb qR (Zz p) Y Z tY (Z4 B)
 have L:=fun Y Z=>Wb qR (vq p) Y Z tY (QZ B)
 have G:=fun Y' Z=>BM Je p (.agg p.V) Y' Z Y (by simp[Part.V]) (iE p Y') (by simp[Part.V])
 simp only[KB,Je,Part.V,Cut.V]at K L G;by_cases X:h=[60]
 ·subst X;simp[xN.V,e,I,K,k,l,jm,qo,Jv,vj,z6,qN.V,Cut.V,f141]
 have m:=yq X;by_cases s3:h=[62]
 ·subst s3;simp[xN.V,e,G,k,l,m,zS,qn,zp,zy,zo,jm,qo,Jv,vj,z6,w5,qN.V,Cut.V,QL,f141]
 have q:=yq s3;by_cases s4:h=[60,61]
 ·subst s4;simp[xN.V,e,G,I,L,k,l,m,q,zS,qn,zp,zy,zo,jm,qo,Jv,vj,z6,w5,qN.V,Cut.V,QL,f141]
 have r:=yq s4;by_cases s5:h=[45]
 ·subst s5;have M:=ht rfl;have N:=fun Y Z=>Wb (Zz p) (vq S) Y Z (Z4 B) (QZ M.2.2.2.2)
  have P:=fun Y' Z=>BM Je S (.agg S.V) Y' Z M (by simp[Part.V]) (iE S Y') (by simp[Part.V])
  simp only[KB,Je,Part.V,Cut.V]at N P;simp[xN.V,e,P,N,k,l,m,q,r,zS,qn,zp,zy,zo,jm,qo,Jv,vj,z6,w5,qN.V,Cut.V,QL,f141]
 have t:=yq s5;have u:=fun i (hi:i<3) Y' Z=>BO kR p i (.agg p.V) Y' Z Y hi (by simp[Part.V]) (iE p Y') (by simp[Part.V])
 have w:=fun i Y Z=>Wb (Zz p) (jh p i) Y Z (Z4 B) (KC p i)
 simp only[KB,kR,Part.V,Cut.V]at u w;have x:IntKind.i64.wrap (p.has-1)=p.has-1:=wQ (by have:=Y.2.2.2.1;omega) (by have:=Y.2.2.2.1;omega);by_cases s6:h=[126]
 ·subst s6;have hm:(if 1<p.has-1 then 1 else p.has-1)=(((min (p.has-1) 1).toNat:Nat):Int):=by have:=Y.2.2.2.1;split<;>omega
  have d:=u (min (p.has-1) 1).toNat (by omega);rw[<-hm]at d;simp[xN.V,e,d,w,x,k,l,m,q,r,t,zS,qn,zp,zy,zo,jm,qo,Jv,vj,z6,w5,qN.V,Cut.V,QL,f141]
 have y:=yq s6;by_cases s7:h=[94]
 ·subst s7;have hs3:(2:Int)<p.has->p.has=3:=by have:=Y.2.2.2.1;omega
  by_cases n:1<p.has
  ·have f:(0:Int)<p.has-1:=by omega
   by_cases C:p.n0=0
   ·have g:(p.n0==0)=true:=by simpa using C
    by_cases D:2<p.has
    ·have j:(1:Int)<p.has-1:=by omega
     have E:¬(2:Int)<p.has-1:=by have:=Y.2.2.2.1;omega
     by_cases H:p.n1=0
     ·have z:(p.n1==0)=true:=by simpa using H
      have o:jE p=2:=by simp[jE,n,f,D,j,E,C,H]
      have d:=u 2 (by omega);rw[show((2:Nat):Int)=2 from rfl]at d;simp[xN.V,e,x,k,l,m,q,r,t,y,n,f,D,j,E,g,z,jm];rw[zJ];simp[xN.V,e,x,k,l,m,q,r,t,y,n,f,D,j,E,g,z];rw[zJ];simp[xN.V,e,x,k,l,m,q,r,t,y,n,f,D,j,E,g,z];rw[zJ];simp[xN.V,e,x,k,l,m,q,r,t,y,d,w,o,n,f,D,j,E,g,z,zS,qn,zp,zy,zo,jm,qo,Jv,vj,z6,w5,qN.V,Cut.V,QL,f141]
     ·have A:=yq H;have o:jE p=1:=by simp[jE,n,f,D,j,C,H,A]
      have d:=u 1 (by omega);rw[show((1:Nat):Int)=1 from rfl]at d;simp[xN.V,e,x,k,l,m,q,r,t,y,n,f,D,j,g,A,jm];rw[zJ];simp[xN.V,e,x,k,l,m,q,r,t,y,n,f,D,j,g,A];rw[zJ];simp[xN.V,e,x,k,l,m,q,r,t,y,d,w,o,n,f,D,j,g,A,zS,qn,zp,zy,zo,jm,qo,Jv,vj,z6,w5,qN.V,Cut.V,QL,f141]
    ·have j:¬(1:Int)<p.has-1:=by omega
     have o:jE p=1:=by simp[jE,n,f,D,j,C]
     have d:=u 1 (by omega);rw[show((1:Nat):Int)=1 from rfl]at d;simp[xN.V,e,x,k,l,m,q,r,t,y,n,f,D,j,g,jm];rw[zJ];simp[xN.V,e,x,k,l,m,q,r,t,y,n,f,D,j,g];rw[zJ];simp[xN.V,e,x,k,l,m,q,r,t,y,d,w,o,n,f,D,j,g,zS,qn,zp,zy,zo,jm,qo,Jv,vj,z6,w5,qN.V,Cut.V,QL,f141]
   ·have F:=yq C;have o:jE p=0:=by simp[jE,n,f,C,F]
    have d:=u 0 (by omega);rw[show((0:Nat):Int)=0 from rfl]at d;simp[xN.V,e,x,k,l,m,q,r,t,y,n,f,F,jm];rw[zJ];simp[xN.V,e,x,k,l,m,q,r,t,y,d,w,o,n,f,F,zS,qn,zp,zy,zo,jm,qo,Jv,vj,z6,w5,qN.V,Cut.V,QL,f141]
  ·have f:¬(0:Int)<p.has-1:=by omega
   have o:jE p=0:=by simp[jE,n,f]
   have d:=u 0 (by omega);rw[show((0:Nat):Int)=0 from rfl]at d;simp[xN.V,e,x,k,l,m,q,r,t,y,n,f,jm];rw[zJ];simp[xN.V,e,x,k,l,m,q,r,t,y,d,w,o,n,f,zS,qn,zp,zy,zo,jm,qo,Jv,vj,z6,w5,qN.V,Cut.V,QL,f141]
 have e7:=yq s7;have Q:=fun Y Z=>Wb (Zz p) (vq p) Y Z (Z4 B) (QZ B)
 simp only[KB,Cut.V]at Q;simp only[jm]at J;have e1':=T;simp[xN.V,e,G,Q,k,l,m,q,r,t,y,e7,J,T,X,s3,s4,s5,s6,s7,zS,qn,zp,zy,zo,jm,qo,Jv,vj,z6,w5,qN.V,Cut.V,QL,f141]
noncomputable def FCm (f:xN->O):zb->Option O:=qu (α:=xN) (fun c=>[.agg c.V]) xN.ok f
theorem gT:zg prog 141 (qA [.g tX] (FCm Jv)):=
 wT (fn:=f141) SS (qE func141) _ _ fun args r h=>by obtain⟨c,rfl,a,rfl⟩:=zK h;obtain⟨b,d,e⟩:=mq c a;exact⟨by simp[f141],b,d,e⟩
def we:List za:=[[62,61],[60,61],[62],[60],[61],[126],[94]]
def wD:List za->za->za×za
 |[],s=>([],s)
 |g::l,s=>if g.isPrefixOf s=true then(g,s.drop g.length)else wD l s
def SU(s:za):O:=.wq [str (wD we s).1,str (wD we s).2]
noncomputable abbrev Cop:Ctx:=zW prog [(219,zi false [] (Qg SI fun _ _=>True))]
theorem zbT:Gd Cop:=qc mixed ⟨gK,trivial⟩
theorem o6(s:za)(h:s.length<=zx):zt Cop f173 [str s]=some (SU s):=by
 refine zn rfl ?_;have l:∀Y Z,zp prog Y Z 34 7 [(0,str [62,61]),(1,str [60,61]),(2,str [62]),(3,str [60]),(4,str [61]),(5,str [126]),(6,str [94])]=some (.own Z 0 7,qt Y Z (some ⟨9,1,true,zH we⟩),Z+1):=fun Y Z=>by simp[zp,zy,zo,we,str]
 simp[str]at l;simp[l];refine zT (fun k U Y Z=>U 0=str s/\U 8=.own 0 0 7/\U 9=int 7/\U 10=int k/\Y 0=some ⟨9,1,true,zH we⟩/\wD we s=wD (we.drop k) s) 7 ⟨by simp,by simp,by simp,by simp,by simp,by simp⟩ ?_;rintro k U Y Z p ⟨f,g,i,b,m,a⟩;by_cases c:k<7
 ·have e:k<we.length:=c;have j:we[k].length<=zx:=by
   have:∀q∈we,q.length<=zx:=by decide
   exact this _ (zk e)
  have n:=fun Y Z=>GY s we[k] Y Z h j
  have o:=qH k;have d:(k:Int)<7:=by omega
  rw[zh e]at a;simp only[wD]at a;by_cases Y:(we[k]).isPrefixOf s=true
  ·rw[zf Y]at a;simp[f,g,i,b,m,d,c,e,n,Y,o,SU,a,wc,f173]
  ·rw[zc Y]at a;have Y':(we[k]).isPrefixOf s=false:=Bool.eq_false_iff.2 Y;simp[f,g,i,b,m,d,c,e,n,Y',o];exact⟨by omega,a⟩
 ·obtain rfl:k=7:=by omega
  rw[show we.drop 7=[]from rfl]at a;simp only[wD]at a;simp[f,g,i,b,SU,a,wc, f173]
theorem mr:zg prog 173 (zi false [] (MG SU)):=
 Z2 zbT func173 false [] fun l Y=>⟨by simp[f173],_,o6 l Y,qq _⟩
def oJ(l:za):Bool:=l.isEmpty
theorem mu:zg prog 171 (zi false [] (FS oJ)):=
 Z2 jY func171 false [] fun l Y=>⟨by simp[f171],_,zn rfl (by simp[wc,oJ,f171]),qq _⟩
def er:Nat->List za->Int
 |_,[]=>-1
 |k,x::l=>if x=[]then k else er (k+1) l
def iF:O:=.fn (.func 171) [] []
noncomputable def FIx:zb->Option O:=qu (α:=List za) (fun l=>[.sl 1 (zH l),iF]) vi (fun l=>int (er 0 l))
noncomputable abbrev Cixf:Ctx:=zW prog [(171,zi false [] (FS oJ))]
theorem SV:Gd Cixf:=qc mixed ⟨mu,trivial⟩
theorem gU(l:List za)(h:vi l):zt Cixf f133 [.sl 1 (zH l),iF]=some (int (er 0 l)):=by
 refine zn rfl ?_;obtain⟨o,e⟩:=h;unfold zx at o;simp[iF];refine zT (fun k U Y Z=>U 0=.sl 1 (zH l)/\U 1=iF/\U 7=int l.length/\U 8=int k/\er 0 l=er k (l.drop k)) l.length ⟨by simp,by simp[iF],by simp,by simp,by simp⟩ ?_;rintro k U Y Z p ⟨f,g,i,j,b⟩;by_cases a:k<l.length
 ·have m:=qH k;have n:=fun Y' Z=>kA oJ l[k] Y' Z (e _ (zk a))
  rw[zh a]at b;simp only[er]at b;by_cases d:l[k]=[]
  ·rw[zf d]at b;have c:oJ l[k]=true:=by simpa[oJ]using d
   simp[f,g,i,j,iF,a,n,c,m,b,wc,f133]
  ·rw[zc d]at b;have c:oJ l[k]=false:=by simpa[oJ]using d
   simp[f,g,i,j,iF,a,n,c,m];exact⟨a,b⟩
 ·obtain rfl:k=l.length:=by omega
  rw[zq]at b;simp only[er]at b;simp[f,g,i,j,b,wc,f133]
theorem N5:∀a b:List za,[O.sl 1 (zH a),iF]=[O.sl 1 (zH b),iF]->a=b:=fun a b e=>by
 simp only[zl,zM]at e;injection e with _ e
 exact jI e
theorem eu:zg prog 133 (zi false [] FIx):=
 Z2 SV func133 false [] fun l Y=>⟨by simp[f133],_,gU l Y,qq _⟩
theorem N6(l:List za)(Y:Hp)(Z id:Nat)(h:vi l)(b:Y id=some (Ku l)):zi false [] FIx [.own id 0 l.length,iF] Y Z=some (int (er 0 l),Y,Z):=by
 have c:(zH l).take l.length=zH l:=qe (by simp);refine yk (show zw Y [.own id 0 l.length,iF]=some ([.sl 1 (zH l),iF],qt Y id none) by have:Y id=some ⟨9,1,true,zH l⟩:=b;simp[iF,this,c]) (qG (V:=fun l:List za=>[O.sl 1 (zH l),iF]) (a:=l) N5 h) (.inl rfl)
def wz(l:List za):List za:=l.filter fun x=>!oJ x
theorem rP:∀(l:List za) (k:Nat),(er k l=-1/\wz l=l)\/∃i,∃h:i<l.length,er k l=((k+i:Nat):Int)/\oJ l[i]=true/\wz (l.take i)=l.take i
 |[],k=>.inl ⟨rfl,rfl⟩
 |x::l,k=>by
  by_cases a:x=[]
  ·exact .inr ⟨0,by simp,by simp[er,a],by simp[oJ,a],by simp[wz]⟩
  ·have b:oJ x=false:=by simpa[oJ]using a
   rcases rP l (k+1)with⟨c,d⟩|⟨i,h,c,d,e⟩
   ·exact .inl ⟨by simp[er,a,c],by simp only[wz,Rl,b];simpa[wz]using d⟩
   ·refine .inr ⟨i+1,by simpa using h,by simp only[er,zc a,c];congr 1;omega,by simpa using d,?_⟩;simp only[Zf,wz,Rl,b];simpa[wz]using e
theorem KD{l:List za}{j:Nat}(h:j<l.length):wz (l.take (j+1))=if oJ l[j]=true then wz (l.take j)else wz (l.take j)++[l[j]]:=by rw[ql h];simp only[wz,List.filter_append,Rl,List.filter_nil];cases oJ l[j]<;>simp
theorem fL(a b:List za):zH (a++b)=zH a++zH b:=by simp[zH]
theorem IZ{l:List za}{i:Nat}(h:i<l.length):zH l=zH (l.take i)++[str l[i]]::zH (l.drop (i+1)):=by rw[<-XL,<-fL,<-zh h,vO]
noncomputable abbrev Cdf:Ctx:=zW prog [(171,zi false [] (FS oJ)),(133,zi false [] FIx)]
theorem zbU:Gd Cdf:=qc mixed ⟨mu,eu,trivial⟩
theorem ew:zg prog 170 (yz Cdf f170):=kM zbU func170
def DelQ(l:List za)(id:Nat)(Y:Hp)(Z:Nat)(x:O)(Y':Hp)(b:Nat):Prop:=x=.own id 0 (wz l).length/\b=Z/\(∃a,Y' id=some ⟨9,1,true,zH (wz l)++a⟩)/\∀j,j≠id->Y' j=Y j
theorem Fb(l:List za)(E:Hp)(Z0 id:Nat)(h:vi l)(F:E id=some (Ku l)):∃x Y' Z',yz Cdf f170 [.own id 0 l.length,iF] E Z0=some (x,Y',Z')/\DelQ l id E Z0 x Y' Z':=by
 unfold yz;rw[zf (by simp[f170])];refine qz rfl ?_;have n:=N6 l E Z0 id h F;obtain⟨hl,S⟩:=h;unfold zx at hl;simp only[iF]at n;have G:E id=some ⟨9,1,true,zH l⟩:=F;rcases rP l 0 with⟨T,H⟩|⟨i,hi,T,H,W⟩
 ·rw[T]at n;simp[iF,n,DelQ,H,f170];exact⟨[],by simpa using G⟩
 ·rw[T]at n;have X:((i:Int)==-1)=false:=by simp
  have w:=qH i;simp[iF,n,X,w];refine zT (fun k U Y Z=>U 0=.own id 0 l.length/\U 1=iF/\U 5=int (wz (l.take (i+1+k))).length/\U 6=int ((i:Int)+1+k)/\Z=Z0/\(∀j,j≠id->Y j=E j) /\
    ∃a,Y id=some ⟨9,1,true,zH (wz (l.take (i+1+k)))++a++zH (l.drop (i+1+k))⟩/\(wz (l.take (i+1+k))).length+a.length=i+1+k/\0<a.length/\∀c∈a,c.length=1) (l.length-(i+1))
   ⟨by simp,by simp[iF],by simp[KD hi,H,W];omega,by simp,rfl,fun _ _=>rfl,[[str l[i]]],by simp[KD hi,H,W,G];exact IZ hi,by simp[KD hi,H,W];omega,by simp,by simp⟩ ?_
  rintro k U Y Z hk ⟨h0,h1,I,h6,rfl,z,a,s,A,J,B⟩;obtain⟨j,hj⟩:=jj (i+1+k);have C:U 6=int j:=by rw[h6];congr 2;omega
  rw[hj]at I s A;by_cases g:j<l.length
  ·have hc:=fun Y' Z=>kA oJ l[j] Y' Z (S _ (zk g))
   have K:=qH j;have hww:=wX (((wz (l.take j)).length:Int)+1);have u:(zH (wz (l.take j))++a++zH (l.drop j))[j]?=some [str l[j]]:=by rw[zQ (by simp;omega),zh g,XL];rw[show j-(zH (wz (l.take j))++a).length=0 by simp;omega];rfl
   have o:(zH (wz (l.take j))++a++zH (l.drop j)).length=l.length:=by simp;omega
   obtain⟨d,f⟩:=jj (zH (wz (l.take j))++a++zH (l.drop j));rw[f]at s u o;have p:∀h:j<d.length,d[j]=[str l[j]]:=fun h=>(zd.1 u).2
   have t:=KD g;have L:i+1+(k+1)=j+1:=by omega
   have w:(wz (l.take j)).length<l.length:=by omega
   cases R:oJ l[j]
   ·rw[R,zc (by simp)]at t;obtain⟨y,b,rfl,D⟩:∃y b,a=[y]::b/\∀c∈b,c.length=1:=by
     cases a with
     |nil=>simp at J
     |cons x b=>
      have:=B x (by simp)
      match x,this with
      |[y],_=>exact⟨y,b,rfl,fun c hc=>B c (by simp[hc])⟩
    have hg3:∀h:(wz (l.take j)).length<d.length,d[(wz (l.take j)).length]=[y]:=fun h=>by
     have:d[(wz (l.take j)).length]?=some [y]:=by rw[<-f,qT,zQ (by simp)];simp
     exact(zd.1 this).2
    have M:d.set (wz (l.take j)).length [str l[j]]=zH (wz (l.take j))++([str l[j]]::b++zH (l.drop j)):=by rw[<-f,qT,List.set_append_right _ _ (by simp)];simp
    simp only[z7]at A;simp[h0,h1,I,C,iF,g,s,p,hc,R,K,hww,w,o,hg3,M,L,t];refine⟨by omega,by omega,fun q N=>by rw[zm _ _ _ _ N];exact z q N,b++[[str l[j]]],?_,by simp;omega,by simp,?_⟩
    ·rw[fL];simp;rw[zh g,XL]
    ·intro c hc;rcases zF.1 hc with hc|hc
     ·exact D c hc
     ·simp at hc;subst hc;rfl
   ·rw[R,zf rfl]at t;simp[h0,h1,I,C,iF,g,s,p,hc,R,K,L,t,o];refine⟨by omega,by omega,z,a++[[str l[j]]],?_,by simp;omega,by simp,?_⟩
    ·rw[<-f];simp;rw[zh g,XL]
    ·intro c hc;rcases zF.1 hc with hc|hc
     ·exact B c hc
     ·simp at hc;subst hc;rfl
  ·obtain rfl:j=l.length:=by omega
   rw[wJ]at I s A;rw[zq,NG,jJ]at s;have hn1:¬(l.length:Int)<l.length:=by omega
   have v:(wz l).length<=l.length:=by omega
   have m:l.length-(wz l).length=a.length:=by omega
   have hcl:dM prog Y Z 34 (.own id (wz l).length a.length)=some (.wq [],qt Y id (some ⟨9,1,true,zH (wz l)++List.replicate a.length [str []]⟩),Z):=by
    have ht:(zH (wz l)++a).take (wz l).length=zH (wz l):=by rw[List.take_append_of_le_length (by simp),IH]
    have hd:(zH (wz l)++a).drop ((wz l).length+a.length)=[]:=kW (by simp);simp[dM,s,ht,hd,J,str]
   have hs1:∀Y:Hp,Y id=some ⟨9,1,true,zH (wz l)++a⟩->jC prog Y 34 (.own id 0 l.length) (some (some (int (wz l).length))) none=some (.own id (wz l).length a.length):=fun Y F=>by
    have:¬l.length=(wz l).length:=by omega
    simp[jC,F,kD,v,m,this];intro e;rw[e]at m⊢;simp at m;simp[m]
   have hs2:∀(Y:Hp) (r:List zb),Y id=some ⟨9,1,true,r⟩->jC prog Y 34 (.own id 0 l.length) none (some (some (int (wz l).length)))=some (.own id 0 (wz l).length):=fun Y r F=>by simp[jC,F,kD,v]
   have P:=hs1 Y s;have Q:=hs2 (qt Y id (some ⟨9,1,true,zH (wz l)++List.replicate a.length [str []]⟩)) _ (by simp;rfl);simp[h0,h1,I,C,iF,s,P,Q,hcl,f170];exact⟨rfl,rfl,⟨_,by simp;rfl⟩,fun q N=>by rw[zm _ _ _ _ N];exact z q N⟩
def ez:xN:=⟨jm,wj,wj⟩
def JW(sg:za)(p:Part):xN:=⟨sg,p,wj⟩
def kh(w:za)(l:List za):Option (xN×List za):=
 if(wD we w).1=[]/\yo (wD we w).2=true then some (ez,l)
 else if(wD we w).1≠[]/\(wD we w).2=[]/\l≠[]then(match l with
  |r::l'=>if(zR r).2=true then some (JW (wD we w).1 (zR r).1,l')else none
  |[]=>none)
 else if(zR (wD we w).2).2=true then some (JW (wD we w).1 (zR (wD we w).2).1,l)else none
def yw:Nat->List za->Option (List xN)
 | 0,_=>some []
 |_+1,[]=>some []
 |n+1,w::l=>match kh w l with
  |some (c,l')=>(yw n l').map (c::·)
  |none=>none
theorem N7{w:za}{l l':List za}{c:xN}(h:kh w l=some (c,l')):l'.length<=l.length:=by
 unfold kh at h;split at h
 ·injection h with h;injection h with _ h;subst h;exact ze _
 ·split at h
  ·split at h
   ·split at h
    ·injection h with h;injection h with _ h;subst h;simp
    ·cases h
   ·cases h
  ·split at h
   ·injection h with h;injection h with _ h;subst h;exact ze _
   ·cases h
def QJ(t:za):List xN×Bool:=
 match wz (qh t [32])with
 |[a,b,c]=>if b=[45]then([⟨[45],(zR a).1,(zR c).1⟩],(zR a).2&&(zR c).2)else(match yw 3 [a,b,c]with
  |some l=>(l,!l.isEmpty)
  |none=>([],false))
 |ws=>match yw ws.length ws with
  |some l=>(l,!l.isEmpty)
  |none=>([],false)
def ZA(l:List xN):List zb:=l.map xN.V
def ua(t:za):O:=.wq [.sl 11 (ZA (QJ t).1),q8 (QJ t).2]
theorem KE:∀(a:List za) (s:za),(wD a s).2.length<=s.length
 |[],s=>ze _
 |g::l,s=>by
  simp only[wD];split
  ·simp
  ·exact KE l s
noncomputable abbrev Calt:Ctx:=zW prog [(152,yh [] FSp),(170,yz Cdf f170),(172,zi false [] (Vn jR)),(173,zi false [] (MG SU)),(174,zi false [] (FS yo))]
theorem SX:AM.Good Calt (fun g=>[174].contains g):=qx mixed ⟨Wn,by simp,ew,by simp,cE,by simp,mr,by simp,lW,fun _=>zr _ _,trivial⟩
def JX:O->Nat
 | .own _ _ n=>n
 |_=>0
def N8(b:List za)(c:List zb)(st:St):Prop:=∃f a l xs,a.length<=f/\xs.length+a.length<=b.length/\b.drop (b.length-a.length)=a/\(a=[]/\st.U 4=.sl 1 []\/st.U 4=.own 0 (b.length-a.length) a.length) /\
 qU st.Y st.Z 168 11 (st.U 9) xs/\(∀n,st.U 9≠.own 0 0 n)/\xs.map (QI tX)=ZA l/\1<=st.Z/\st.Y 0=some ⟨9,1,true,c⟩/\yw b.length b=(yw f a).map (l++·)
theorem sl1(Y:Hp)(a:List zb)(o n:Nat)(b:Y 0=some ⟨9,1,true,a⟩):jC prog Y 34 (.own 0 o (n+1)) (some (some (int 1))) none=some (if n=0 then .sl 1 []else .own 0 (o+1) n):=by simp[jC,b,kD]
theorem ZB{b a}{f':Nat}{l':List za}{l:List xN}{c:xN}{xs:List zb}{d:zb}{st:St}{v4:O}(k:l'.length<=f')(r:xs.length+1+l'.length<=b.length)(f:b.drop (b.length-l'.length)=l')(m:st.U 4=v4)(g:l'=[]/\v4=.sl 1 []\/v4=.own 0 (b.length-l'.length) l'.length)
  (o:qU st.Y st.Z 168 11 (st.U 9) (xs++[d])) (h:∀n,st.U 9≠.own 0 0 n) (e:QI tX d=c.V) (i:xs.map (QI tX)=ZA l) (j:1<=st.Z) (p:st.Y 0=some ⟨9,1,true,a⟩) (q:yw b.length b=(yw f' l').map ((l++[c])++·)):N8 b a st:=
 ⟨f',l',l++[c],xs++[d],k,by simp;omega,f,by rw[m];exact g,o,h,by simp[i,e,ZA],j,p,q⟩
theorem BP(f:Nat):yw f []=some []:=by cases f<;>rfl
theorem eA(t:za)(ht:t.length+1<=zx):∃r0,zt Calt f139 [str t]=some r0/\qg r0 (ua t):=by
 refine yM (sh:=.s 11 tX) rfl ?_;have hsp:=fun Y Z=>ZP t [32] Y Z (by omega) (by decide) (by decide)
 have hpl:∀p∈qh t [32],p.length+1<=zx:=fun p Y=>by have:=vf Y;omega
 have Gy:vi (qh t [32]):=⟨by have:=xZ (s:=t) (sep:=[32]) (by simp);omega,fun p Y=>by have:=hpl p Y;omega⟩;obtain⟨x,Y1,nx1,Rs,hx,hnx,⟨pad,hb⟩,MM⟩:=Fb (qh t [32]) (qt (fun _=>none) 0 (some ⟨9,1,true,zH (qh t [32])⟩)) 1 0 Gy (by simp);subst hx;subst hnx;obtain⟨g,hws⟩:=jj (wz (qh t [32]));have hwl:∀p∈g,p.length+1<=zx:=fun p Y=>hpl p (by rw[<-hws]at Y;exact(za4.1 Y).1)
 rw[hws]at Rs hb;simp only[iF]at Rs;have D:g.length<=zx:=by
  have h1:=zcB (fun x=>!oJ x) (qh t [32]);have h2:=xZ (s:=t) (sep:=[32]) (by simp);have h3:g.length=(wz (qh t [32])).length:=by rw[hws]
  unfold wz at h3;omega
 have MN:=fun(p:za) (Y:p.length+1<=zx) Y' Z=>vI jR p Y' Z Y
 simp[hsp,Rs];by_cases hc:∃a c,g=[a,[45],c]
 ·obtain⟨a,c,rfl⟩:=hc;have ha:=fun Y' Z=>MN a (hwl a (by simp)) Y' Z
  have hcc:=fun Y' Z=>MN c (hwl c (by simp)) Y' Z
  simp only[jR,Part.V]at ha hcc;have m:ua t=.wq [.sl 11 (ZA [⟨[45],(zR a).1,(zR c).1⟩]),q8 ((zR a).2&&(zR c).2)]:=by simp only[ua,QJ,hws,qI]
  rw[m];have hn:∀k,0<k->Y1 k=none:=fun k hk=>by rw[MM k (by omega),zm _ _ _ _ (by omega)]
  simp[hb,ha,hcc,zS,qn,zp,zy,zo,qo,ZA,xN.V,f139]
 ·have m:ua t=(match yw g.length g with
   |some l=>.wq [.sl 11 (ZA l),q8 (!l.isEmpty)]
   |none=>.wq [.sl 11 [],q8 false]):=by
   have hR:QJ t=(match yw g.length g with
    |some l=>(l,!l.isEmpty)
    |none=>([],false)):=by
    unfold QJ;rw[hws]
    match g,hc with
    |[],_=>rfl
    |[_],_=>rfl
    |[_,_],_=>rfl
    |[a,b,c],hc=>
     have:¬b=[45]:=fun e=>hc ⟨a,c,by rw[e]⟩
     simp only[zc this];rfl
    |_::_::_::_::_,_=>rfl
   unfold ua;rw[hR];cases yw g.length g<;>rfl
  obtain⟨z,HW⟩:=jj (zH g++pad);have U4:g.length<=z.length:=by rw[<-HW];simp
  have hat:∀k (h:k<g.length) (h':k<z.length),z[k]=[str g[k]]:=fun k h h'=>by subst HW;rw[List.getElem_append_left (by simpa using h)];simp[zH]
  rw[HW]at hb;clear HW;by_cases h3:g.length=3
  ·have h31:=hat 1 (by omega) (by omega);have hne:(g[1]==[45])=false:=by
    match g,h3,hc with
    |[a,b,c],_,hc=>simpa using fun e=>hc ⟨a,c,by rw[e]⟩
   have h3l:1<z.length:=by omega
   have h33:((g.length:Int)==3)=true:=by simp[h3]
   simp[hb,h33,h3,h31,hne,h3l];refine Wm (N8 g z) (fun st=>JX (st.U 4)) ⟨g.length,g,[],[],ze _,by simp,by simp,.inr (by simp;try omega),.inl ⟨by simp,rfl⟩,by simp,rfl,by simp,by simpa using hb,by simp⟩ ?_;clear Rs MM hsp;rintro⟨U,Y,Z⟩ ⟨f,rest,l,xs,hf,R4,Gx,h4,R,hO0,E,hnx,I,Q⟩;simp only at h4 R hO0 hnx I;cases rest with
   |nil=>
    rw[BP]at Q;simp only[zA,jJ]at Q;rw[Q]at m;rw[m];have Rt:xs.length=l.length:=by have:=zu List.length E;simpa[ZA]using this
    have hb1:(decide ((0:Int)<(xs.length:Int)))=!l.isEmpty:=by rw[Rt];cases l<;>simp
    have hb2:(decide (0<xs.length))=!l.isEmpty:=by rw[Rt];cases l<;>simp
    have K6:U 4=.sl 1 []\/U 4=.own 0 g.length 0:=by
     rcases h4 with⟨_,h4⟩|h4
     ·exact .inl h4
     ·exact .inr (by simpa using h4)
    rcases R with⟨h9,rfl⟩|⟨id,hid,h9,hb9⟩
    ·simp[ZA]at E;subst E;rcases K6 with K6|K6<;>simp[K6,h9,qo,ZA,f139]
    ·rcases K6 with K6|K6<;>simp[K6,h9,hb9,hb1,hb2,E,qo,f139]
   |cons w l'=>
    obtain⟨f',rfl⟩:∃f',f=f'+1:=⟨f-1,by simp at hf;omega⟩;simp only[z7]at hf R4 Gx h4;obtain⟨o,ho⟩:=jj (g.length-(l'.length+1));rw[ho]at Gx h4;have K6:U 4=.own 0 o (l'.length+1):=by
     rcases h4 with⟨h,_⟩|h
     ·cases h
     ·exact h
    have hol:o<g.length:=by omega
    have B:o<z.length:=by omega
    rw[zh hol]at Gx;injection Gx with hdw J
    have u:z[o]=[str w]:=by rw[hat o hol B,hdw]
    have hww:w.length+1<=zx:=hwl w (by rw[<-hdw];exact zk hol);have C:=fun Y' S=>cC SU w Y' S (by omega) rfl
    simp only[SU]at C;have T:(wD we w).2.length+1<=zx:=by have:=KE we w;omega
    have y:=fun Y' S=>kA yo (wD we w).2 Y' S (by omega)
    obtain⟨v4,hv4⟩:=jj (if l'.length=0 then O.sl 1 []else .own 0 (o+1) l'.length);have hs1:=fun Y' (hh:Y' 0=some _)=>sl1 Y' z o l'.length hh
    rw[hv4]at hs1;have n:=hs1 Y I;have W:o+1=g.length-l'.length:=by omega
    have A:l'=[]/\v4=.sl 1 []\/v4=.own 0 (g.length-l'.length) l'.length:=by
     rw[<-hv4,<-W];by_cases h:l'.length=0
     ·exact .inl ⟨qj.1 h,zf h⟩
     ·exact .inr (zc h)
    have X:JX v4<l'.length+1:=by rcases A with⟨_,h⟩|h<;>rw[h]<;>simp[JX]
    have hl4:Yt prog 34 v4=some (int l'.length):=by
     rcases A with⟨h1,h⟩|h
     ·subst h1;rw[h];simp
     ·rw[h];simp
    rw[W]at J;have pT:=fun c R=>qU.yS (Y:=Y) (Z:=Z) (v:=U 9) (xs:=xs) (P:=prog) (t:=160) (c:=c) R aJ aK aL aM rfl (by omega) (by unfold maxLen;unfold zx at D;omega) (by unfold zx at D;omega)
    by_cases hA:(wD we w).1=[]/\yo (wD we w).2=true
    ·have K:kh w l'=some (ez,l'):=by unfold kh;rw[zf hA]
     have i:yw g.length g=(yw f' l').map ((l++[ez])++·):=by rw[Q];simp only[yw,K];cases yw f' l'<;>simp
     have Ru:=pT [str jm,int 0,int 0,int 0,int 0,.nil,int 0,int 0,int 0,int 0,.nil] R;obtain⟨hA1,hA2⟩:=hA;simp only[jm]at Ru;simp[K6,I,B,u,C,y,n,hA1,hA2,Ru,zS,qn,zp,zy,zo];have n0:¬0=Z:=by omega
     have n1:¬0=Z+1:=by omega
     have n2:¬0=Z+2:=by omega
     have N:=fun Y'=>yi R Y' 0 hO0
     exact⟨ZB (v4:=v4) (c:=ez) (f':=f') (l':=l') (l:=l) (xs:=xs) (by omega) (by omega) J (by simp) A (by simpa using qU.after) (by simp<;>omega) rfl E (by simp) (by simp[N,n0,n1,n2,I]) i,by simpa[JX]using X⟩
    have n0:¬0=Z:=by omega
    have n1:¬0=Z+1:=by omega
    have n2:¬0=Z+2:=by omega
    have N:=fun Y'=>yi R Y' 0 hO0
    by_cases hE:(wD we w).1=[]
    ·have F:((wD we w).1==[])=true:=by simpa using hE
     have G:(wD we w).1.isEmpty=true:=by simpa using hE
     have H:((wD we w).1 != [])=false:=by simpa using hE
     have hOp:yo (wD we w).2=false:=by
      cases h:yo (wD we w).2
      ·rfl
      ·exact absurd ⟨hE,h⟩ hA
     have q:=fun Y' S=>MN (wD we w).2 T Y' S
     simp only[jR,Part.V]at q;cases d:(zR (wD we w).2).2
     ·have K:kh w l'=none:=by unfold kh;rw[zc hA,zc (fun h=>h.1 hE),zc (by rw[d];simp)]
      have i:yw g.length g=none:=by rw[Q];simp only[yw,K];rfl
      rw[i]at m;simp[K6,I,B,u,C,y,n,F,G,H,hOp,q,d,zS,qn,m,ZA,qo,f139]
     ·have K:kh w l'=some (JW (wD we w).1 (zR (wD we w).2).1,l'):=by unfold kh;rw[zc hA,zc (fun h=>h.1 hE),zf d]
      have i:yw g.length g=(yw f' l').map ((l++[JW (wD we w).1 (zR (wD we w).2).1])++·):=by rw[Q];simp only[yw,K];cases yw f' l'<;>simp
      have j:=qU.yS (P:=prog) (t:=160) (c:=[str (wD we w).1,int (zR (wD we w).2).1.n0,int (zR (wD we w).2).1.n1,int (zR (wD we w).2).1.n2,int (zR (wD we w).2).1.has,.sl 1 (zH (zR (wD we w).2).1.pre),int 0,int 0,int 0,int 0,.nil]) (R.more (some ⟨166,5,false,[(zR (wD we w).2).1.V]⟩)) aJ aK aL aM rfl (by omega) (by unfold maxLen;unfold zx at D;omega) (by unfold zx at D;omega);simp only[Part.V]at j;simp[K6,I,B,u,C,y,n,F,G,H,hOp,q,d,j,zS,qn,zp,zy,zo];exact⟨ZB (v4:=v4) (c:=JW (wD we w).1 (zR (wD we w).2).1) (f':=f') (l':=l') (l:=l) (xs:=xs) (by omega) (by omega) J (by simp) A (by simpa using qU.after) (by simp<;>omega) rfl E (by simp) (by simp[N,n0,n1,n2,I]) i,by simpa[JX]using X⟩
    have F:=yq hE;have G:(wD we w).1.isEmpty=false:=by simpa using hE
    have H:((wD we w).1 != [])=true:=by simpa using hE
    by_cases hR:(wD we w).2=[]
    ·have L:((wD we w).2==[])=true:=by simpa using hR
     have M:(wD we w).2.isEmpty=true:=by simpa using hR
     by_cases hL:l'=[]
     ·have hLz:l'.length=0:=by rw[hL];rfl
      have hLp:¬0<l'.length:=by omega
      have hLq:¬(0:Int)<(l'.length:Int):=by omega
      have q:=fun Y' S=>MN (wD we w).2 T Y' S
      simp only[jR,Part.V]at q;cases d:(zR (wD we w).2).2
      ·have K:kh w l'=none:=by unfold kh;rw[zc hA,zc (fun h=>h.2.2 hL),zc (by rw[d];simp)]
       have i:yw g.length g=none:=by rw[Q];simp only[yw,K];rfl
       rw[i]at m;simp[K6,I,B,u,C,y,n,F,G,H,L,M,hl4,hLp,hLq,q,d,zS,qn,m,ZA,qo,f139]
      ·have K:kh w l'=some (JW (wD we w).1 (zR (wD we w).2).1,l'):=by unfold kh;rw[zc hA,zc (fun h=>h.2.2 hL),zf d]
       have i:yw g.length g=(yw f' l').map ((l++[JW (wD we w).1 (zR (wD we w).2).1])++·):=by rw[Q];simp only[yw,K];cases yw f' l'<;>simp
       have j:=qU.yS (P:=prog) (t:=160) (c:=[str (wD we w).1,int (zR (wD we w).2).1.n0,int (zR (wD we w).2).1.n1,int (zR (wD we w).2).1.n2,int (zR (wD we w).2).1.has,.sl 1 (zH (zR (wD we w).2).1.pre),int 0,int 0,int 0,int 0,.nil]) (R.more (some ⟨166,5,false,[(zR (wD we w).2).1.V]⟩)) aJ aK aL aM rfl (by omega) (by unfold maxLen;unfold zx at D;omega) (by unfold zx at D;omega);simp only[Part.V]at j;simp[K6,I,B,u,C,y,n,F,G,H,L,M,hl4,hLp,hLq,q,d,j,zS,qn,zp,zy,zo];exact⟨ZB (v4:=v4) (c:=JW (wD we w).1 (zR (wD we w).2).1) (f':=f') (l':=l') (l:=l) (xs:=xs) (by omega) (by omega) J (by simp) A (by simpa using qU.after) (by simp<;>omega) rfl E (by simp) (by simp[N,n0,n1,n2,I]) i,by simpa[JX]using X⟩
     ·obtain⟨r,l2,rfl⟩:∃r l2,l'=r::l2:=by
       cases l' with
       |nil=>exact absurd rfl hL
       |cons r l2=>exact⟨r,l2,rfl⟩
      have hv:v4=.own 0 (o+1) (l2.length+1):=by
       rcases A with⟨h,_⟩|h
       ·cases h
       ·rw[h,<-W];rfl
      subst hv;simp only[z7]at hf R4 ho K6 n W J X;have Gz:o+1<g.length:=by omega
      have GA:o+1<z.length:=by omega
      rw[<-W,zh Gz]at J;injection J with Rv Rw
      have D8:z[o+1]=[str r]:=by rw[hat (o+1) Gz GA,Rv]
      have ho2:o+1+1=g.length-l2.length:=by omega
      obtain⟨v5,hv5⟩:=jj (if l2.length=0 then O.sl 1 []else .own 0 (o+1+1) l2.length);have GB:=sl1 Y z (o+1) l2.length I;rw[hv5]at GB;have Rx:l2=[]/\v5=.sl 1 []\/v5=.own 0 (g.length-l2.length) l2.length:=by
       rw[<-hv5,<-ho2];by_cases h:l2.length=0
       ·exact .inl ⟨qj.1 h,zf h⟩
       ·exact .inr (zc h)
      have hmu5:JX v5<l2.length+1+1:=by rcases Rx with⟨_,h⟩|h<;>rw[h]<;>simp[JX];omega
      rw[ho2]at Rw;have Mz:(0:Int)<(l2.length:Int)+1:=by omega
      have D9:(0:Int)<(l2.length:Int)+1+1:=by omega
      have q:=fun Y' S=>MN r (hwl r (by rw[<-Rv];exact zk Gz)) Y' S
      simp only[jR,Part.V]at q;cases d:(zR r).2
      ·have K:kh w (r::l2)=none:=by unfold kh;rw[zc hA,zf ⟨hE,hR,by simp⟩];simp only[d];rfl
       have i:yw g.length g=none:=by rw[Q];simp only[yw,K];rfl
       rw[i]at m;simp[K6,I,B,u,C,y,n,GB,GA,D8,F,G,H,L,M,Mz,D9,q,d,zS,qn,m,ZA,qo,f139]
      ·have K:kh w (r::l2)=some (JW (wD we w).1 (zR r).1,l2):=by unfold kh;rw[zc hA,zf ⟨hE,hR,by simp⟩];simp only[d,qI]
       have i:yw g.length g=(yw f' l2).map ((l++[JW (wD we w).1 (zR r).1])++·):=by rw[Q];simp only[yw,K];cases yw f' l2<;>simp
       have j:=qU.yS (P:=prog) (t:=160) (c:=[str (wD we w).1,int (zR r).1.n0,int (zR r).1.n1,int (zR r).1.n2,int (zR r).1.has,.sl 1 (zH (zR r).1.pre),int 0,int 0,int 0,int 0,.nil]) (R.more (some ⟨166,5,false,[(zR r).1.V]⟩)) aJ aK aL aM rfl (by omega) (by unfold maxLen;unfold zx at D;omega) (by unfold zx at D;omega);simp only[Part.V]at j;simp[K6,I,B,u,C,y,n,GB,GA,D8,F,G,H,L,M,Mz,D9,q,d,j,zS,qn,zp,zy,zo];exact⟨ZB (v4:=v5) (c:=JW (wD we w).1 (zR r).1) (f':=f') (l':=l2) (l:=l) (xs:=xs) (by omega) (by omega) Rw (by simp) Rx (by simpa using qU.after) (by simp<;>omega) rfl E (by simp) (by simp[N,n0,n1,n2,I]) i,by simpa[JX]using hmu5⟩
    ·have L:=yq hR;have M:(wD we w).2.isEmpty=false:=by simpa using hR
     have q:=fun Y' S=>MN (wD we w).2 T Y' S
     simp only[jR,Part.V]at q;cases d:(zR (wD we w).2).2
     ·have K:kh w l'=none:=by unfold kh;rw[zc hA,zc (fun h=>hR h.2.1),zc (by rw[d];simp)]
      have i:yw g.length g=none:=by rw[Q];simp only[yw,K];rfl
      rw[i]at m;simp[K6,I,B,u,C,y,n,F,G,H,L,M,q,d,zS,qn,m,ZA,qo,f139]
     ·have K:kh w l'=some (JW (wD we w).1 (zR (wD we w).2).1,l'):=by unfold kh;rw[zc hA,zc (fun h=>hR h.2.1),zf d]
      have i:yw g.length g=(yw f' l').map ((l++[JW (wD we w).1 (zR (wD we w).2).1])++·):=by rw[Q];simp only[yw,K];cases yw f' l'<;>simp
      have j:=qU.yS (P:=prog) (t:=160) (c:=[str (wD we w).1,int (zR (wD we w).2).1.n0,int (zR (wD we w).2).1.n1,int (zR (wD we w).2).1.n2,int (zR (wD we w).2).1.has,.sl 1 (zH (zR (wD we w).2).1.pre),int 0,int 0,int 0,int 0,.nil]) (R.more (some ⟨166,5,false,[(zR (wD we w).2).1.V]⟩)) aJ aK aL aM rfl (by omega) (by unfold maxLen;unfold zx at D;omega) (by unfold zx at D;omega);simp only[Part.V]at j;simp[K6,I,B,u,C,y,n,F,G,H,L,M,q,d,j,zS,qn,zp,zy,zo];exact⟨ZB (v4:=v4) (c:=JW (wD we w).1 (zR (wD we w).2).1) (f':=f') (l':=l') (l:=l) (xs:=xs) (by omega) (by omega) J (by simp) A (by simpa using qU.after) (by simp<;>omega) rfl E (by simp) (by simp[N,n0,n1,n2,I]) i,by simpa[JX]using X⟩
  ·have h33:((g.length:Int)==3)=false:=by simp;omega
   simp[hb,h33];refine Wm (N8 g z) (fun st=>JX (st.U 4)) ⟨g.length,g,[],[],ze _,by simp,by simp,.inr (by simp;try omega),.inl ⟨by simp,rfl⟩,by simp,rfl,by simp,by simpa using hb,by simp⟩ ?_;clear Rs MM hsp;rintro⟨U,Y,Z⟩ ⟨f,rest,l,xs,hf,R4,Gx,h4,R,hO0,E,hnx,I,Q⟩;simp only at h4 R hO0 hnx I;cases rest with
   |nil=>
    rw[BP]at Q;simp only[zA,jJ]at Q;rw[Q]at m;rw[m];have Rt:xs.length=l.length:=by have:=zu List.length E;simpa[ZA]using this
    have hb1:(decide ((0:Int)<(xs.length:Int)))=!l.isEmpty:=by rw[Rt];cases l<;>simp
    have hb2:(decide (0<xs.length))=!l.isEmpty:=by rw[Rt];cases l<;>simp
    have K6:U 4=.sl 1 []\/U 4=.own 0 g.length 0:=by
     rcases h4 with⟨_,h4⟩|h4
     ·exact .inl h4
     ·exact .inr (by simpa using h4)
    rcases R with⟨h9,rfl⟩|⟨id,hid,h9,hb9⟩
    ·simp[ZA]at E;subst E;rcases K6 with K6|K6<;>simp[K6,h9,qo,ZA,f139]
    ·rcases K6 with K6|K6<;>simp[K6,h9,hb9,hb1,hb2,E,qo,f139]
   |cons w l'=>
    obtain⟨f',rfl⟩:∃f',f=f'+1:=⟨f-1,by simp at hf;omega⟩;simp only[z7]at hf R4 Gx h4;obtain⟨o,ho⟩:=jj (g.length-(l'.length+1));rw[ho]at Gx h4;have K6:U 4=.own 0 o (l'.length+1):=by
     rcases h4 with⟨h,_⟩|h
     ·cases h
     ·exact h
    have hol:o<g.length:=by omega
    have B:o<z.length:=by omega
    rw[zh hol]at Gx;injection Gx with hdw J
    have u:z[o]=[str w]:=by rw[hat o hol B,hdw]
    have hww:w.length+1<=zx:=hwl w (by rw[<-hdw];exact zk hol);have C:=fun Y' S=>cC SU w Y' S (by omega) rfl
    simp only[SU]at C;have T:(wD we w).2.length+1<=zx:=by have:=KE we w;omega
    have y:=fun Y' S=>kA yo (wD we w).2 Y' S (by omega)
    obtain⟨v4,hv4⟩:=jj (if l'.length=0 then O.sl 1 []else .own 0 (o+1) l'.length);have hs1:=fun Y' (hh:Y' 0=some _)=>sl1 Y' z o l'.length hh
    rw[hv4]at hs1;have n:=hs1 Y I;have W:o+1=g.length-l'.length:=by omega
    have A:l'=[]/\v4=.sl 1 []\/v4=.own 0 (g.length-l'.length) l'.length:=by
     rw[<-hv4,<-W];by_cases h:l'.length=0
     ·exact .inl ⟨qj.1 h,zf h⟩
     ·exact .inr (zc h)
    have X:JX v4<l'.length+1:=by rcases A with⟨_,h⟩|h<;>rw[h]<;>simp[JX]
    have hl4:Yt prog 34 v4=some (int l'.length):=by
     rcases A with⟨h1,h⟩|h
     ·subst h1;rw[h];simp
     ·rw[h];simp
    rw[W]at J;have pT:=fun c R=>qU.yS (Y:=Y) (Z:=Z) (v:=U 9) (xs:=xs) (P:=prog) (t:=160) (c:=c) R aJ aK aL aM rfl (by omega) (by unfold maxLen;unfold zx at D;omega) (by unfold zx at D;omega)
    by_cases hA:(wD we w).1=[]/\yo (wD we w).2=true
    ·have K:kh w l'=some (ez,l'):=by unfold kh;rw[zf hA]
     have i:yw g.length g=(yw f' l').map ((l++[ez])++·):=by rw[Q];simp only[yw,K];cases yw f' l'<;>simp
     have Ru:=pT [str jm,int 0,int 0,int 0,int 0,.nil,int 0,int 0,int 0,int 0,.nil] R;obtain⟨hA1,hA2⟩:=hA;simp only[jm]at Ru;simp[K6,I,B,u,C,y,n,hA1,hA2,Ru,zS,qn,zp,zy,zo];have n0:¬0=Z:=by omega
     have n1:¬0=Z+1:=by omega
     have n2:¬0=Z+2:=by omega
     have N:=fun Y'=>yi R Y' 0 hO0
     exact⟨ZB (v4:=v4) (c:=ez) (f':=f') (l':=l') (l:=l) (xs:=xs) (by omega) (by omega) J (by simp) A (by simpa using qU.after) (by simp<;>omega) rfl E (by simp) (by simp[N,n0,n1,n2,I]) i,by simpa[JX]using X⟩
    have n0:¬0=Z:=by omega
    have n1:¬0=Z+1:=by omega
    have n2:¬0=Z+2:=by omega
    have N:=fun Y'=>yi R Y' 0 hO0
    by_cases hE:(wD we w).1=[]
    ·have F:((wD we w).1==[])=true:=by simpa using hE
     have G:(wD we w).1.isEmpty=true:=by simpa using hE
     have H:((wD we w).1 != [])=false:=by simpa using hE
     have hOp:yo (wD we w).2=false:=by
      cases h:yo (wD we w).2
      ·rfl
      ·exact absurd ⟨hE,h⟩ hA
     have q:=fun Y' S=>MN (wD we w).2 T Y' S
     simp only[jR,Part.V]at q;cases d:(zR (wD we w).2).2
     ·have K:kh w l'=none:=by unfold kh;rw[zc hA,zc (fun h=>h.1 hE),zc (by rw[d];simp)]
      have i:yw g.length g=none:=by rw[Q];simp only[yw,K];rfl
      rw[i]at m;simp[K6,I,B,u,C,y,n,F,G,H,hOp,q,d,zS,qn,m,ZA,qo,f139]
     ·have K:kh w l'=some (JW (wD we w).1 (zR (wD we w).2).1,l'):=by unfold kh;rw[zc hA,zc (fun h=>h.1 hE),zf d]
      have i:yw g.length g=(yw f' l').map ((l++[JW (wD we w).1 (zR (wD we w).2).1])++·):=by rw[Q];simp only[yw,K];cases yw f' l'<;>simp
      have j:=qU.yS (P:=prog) (t:=160) (c:=[str (wD we w).1,int (zR (wD we w).2).1.n0,int (zR (wD we w).2).1.n1,int (zR (wD we w).2).1.n2,int (zR (wD we w).2).1.has,.sl 1 (zH (zR (wD we w).2).1.pre),int 0,int 0,int 0,int 0,.nil]) (R.more (some ⟨166,5,false,[(zR (wD we w).2).1.V]⟩)) aJ aK aL aM rfl (by omega) (by unfold maxLen;unfold zx at D;omega) (by unfold zx at D;omega);simp only[Part.V]at j;simp[K6,I,B,u,C,y,n,F,G,H,hOp,q,d,j,zS,qn,zp,zy,zo];exact⟨ZB (v4:=v4) (c:=JW (wD we w).1 (zR (wD we w).2).1) (f':=f') (l':=l') (l:=l) (xs:=xs) (by omega) (by omega) J (by simp) A (by simpa using qU.after) (by simp<;>omega) rfl E (by simp) (by simp[N,n0,n1,n2,I]) i,by simpa[JX]using X⟩
    have F:=yq hE;have G:(wD we w).1.isEmpty=false:=by simpa using hE
    have H:((wD we w).1 != [])=true:=by simpa using hE
    by_cases hR:(wD we w).2=[]
    ·have L:((wD we w).2==[])=true:=by simpa using hR
     have M:(wD we w).2.isEmpty=true:=by simpa using hR
     by_cases hL:l'=[]
     ·have hLz:l'.length=0:=by rw[hL];rfl
      have hLp:¬0<l'.length:=by omega
      have hLq:¬(0:Int)<(l'.length:Int):=by omega
      have q:=fun Y' S=>MN (wD we w).2 T Y' S
      simp only[jR,Part.V]at q;cases d:(zR (wD we w).2).2
      ·have K:kh w l'=none:=by unfold kh;rw[zc hA,zc (fun h=>h.2.2 hL),zc (by rw[d];simp)]
       have i:yw g.length g=none:=by rw[Q];simp only[yw,K];rfl
       rw[i]at m;simp[K6,I,B,u,C,y,n,F,G,H,L,M,hl4,hLp,hLq,q,d,zS,qn,m,ZA,qo,f139]
      ·have K:kh w l'=some (JW (wD we w).1 (zR (wD we w).2).1,l'):=by unfold kh;rw[zc hA,zc (fun h=>h.2.2 hL),zf d]
       have i:yw g.length g=(yw f' l').map ((l++[JW (wD we w).1 (zR (wD we w).2).1])++·):=by rw[Q];simp only[yw,K];cases yw f' l'<;>simp
       have j:=qU.yS (P:=prog) (t:=160) (c:=[str (wD we w).1,int (zR (wD we w).2).1.n0,int (zR (wD we w).2).1.n1,int (zR (wD we w).2).1.n2,int (zR (wD we w).2).1.has,.sl 1 (zH (zR (wD we w).2).1.pre),int 0,int 0,int 0,int 0,.nil]) (R.more (some ⟨166,5,false,[(zR (wD we w).2).1.V]⟩)) aJ aK aL aM rfl (by omega) (by unfold maxLen;unfold zx at D;omega) (by unfold zx at D;omega);simp only[Part.V]at j;simp[K6,I,B,u,C,y,n,F,G,H,L,M,hl4,hLp,hLq,q,d,j,zS,qn,zp,zy,zo];exact⟨ZB (v4:=v4) (c:=JW (wD we w).1 (zR (wD we w).2).1) (f':=f') (l':=l') (l:=l) (xs:=xs) (by omega) (by omega) J (by simp) A (by simpa using qU.after) (by simp<;>omega) rfl E (by simp) (by simp[N,n0,n1,n2,I]) i,by simpa[JX]using X⟩
     ·obtain⟨r,l2,rfl⟩:∃r l2,l'=r::l2:=by
       cases l' with
       |nil=>exact absurd rfl hL
       |cons r l2=>exact⟨r,l2,rfl⟩
      have hv:v4=.own 0 (o+1) (l2.length+1):=by
       rcases A with⟨h,_⟩|h
       ·cases h
       ·rw[h,<-W];rfl
      subst hv;simp only[z7]at hf R4 ho K6 n W J X;have Gz:o+1<g.length:=by omega
      have GA:o+1<z.length:=by omega
      rw[<-W,zh Gz]at J;injection J with Rv Rw
      have D8:z[o+1]=[str r]:=by rw[hat (o+1) Gz GA,Rv]
      have ho2:o+1+1=g.length-l2.length:=by omega
      obtain⟨v5,hv5⟩:=jj (if l2.length=0 then O.sl 1 []else .own 0 (o+1+1) l2.length);have GB:=sl1 Y z (o+1) l2.length I;rw[hv5]at GB;have Rx:l2=[]/\v5=.sl 1 []\/v5=.own 0 (g.length-l2.length) l2.length:=by
       rw[<-hv5,<-ho2];by_cases h:l2.length=0
       ·exact .inl ⟨qj.1 h,zf h⟩
       ·exact .inr (zc h)
      have hmu5:JX v5<l2.length+1+1:=by rcases Rx with⟨_,h⟩|h<;>rw[h]<;>simp[JX];omega
      rw[ho2]at Rw;have Mz:(0:Int)<(l2.length:Int)+1:=by omega
      have D9:(0:Int)<(l2.length:Int)+1+1:=by omega
      have q:=fun Y' S=>MN r (hwl r (by rw[<-Rv];exact zk Gz)) Y' S
      simp only[jR,Part.V]at q;cases d:(zR r).2
      ·have K:kh w (r::l2)=none:=by unfold kh;rw[zc hA,zf ⟨hE,hR,by simp⟩];simp only[d];rfl
       have i:yw g.length g=none:=by rw[Q];simp only[yw,K];rfl
       rw[i]at m;simp[K6,I,B,u,C,y,n,GB,GA,D8,F,G,H,L,M,Mz,D9,q,d,zS,qn,m,ZA,qo,f139]
      ·have K:kh w (r::l2)=some (JW (wD we w).1 (zR r).1,l2):=by unfold kh;rw[zc hA,zf ⟨hE,hR,by simp⟩];simp only[d,qI]
       have i:yw g.length g=(yw f' l2).map ((l++[JW (wD we w).1 (zR r).1])++·):=by rw[Q];simp only[yw,K];cases yw f' l2<;>simp
       have j:=qU.yS (P:=prog) (t:=160) (c:=[str (wD we w).1,int (zR r).1.n0,int (zR r).1.n1,int (zR r).1.n2,int (zR r).1.has,.sl 1 (zH (zR r).1.pre),int 0,int 0,int 0,int 0,.nil]) (R.more (some ⟨166,5,false,[(zR r).1.V]⟩)) aJ aK aL aM rfl (by omega) (by unfold maxLen;unfold zx at D;omega) (by unfold zx at D;omega);simp only[Part.V]at j;simp[K6,I,B,u,C,y,n,GB,GA,D8,F,G,H,L,M,Mz,D9,q,d,j,zS,qn,zp,zy,zo];exact⟨ZB (v4:=v5) (c:=JW (wD we w).1 (zR r).1) (f':=f') (l':=l2) (l:=l) (xs:=xs) (by omega) (by omega) Rw (by simp) Rx (by simpa using qU.after) (by simp<;>omega) rfl E (by simp) (by simp[N,n0,n1,n2,I]) i,by simpa[JX]using hmu5⟩
    ·have L:=yq hR;have M:(wD we w).2.isEmpty=false:=by simpa using hR
     have q:=fun Y' S=>MN (wD we w).2 T Y' S
     simp only[jR,Part.V]at q;cases d:(zR (wD we w).2).2
     ·have K:kh w l'=none:=by unfold kh;rw[zc hA,zc (fun h=>hR h.2.1),zc (by rw[d];simp)]
      have i:yw g.length g=none:=by rw[Q];simp only[yw,K];rfl
      rw[i]at m;simp[K6,I,B,u,C,y,n,F,G,H,L,M,q,d,zS,qn,m,ZA,qo,f139]
     ·have K:kh w l'=some (JW (wD we w).1 (zR (wD we w).2).1,l'):=by unfold kh;rw[zc hA,zc (fun h=>hR h.2.1),zf d]
      have i:yw g.length g=(yw f' l').map ((l++[JW (wD we w).1 (zR (wD we w).2).1])++·):=by rw[Q];simp only[yw,K];cases yw f' l'<;>simp
      have j:=qU.yS (P:=prog) (t:=160) (c:=[str (wD we w).1,int (zR (wD we w).2).1.n0,int (zR (wD we w).2).1.n1,int (zR (wD we w).2).1.n2,int (zR (wD we w).2).1.has,.sl 1 (zH (zR (wD we w).2).1.pre),int 0,int 0,int 0,int 0,.nil]) (R.more (some ⟨166,5,false,[(zR (wD we w).2).1.V]⟩)) aJ aK aL aM rfl (by omega) (by unfold maxLen;unfold zx at D;omega) (by unfold zx at D;omega);simp only[Part.V]at j;simp[K6,I,B,u,C,y,n,F,G,H,L,M,q,d,j,zS,qn,zp,zy,zo];exact⟨ZB (v4:=v4) (c:=JW (wD we w).1 (zR (wD we w).2).1) (f':=f') (l':=l') (l:=l) (xs:=xs) (by omega) (by omega) J (by simp) A (by simpa using qU.after) (by simp<;>omega) rfl E (by simp) (by simp[N,n0,n1,n2,I]) i,by simpa[JX]using X⟩
theorem cO:zg prog 139 (zi false [] (Vn ua)):=
 xl (fn:=f139) SX (qE func139) false [] _ fun args r h w S vs a=>by obtain⟨l,rfl,Y,rfl⟩:=zK h;obtain⟨b,c,d⟩:=eA l Y;exact⟨_,b,a,by simp[f139],c,d⟩
noncomputable def vt (s:qN) (c:Cut):Bool:=decide (wv s.lo c<=0)&&(s.y7||decide (wv c s.hi<0))
def qN.small(s:qN):Prop:=s.lo.v.small/\s.hi.v.small
theorem Wr(x y:Cut)(Y:Hp)(Z:Nat)(a:x.v.small)(b:y.v.small):qA [.g jz,.g jz] (AP fun v w=>int (wv v w)) [.agg x.V,.agg y.V] Y Z=some (int (wv x y),Y,Z):=tU x y (.agg x.V) (.agg y.V) Y Z (tZ x) (tZ y) (by simp only[zw,N4]) a b
noncomputable abbrev G8:Ctx:=zW prog [(181,qA [.g jz,.g jz] (AP fun v w=>int (wv v w)))]
theorem N9:AM.Good G8 (fun g=>[181].contains g):=qx mixed ⟨xF,fun _=>yR _ _,trivial⟩
theorem Fc:zg prog 222 (yz G8 f222):=kM N9 func222
theorem Oa(s:qN)(c:Cut)(hs:s.small)(a:c.v.small)(Y:Hp)(Z id:Nat)(hid:id<Z)(b:Y id=some ⟨174,5,false,[c.V]⟩) :
  yz G8 f222 [.agg s.V,.ref id 0 0] Y Z=some (q8 (vt s c),qt Y Z (some ⟨176,11,false,[s.V]⟩),Z+1):=by
 unfold yz;rw[zf (by simp[f222])];refine y0 rfl ?_;have d:=fun Y Z=>Wr s.lo c Y Z hs.1 a
 have e:=fun Y Z=>Wr c s.hi Y Z a hs.2
 have f:¬id=Z:=by omega
 simp only[Cut.V]at d e b;by_cases g:wv s.lo c<=0<;>cases h:s.y7 <;>
  simp[qN.V,Cut.V,d,e,b,f,g,h,vt,f222]
noncomputable def eB (c:Cut):Nat->List qN->Int
 |_,[]=>-1
 |k,s::l=>if vt s c=true then k else eB c (k+1) l
theorem BQ(c:Cut):∀(l:List qN) (k:Nat),decide (0<=eB c k l)=l.any (vt · c)
 |[],k=>by simp[eB]
 |s::l,k=>by
  by_cases h:vt s c=true
  ·have e:eB c k (s::l)=k:=by simp only[eB,zf h]
   rw[e,jl,h];simp
  ·have e:eB c k (s::l)=eB c (k+1) l:=by simp only[eB,zc h]
   rw[e,BQ c l (k+1),jl,Bool.eq_false_iff.2 h];rfl
noncomputable abbrev SY:Ctx:=zW prog [(222,yz G8 f222)]
theorem SZ:Gd SY:=qc mixed ⟨Fc,trivial⟩
theorem I0:zg prog 215 (yz SY f215):=kM SZ func215
def R1(id:Nat):O:=.fn (.func 222) [] [.ref id 0 0]
def Ob(r:O)(Y:Hp)(Z:Nat)(x:O)(Y':Hp)(a:Nat):Prop:=x=r/\Z<=a/\∀j,j<Z->Y' j=Y j
theorem S3(l:List qN)(c:Cut)(y:l.length<=zx)(hs:∀s∈l,s.small)(z:c.v.small)(i:Hp)(Z0 id:Nat)(hid:id<Z0)(A:i id=some ⟨174,5,false,[c.V]⟩) :
  ∃x Y' u,yz SY f215 [.sl 11 (z6 l),R1 id] i Z0=some (x,Y',u)/\Ob (int (eB c 0 l)) i Z0 x Y' u:=by
 unfold yz;rw[zf (by simp[f215])];refine qz rfl ?_;unfold zx at y;have f:(z6 l).length=l.length:=by simp[z6]
 simp[R1,f];refine zT (fun k U Y Z=>U 0=.sl 11 (z6 l)/\U 1=R1 id/\U 7=int l.length/\U 8=int k/\Z0<=Z/\(∀j,j<Z0->Y j=i j)/\eB c 0 l=eB c k (l.drop k)) l.length ⟨by simp,by simp[R1],by simp,by simp,ze _,fun _ _=>rfl,by simp⟩ ?_;rintro k U Y Z B ⟨n,o,p,q,r,d,e⟩;by_cases b:k<l.length
 ·have w:=qH k;have a:=Oa l[k] c (hs _ (zk b)) z Y Z id (by omega) (by rw[d id hid];exact A);have g:∀h:k<(z6 l).length,(z6 l)[k]=l[k].V:=fun h=>by simp[z6]
  simp only[qN.V,Cut.V,qX,kj]at a g;rw[zh b]at e;simp only[eB]at e;cases m:vt l[k] c
  ·rw[m,zc (by simp)]at e;rw[m]at a;simp[n,o,p,q,R1,b,f,g,a,w];exact⟨b,by omega,fun j t=>by rw[zm _ _ _ _ (by omega)];exact d j t,e⟩
  ·rw[m,zf rfl]at e;rw[m]at a;simp[n,o,p,q,R1,b,f,g,a,w,f215];exact⟨by rw[e],by omega,fun j t=>by rw[zm _ _ _ _ (by omega)];exact d j t⟩
 ·obtain rfl:k=l.length:=by omega
  rw[zq]at e;simp only[eB]at e;simp[n,o,p,q,f215];exact⟨by rw[e],r,d⟩
noncomputable abbrev S5:Ctx:=zW prog [(215,yz SY f215)]
theorem S6:Gd S5:=qc mixed ⟨I0,trivial⟩
theorem I1:zg prog 165 (yz S5 f165):=kM S6 func165
noncomputable def yt (l:List qN) (c:Cut):Bool:=l.any (vt · c)
theorem S7(l:List qN)(c:Cut)(e:l.length<=zx)(hs:∀s∈l,s.small)(f:c.v.small)(a:Hp)(Z0 id:Nat)(hid:id<Z0)(g:a id=some ⟨174,5,false,[c.V]⟩) :
  ∃x Y' b,yz S5 f165 [.sl 11 (z6 l),R1 id] a Z0=some (x,Y',b)/\Ob (q8 (yt l c)) a Z0 x Y' b:=by
 unfold yz;rw[zf (by simp[f165])];refine qz rfl ?_;obtain⟨x,Y',b,d,h,i,j⟩:=S3 l c e hs f a Z0 id hid g;subst h;have k:=BQ c l 0;simp only[R1]at d;simp[R1,d,k,Ob,yt,i,f165];exact j
noncomputable abbrev Ccov:Ctx:=zW prog [(165,yz S5 f165)]
theorem S8:Gd Ccov:=qc mixed ⟨I1,trivial⟩
def yK(l:List qN):Prop:=l.length<=zx/\∀s∈l,s.small
theorem mv{a b:qN}(h:a.V=b.V):a=b:=by obtain⟨⟨⟨s,t,u,v⟩,w⟩,⟨⟨x,y,z,A⟩,g⟩,i⟩:=a;obtain⟨⟨⟨B,C,D,E⟩,F⟩,⟨⟨G,H,I,J⟩,j⟩,k⟩:=b;simp only[qN.V,Cut.V,qX,kj,zl,zM]at h;obtain⟨l,m,n,c,o,p,q,r,d,e,f⟩:=h;injection c with _ c;injection d with _ d;rw[qS l,qS m,qS n,jI c,Ym o,qS p,qS q,qS r,jI d,Ym e,Ym f]
theorem xd{a b:List qN}(h:z6 a=z6 b):a=b:=vw (fun _ _ e=>mv e) h
noncomputable def FRC (f:List qN->Cut->O):zb->Option O:=qu (α:=List qN×Cut) (fun a=>[.sl 11 (z6 a.1),.agg a.2.V]) (fun a=>yK a.1/\a.2.v.small) (fun a=>f a.1 a.2)
theorem zbV:∀a b:List qN×Cut,[O.sl 11 (z6 a.1),.agg a.2.V]=[O.sl 11 (z6 b.1),.agg b.2.V]->a=b:=by rintro⟨f,g⟩ ⟨h,i⟩ e;simp only[zl,zM]at e;obtain⟨c,d⟩:=e;injection c with _ c;injection d with d;rw[xd c,Zl d]
theorem BR(l:List qN)(c:Cut)(a:yK l)(d:c.v.small):zt Ccov f182 [.sl 11 (z6 l),.agg c.V]=some (q8 (yt l c)):=by refine zn rfl ?_;obtain⟨x,Y',f,b,e,g,h⟩:=S7 l c a.1 a.2 d (qt (fun _=>none) 0 (some ⟨174,5,false,[c.V]⟩)) 1 0 (by omega) (by simp);subst e;simp only[R1,Cut.V]at b;simp[Cut.V,b,wc,f182]
theorem ub:zg prog 182 (qA [.s 11 jo,.g jz] (FRC fun l c=>q8 (yt l c))):=
 wT (fn:=f182) S8 (qE func182) _ _ fun args r h=>by obtain⟨⟨l,c⟩,rfl,⟨a,b⟩,rfl⟩:=zK h;exact⟨by simp[f182],_,BR l c a b,qg.refl _⟩
structure TO {α:Type} (c:α->α->Int):Prop where
 refl:∀x,c x x=0
 flip:∀x y,c x y<0↔0<c y x
 tr:∀x y z,c x y<=0->c y z<=0->c x z<=0
theorem TO.le{α:Type}{c:α->α->Int}(h:TO c)(x y:α):c x y<=0↔0<=c y x:=by have:=h.flip y x;omega
theorem TO.eq{α:Type}{c:α->α->Int}(h:TO c)(x y:α):c x y=0↔c y x=0:=by have a:=h.flip y x;have b:=h.flip x y;omega
theorem TO.trans{α:Type}{c:α->α->Int}(h:TO c){x y z:α}(e:c x y<0)(b:c y z<0):c x z<0:=by
 have d:=h.tr x y z (by omega) (by omega);rcases Yk d with a|a
 ·exact a
 ·have f:=(h.eq x z).1 a;have g:=h.tr z x y (by omega) (by omega);have:=(h.flip y z).1 b;omega
theorem TO.ntrans{α:Type}{c:α->α->Int}(h:TO c){x y z:α}(a:0<=c x y)(b:0<=c y z):0<=c x z:=
 (h.le z x).1 (h.tr z y x ((h.le z y).2 b) ((h.le y x).2 a))
theorem TO.pull{α a:Type}{c:a->a->Int}(h:TO c)(f:α->a):TO fun x y=>c (f x) (f y):=⟨fun _=>h.refl _,fun _ _=>h.flip _ _,fun _ _ _=>h.tr _ _ _⟩
def xP{α:Type}(c d:α->α->Int)(x y:α):Int:=if c x y=0 then d x y else c x y
theorem TO.lex{α:Type}{c d:α->α->Int}(f:TO c)(hd:TO d):TO (xP c d) where
 refl x:=by simp[xP,f.refl,hd.refl]
 flip x y:=by
  unfold xP;have g:=f.flip x y;have i:=f.flip y x;have l:=hd.flip x y;by_cases h:c x y=0
  ·rw[zf h,zf ((f.eq x y).1 h)];exact l
  ·rw[zc h,zc (fun e=>h ((f.eq x y).2 e))];exact g
 tr x y z:=by
  unfold xP;intro g i;by_cases a:c x y=0<;>by_cases b:c y z=0
  ·rw[zf a]at g;rw[zf b]at i;have j:=f.tr x y z (by omega) (by omega);have k:=f.tr z y x (by have:=(f.eq y z).1 b;omega) (by have:=(f.eq x y).1 a;omega);have m:=(f.le z x).1 k;rw[zf (by omega)];exact hd.tr x y z g i
  ·rw[zc b]at i;have j:=f.tr x y z (by omega) i;by_cases e:c x z=0
   ·exfalso;have k:=f.tr z x y (by have:=(f.eq x z).1 e;omega) (by omega);have:=(f.flip y z).1 (by omega);omega
   ·rw[zc e];exact j
  ·rw[zc a]at g;have j:=f.tr x y z g (by omega);by_cases e:c x z=0
   ·exfalso;have k:=f.tr y z x (by omega) (by have:=(f.eq x z).1 e;omega);have:=(f.flip x y).1 (by omega);omega
   ·rw[zc e];exact j
  ·rw[zc a]at g;rw[zc b]at i;have:=f.trans (x:=x) (y:=y) (z:=z) (by omega) (by omega);rw[zc (by omega)];omega
theorem iG{α:Type}{c:α->α->Int}(h:TO c):TO (w7 c) where
 refl l:=by
  induction l with
  |nil=>rfl
  |cons x l f=>simp[w7,h.refl,f]
 flip a b:=by
  induction a generalizing b with
  |nil=>cases b<;>simp[w7]
  |cons x a f=>
   cases b with
   |nil=>simp[w7]
   |cons y b=>
    simp only[w7];by_cases e:c x y=0
    ·rw[zf e,zf ((h.eq x y).1 e)];exact f b
    ·rw[zc e,zc (fun m=>e ((h.eq x y).2 m))];exact h.flip x y
 tr a b d:=by
  induction a generalizing b d with
  |nil=>cases d<;>simp[w7]
  |cons x a f=>
   cases b with
   |nil=>simp[w7]
   |cons y b=>
    cases d with
    |nil=>simp[w7]
    |cons z d=>
     simp only[w7];intro g i;by_cases p:c x y=0<;>by_cases q:c y z=0
     ·rw[zf p]at g;rw[zf q]at i;have j:=h.tr x y z (by omega) (by omega);have k:=h.tr z y x (by have:=(h.eq y z).1 q;omega) (by have:=(h.eq x y).1 p;omega);have n:=(h.le z x).1 k;rw[zf (by omega)];exact f b d g i
     ·rw[zc q]at i;have j:=h.tr x y z (by omega) i;by_cases e:c x z=0
      ·exfalso;have k:=h.tr z x y (by have:=(h.eq x z).1 e;omega) (by omega);have:=(h.flip y z).1 (by omega);omega
      ·rw[zc e];exact j
     ·rw[zc p]at g;have j:=h.tr x y z g (by omega);by_cases e:c x z=0
      ·exfalso;have k:=h.tr y z x (by omega) (by have:=(h.eq x z).1 e;omega);have:=(h.flip x y).1 (by omega);omega
      ·rw[zc e];exact j
     ·rw[zc p]at g;rw[zc q]at i;have:=h.trans (x:=x) (y:=y) (z:=z) (by omega) (by omega);rw[zc (by omega)];omega
theorem ZK:TO wA:=⟨fun x=>by simp[wA],fun x y=>by unfold wA;split<;>split<;>(try split)<;>omega,fun x y z=>by unfold wA;repeat' split<;>omega⟩
theorem BS:∀a b:za,yB a b=w7 (fun x y:UInt8=>wA x.toNat y.toNat) a b
 |[],[]=>rfl
 |[],_::_=>rfl
 |_::_,[]=>rfl
 |x::a,y::b=>by
  have f:=BS a b;simp only[w7];unfold yB at f⊢;simp only[Lib.compareBytes];rcases Nat.lt_trichotomy x.toNat y.toNat with h|h|h
  ·have c:x<y:=h;have e:wA x.toNat y.toNat=-1:=by unfold wA;rw[zf (by omega)]
   simp[c,e]
  ·have e:wA x.toNat y.toNat=0:=by unfold wA;rw[zc (by omega),zc (by omega)]
   have c:¬x<y:=by show¬x.toNat<y.toNat;omega
   have d:¬y<x:=by show¬y.toNat<x.toNat;omega
   simp[c,d,e,f]
  ·have c:¬x<y:=by show¬x.toNat<y.toNat;omega
   have d:y<x:=h;have e:wA x.toNat y.toNat=1:=by unfold wA;rw[zc (by omega),zf (by omega)]
   simp[c,d,e]
theorem X9:TO yB:=by
 have:yB=w7 (fun x y:UInt8=>wA x.toNat y.toNat):=by funext a b;exact BS a b
 rw[this];exact iG (ZK.pull fun x:UInt8=>(x.toNat:Int))
noncomputable def eC (a:za):Int×Int×za×za:=if xE a=true then(0,(Lib.trimLeftB a 48).length,Lib.trimLeftB a 48,[])else(1,0,[],a)
theorem BT(a b:za):wO a b=xP (fun x y=>wA x.1 y.1) (xP (fun x y=>wA x.2.1 y.2.1) (xP (fun x y=>yB x.2.2.1 y.2.2.1) fun x y=>yB x.2.2.2 y.2.2.2)) (eC a) (eC b):=by
 unfold wO eC xP;have r:=X9.refl [];have e:wA 0 0=0:=rfl;have f:wA 1 1=0:=rfl;by_cases c:xE a=true<;>by_cases d:xE b=true
 ·simp only[c,d,qI,e,r,Kz]
 ·simp[c,d,wA]
 ·simp[c,d,wA]
 ·simp[c,d,e,f,r]
theorem Fe:TO wO:=by
 have:wO=fun a b=>xP (fun x y=>wA x.1 y.1) (xP (fun x y=>wA x.2.1 y.2.1) (xP (fun x y=>yB x.2.2.1 y.2.2.1) fun x y=>yB x.2.2.2 y.2.2.2)) (eC a) (eC b):=by funext a b;exact BT a b
 rw[this];exact TO.pull (TO.lex (ZK.pull fun x:Int×Int×za×za=>x.1) (TO.lex (ZK.pull fun x:Int×Int×za×za=>x.2.1) (TO.lex (X9.pull fun x:Int×Int×za×za=>x.2.2.1) (X9.pull fun x:Int×Int×za×za=>x.2.2.2)))) eC
def cP(v:wN):Int:=if v.pre.length=0 then 1 else 0
theorem Oc(v w:wN):Zy v w=xP (fun x y=>wA x.a y.a) (xP (fun x y=>wA x.b y.b) (xP (fun x y=>wA x.c y.c) (xP (fun x y=>wA (cP x) (cP y)) fun x y=>w7 wO x.pre y.pre))) v w:=by
 unfold Zy xP;by_cases d:wA v.a w.a=0
 ·by_cases e:wA v.b w.b=0
  ·by_cases f:wA v.c w.c=0
   ·simp only[Kz,d,e,f,qI];by_cases p:v.pre.length=0<;>by_cases q:w.pre.length=0
    ·have g:v.pre=[]:=qj.1 p;have h:w.pre=[]:=qj.1 q;simp[cP,p,q,wA,g,h,w7]
    ·simp[cP,p,q,wA]
    ·simp[cP,p,q,wA]
    ·simp[cP,p,q,wA]
   ·simp[Kz,d,e,f]
  ·simp[Kz,d,e]
 ·simp[Kz,d]
theorem U5:TO Zy:=by
 have:Zy=xP (fun x y=>wA x.a y.a) (xP (fun x y=>wA x.b y.b) (xP (fun x y=>wA x.c y.c) (xP (fun x y=>wA (cP x) (cP y)) fun x y=>w7 wO x.pre y.pre))):=by funext a b;exact Oc a b
 rw[this];exact TO.lex (ZK.pull fun x:wN=>x.a) (TO.lex (ZK.pull fun x:wN=>x.b) (TO.lex (ZK.pull fun x:wN=>x.c) (TO.lex (ZK.pull cP) ((iG Fe).pull fun x:wN=>x.pre))))
def I2(c:Cut):Int:=if c.after=true then 1 else 0
theorem Od(a b:Cut):wv a b=xP (fun x y=>Zy x.v y.v) (fun x y=>wA (I2 x) (I2 y)) a b:=by
 unfold wv xP;by_cases h:Zy a.v b.v=0
 ·simp only[h,qI];cases c:a.after<;>cases d:b.after<;>simp[I2,c,d,wA]
 ·simp[h]
theorem wi:TO wv:=by
 have:wv=xP (fun x y=>Zy x.v y.v) (fun x y=>wA (I2 x) (I2 y)):=by funext a b;exact Od a b
 rw[this];exact TO.lex (U5.pull fun x:Cut=>x.v) (ZK.pull I2)
end Go.Q
namespace Go.AM
open Go.RowKit Go.Sort Go.Proofs
variable{dr:Prop}
def WO(xs:List zb)(i:Nat):zb:=xs.getD (if i<xs.length then i else 0) []
theorem ku{xs:List zb}(h:xs≠[])(i:Nat):WO xs i∈xs:=by
 have b:0<xs.length:=kZ.2 h;have a:(if i<xs.length then i else 0)<xs.length:=by split<;>assumption
 unfold WO;rw[Ke,zj a];exact zk _
theorem Oe{xs:List zb}{i:Nat}(h:i<xs.length):WO xs i=xs[i]:=by unfold WO;rw[zf h,Ke,zj h];rfl
def mw(cf:zb->zb->Int)(xs:List zb)(i j:Nat):Int:=cf (WO xs i) (WO xs j)
def ZJ(cf:zb->zb->Int)(xs:List zb):Array Nat:=pdq (ltOf (mw cf xs)) (Array.range xs.length) 0 xs.length (Lib.bitLen xs.length) true true
def Ws(cf:zb->zb->Int)(xs:List zb):List zb:=if xs.length=0 then[]else(ZJ cf xs).toList.map (WO xs)
structure K7 (cf:List O->List O->Int) (xs:List (List O)):Prop where
 irrefl:∀x∈xs,0<=cf x x
 trans:∀x∈xs,∀y∈xs,∀z∈xs,cf x y<0->cf y z<0->cf x z<0
 ntrans:∀x∈xs,∀y∈xs,∀z∈xs,0<=cf x y->0<=cf y z->0<=cf x z
section
variable{cf:zb->zb->Int}{xs:List zb}
theorem G9{i j:Nat}(h:ltOf (mw cf xs) i j=true):cf (WO xs i) (WO xs j)<0:=xM h
theorem mx{i j:Nat}(h:ltOf (mw cf xs) i j=false):0<=cf (WO xs i) (WO xs j):=Int.not_lt.1 (of_decide_eq_false h)
theorem Of{i j:Nat}(h:cf (WO xs i) (WO xs j)<0):ltOf (mw cf xs) i j=true:=DV h
theorem Ha{i j:Nat}(h:0<=cf (WO xs i) (WO xs j)):ltOf (mw cf xs) i j=false:=decide_eq_false (Int.not_lt.2 h)
theorem K7.swo(h:K7 cf xs)(a:xs≠[]):SWO (ltOf (mw cf xs)) where
 irrefl i:=Ha (h.irrefl _ (ku a i))
 trans i j k b c:=Of (h.trans _ (ku a i) _ (ku a j) _ (ku a k) (G9 b) (G9 c))
 ntrans i j k b c:=Ha (h.ntrans _ (ku a i) _ (ku a j) _ (ku a k) (mx b) (mx c))
theorem KF(h:K7 cf xs)(a:xs≠[]):PermIn 0 xs.length (Array.range xs.length) (ZJ cf xs)/\SortedIn (ltOf (mw cf xs)) 0 xs.length (ZJ cf xs):=
 pdq_sorts (ltOf (mw cf xs)) (h.swo a) (Array.range xs.length) 0 xs.length (Lib.bitLen xs.length) true true (xq _) (by simp) (Or.inl rfl)
theorem KG(h:K7 cf xs)(a:xs≠[]):(ZJ cf xs).size=xs.length:=by have:=(KF h a).1.1;simpa using this
theorem bC(h:K7 cf xs):(Ws cf xs).Perm xs:=by
 unfold Ws;split
 ·rename_i a;have:xs=[]:=qj.1 a;subst this;exact .refl _
 ·rename_i a;have c:xs≠[]:=by rintro rfl;simp at a
  obtain⟨k,_,d⟩:=(KF h c).1;have hs:=KG h c;have f:(ZJ cf xs).extract 0 xs.length=ZJ cf xs:=by rw[<-hs];simp
  have g:(Array.range xs.length).extract 0 xs.length=Array.range xs.length:=by
   conv=>lhs;rw[show xs.length=(Array.range xs.length).size by simp]
   simp
  rw[f,g]at d;have e:=d.map (WO xs);have j:(Array.range xs.length).toList.map (WO xs)=xs:=by
   apply List.ext_getElem
   ·simp
   ·intro i hi b;simp[Oe b]
  rw[j]at e;exact e
theorem uc(h:K7 cf xs):(Ws cf xs).Pairwise (fun x y=>0<=cf y x):=by
 unfold Ws;split
 ·exact List.Pairwise.nil
 ·rename_i e;have c:xs≠[]:=by rintro rfl;simp at e
  have hs:=KG h c;have f:=(KF h c).2;rw[List.pairwise_map,Qd];intro i j hi a b;have d:=f i j (xq _) b (by simp at a;omega);simp at hi a;rw[K1 _ i hi,K1 _ j a]at d;simpa using mx d
theorem ud(h:K7 cf xs):(Ws cf xs).length=xs.length:=(bC h).length_eq
end
def Og(P:Program)(f k:Nat):Prop:=
 (∀(α:Type) [Inhabited α] (V:α->List Value) (_:∀x,(V x).length=k) (_:∀x,∀v∈V x,v.oneCell'=true) (cf:α->α->Int) (_:SWO (ltOf cf)) (g:Nat) (blk off cap:Nat) (d:Array α) (w:World)
  (_:∀args w,(callFunc g args).run P w=.ok (.enter g args) w) (_:CmpLays P g #[] V k cf blk off d.size w) (_:HoldsK V k w blk off d) (_:blk<w.heap.size) (_:d.size<4611686018427387904),
  Calls P f #[.slice (some ⟨blk,off,none⟩) d.size cap,.func (.func g) #[] #[]] w fun e w'=>
   e=.returned (.tuple #[])/\∃n a,w'=sortWorldK V k w blk off n (pdq (ltOf cf) d 0 d.size (Lib.bitLen d.size) true true) a) /\
 ∀(p:Option Addr) (cap:Nat) (b:Value) (w:World),Calls P f #[.slice p 0 cap,b] w fun e w'=>e=.returned (.tuple #[])/\w'=w
def zaD(P:Program)(g k:Nat)(cf:zb->zb->Int)(dom:zb->Prop):Prop:=
 (∀args w,(callFunc g args).run P w=.ok (.enter g args) w)/\∃a,zg P g a/\∀x y,x.length=k->y.length=k->dom x->dom y->a [.agg x,.agg y] (fun _=>none) 0=some (.v (.int .i64 (cf x y)),fun _=>none,0)
open Classical in
noncomputable def my (k:Nat) (g:Nat) (cf:zb->zb->Int) (dom:zb->Prop):AM.Spec:=fun args Y Z=>
 match args with
 |[.nil,.fn _ _ _]=>some (.wq [],Y,Z)
 |[.own id off n,.fn (.func a) [] []]=>if n=0 then some (.wq [],Y,Z)else match Y id with
  |some b=>if a=g/\b.arr=true/\b.s=k/\off+n<=b.es.length/\n<4611686018427387904/\K7 cf ((b.es.drop off).take n)/\∀x∈(b.es.drop off).take n,dom x then
    some (.wq [],qt Y id (some ⟨b.e,b.s,b.arr,b.es.take off++Ws cf ((b.es.drop off).take n)++b.es.drop (off+n)⟩),Z)else none
  |none=>none
 |_=>none
theorem Ff{W w':World}(h:Fr True W (fun _=>False) w'):∃q c,w'=grow (W.drewN q) c:=by
 refine⟨w'.drawn-W.drawn,w'.heap.extract W.heap.size w'.heap.size,?_⟩;obtain⟨a,e,d,n,b⟩:=w';obtain⟨f,g,j,m,k,l⟩:=h;simp only at f g j m k l;unfold grow World.drewN;simp only[World.mk.injEq];refine⟨?_,g,by have:=k trivial;omega,f,j⟩;apply Array.ext_getElem?;intro i;by_cases hi:i<W.heap.size
 ·rw[l i hi (fun h=>h),kV hi]
 ·rw[Array.getElem?_append_right (by omega),Array.getElem?_extract];by_cases o:i<a.size
  ·rw[zf (by omega)];congr 1;omega
  ·rw[zc (by omega),Array.getElem?_eq_none (by omega)]
theorem kd.grown{P:Program}{Y:Hp}{Z:Nat}{S:Nat->Prop}{G:Nat->GI}{w w':World}(h:Inv P w S G Y Z)(c:Fr dr w (fun _=>False) w'):kd dr P Y Z S G w Y Z S G w':=by
 have d:∀b,b<w.heap.size->w'.heap[b]?=w.heap[b]?:=fun b a=>c.block b a (fun h=>h)
 refine⟨⟨fun b a=>yb (h.st b a) c.size,h.top,fun id b a=>?_,h.apart,h.inj,h.gD.mono fun b a=>⟨a,d b (h.st b a)⟩⟩,ze _,fun _ _=>rfl,fun _ a=>a,fun _ a=>.inl a,fun id b a=>.inl ⟨id,b,a,rfl⟩,⟨c.os,c.tape,c.output,c.size,c.drawn,fun k f _=>c.block k f (fun h=>h)⟩⟩;have e:=h.live id b a;exact e.mono (fun b a=>⟨a,d b (h.st b a)⟩) (ze _) (fun _ _=>rfl) (d _ e.lt)
theorem KH{α:Type}[Inhabited α](V:α->List Value)(k:Nat)(w:World)(blk off m:Nat)(d:Array α)(a:Array Obj):Fr dr (putRowK V k w blk off d) (fun _=>False) (sortWorldK V k w blk off m d a):=by
 refine⟨rfl,rfl,rfl,?_,fun _=>?_,fun b c _=>?_⟩
 ·show _<=(_++a).size;rw[QG];exact Nat.le_add_right _ _
 ·exact Nat.le_add_right _ _
 ·exact kV c
theorem Wc{α:Type}[Inhabited α](V:α->List Value)(k:Nat)(w:World)(blk off:Nat)(d:Array α){a:Array Value}{e:TypeId}(h:w.heap[blk]?=some (.cells a e (0,0))) :
  putRowK V k w blk off d=w.setRow blk (putCells (fun v:Value=>v) off (flatK V k d) a):=by
 unfold putRowK putRow mapBlock World.setRow;congr 1;apply Array.ext_getElem?;intro i;simp only[vN];by_cases hi:blk=i
 ·subst hi;simp only[qI,h,zA,onCells];rfl
 ·simp[hi]
section
variable{P:Program}{f k g:Nat}{cf:zb->zb->Int}{dom:zb->Prop}
theorem BU(h0:0<k)(hfn:∃fn,P.funcs[f]?=some fn/\(fn.name== "runtime.NumGoroutine")=false/\fn.body.isNone=false)(hso:Og P f k)(hco:zaD P g k cf dom):jr dr P f (my k g cf dom):=by
 refine⟨hfn,?_⟩;intro args Y Z r Y' Z' h w S G vs hi hz;unfold my at h;split at h
 ·injection h with h;injection h with e1 h;injection h with e2 e3;subst e1;subst e2;subst e3;obtain⟨u,us,rfl,hu,z⟩:=hz.jF;obtain⟨v,us,rfl,hv,z⟩:=z.jF;obtain rfl:=z.WE;obtain rfl:=hu.Zp;refine(hso.2 none 0 v w).mono fun e w' hh=>?_
  obtain⟨rfl,rfl⟩:=hh;exact⟨_,_,_,rfl,.refl hi,jM⟩
 ·rename_i id off n g';obtain⟨u,us,rfl,hu,z⟩:=hz.jF;obtain⟨v,us,rfl,hv,z⟩:=z.jF;obtain rfl:=z.WE;have o:=hu.xg;obtain⟨cap,g1,g2,g3,g4,rfl⟩:=hu.vE;split at h
  ·rename_i hn0;subst hn0;injection h with h
   injection h with e1 h;injection h with e2 e3;subst e1;subst e2;subst e3;refine(hso.2 _ cap v w).mono fun e w' hh=>?_
   obtain⟨rfl,rfl⟩:=hh;exact⟨_,_,_,rfl,.refl hi,jM⟩
  rename_i hn0;split at h
  case h_2=>cases h
  rename_i b hb;split at h
  case isFalse=>cases h
  rename_i hc;obtain⟨rfl,harr,hbk,X,hn,hW,M⟩:=hc;injection h with h
  injection h with e1 h;injection h with e2 e3;subst e1;subst e2;subst e3;have d:=hi.live id b hb;obtain⟨us,ts,rfl,hus,hts,_,_⟩:=hv.AG;obtain rfl:us=#[]:=Array.eq_empty_of_size_eq_zero (by simpa using hus.symm);obtain rfl:ts=#[]:=Array.eq_empty_of_size_eq_zero (by simpa using hts.symm);have A:(G id).s=k:=by rw[<-d.bs];exact hbk
  obtain⟨N,c1,c2,c3⟩:=d.row o;rw[A]at c3 g4;obtain⟨xs,Q⟩:=jj ((b.es.drop off).take n);rw[Q]at hW M;have H:xs.length=n:=by rw[<-Q];simp;omega
  have I:xs≠[]:=by rintro rfl;simp at H;omega
  have B:∀x∈xs,x.length=k:=fun x I=>by rw[<-A];rw[<-Q]at I;exact d.len o x (List.mem_of_mem_drop (zfE I))
  have hxg:∀i,i<n->xs[i]?=b.es[off+i]?:=fun i hi=>by rw[<-Q,qy,zf hi,qM]
  let ix:Nat->Nat:=fun i=>if i<n then i else 0
  have hix:∀i,ix i<n:=fun i=>by show(if i<n then i else 0)<n;split<;>omega
  have hel:∀i,xs[ix i]?=some (WO xs i):=fun i=>by
   unfold WO;rw[Ke];show xs[if i<n then i else 0]?=_;have:(if i<n then i else 0)<xs.length:=by rw[H];exact hix i
   rw[H,zj this];rfl
  let V:Nat->List Value:=fun i=>(List.range k).map fun j=>(N[(off+ix i)*k+j]?).getD undef
  have hek:∀x,(V x).length=k:=fun x=>by simp[V]
  have l:∀i j C,(WO xs i)[j]?=some C->∃u,N[(off+ix i)*k+j]?=some u/\(V i)[j]?=some u/\wK w S C u/\u.oneCell'=true:=fun i j C hj=>by
   have J:j<k:=by have:=(zd.1 hj).1;rw[B _ (ku I i)]at this;exact this
   obtain⟨u,T,L⟩:=c3 (off+ix i) j (WO xs i) C (by rw[<-hxg _ (hix i)];exact hel i) hj;rw[harr]at L;refine⟨u,T,?_,L.1 rfl,L.2.2⟩;simp[V,J,T]
  have E:∀i j,j<k->∃C,(WO xs i)[j]?=some C:=fun i j hj=>by
   have:j<(WO xs i).length:=by rw[B _ (ku I i)];exact hj
   exact⟨_,zj this⟩
  have h1c:∀x,∀v∈V x,v.oneCell'=true:=fun x v hv=>by obtain⟨j,hj,rfl⟩:=qp.1 hv;obtain⟨C,hpv⟩:=E x j (yg.1 hj);obtain⟨u,T,_,_,q4⟩:=l x j C hpv;rw[T];exact q4
  have hblk:(G id).g<w.heap.size:=d.lt;have F:∀m D (p:Array Nat) K,S K->(sortWorldK V k w (G id).g (off*k) m p D).heap[K]?=w.heap[K]?:=fun m D p K a=>by
   have R:K<(putRowK V k w (G id).g (off*k) p).heap.size:=by rw[Wc V k w _ _ p c1,size_setRow];exact hi.st K a
   rw[(KH (dr:=True) V k w (G id).g (off*k) m p D).block K R (fun h=>h),Wc V k w _ _ p c1];exact setRow_other _ _ _ _ fun e=>hi.apart id b hb (e ▸ a)
  have zfJ:∀m D (p:Array Nat),w.heap.size<=(sortWorldK V k w (G id).g (off*k) m p D).heap.size:=fun m D p=>by have:=(KH (dr:=True) V k w (G id).g (off*k) m p D).size;rw[Wc V k w _ _ p c1,size_setRow]at this;exact this
  obtain⟨eg,spec,hsp,Ry⟩:=hco;have hcmp:CmpLays P g' #[] V k (mw cf xs) (G id).g (off*k) n w:=by
   intro m D p hdk x y;have hagg:∀x,wK (sortWorldK V k w (G id).g (off*k) m p D) S (.agg (WO xs x)) (.agg (V x).toArray):=fun x=>by
    refine .agg (by simp[hek,B _ (ku I x)]) fun j C u hj hu=>?_
    obtain⟨u',_,L,q3,_⟩:=l x j C hj;have:u=u':=by simpa[L]using hu.symm
    subst this;exact q3.mono fun K a=>⟨a,F m D p K a⟩
   have:=hsp.2 _ _ _ _ _ _ (Ry _ _ (B _ (ku I x)) (B _ (ku I y)) (M _ (ku I x)) (M _ (ku I y))) (sortWorldK V k w (G id).g (off*k) m p D) S G [.agg (V x).toArray,.agg (V y).toArray]
    ⟨fun K a=>yb (hi.st K a) (zfJ m D p),fun _ _ h=>(nomatch h),fun _ _ h=>(nomatch h),fun _ _ h=>(nomatch h),fun _ _ _ _ h=>(nomatch h),hi.gD.mono fun K a=>⟨a,F m D p K a⟩⟩ (.cons (.c (hagg x)) (.cons (.c (hagg y)) .nil))
   refine this.mono fun e w' hh=>?_
   obtain⟨v,S',G',rfl,st,hv⟩:=hh;obtain⟨rfl,_⟩:=hv.wY;refine⟨rfl,Ff ⟨st.fr.os,st.fr.tape,st.fr.output,st.fr.size,st.fr.drawn,fun k hk _=>st.fr.block k hk ?_⟩⟩;rintro⟨_,_,h,_⟩;cases h
  have hH:HoldsK V k w (G id).g (off*k) (Array.range n):=by
   intro t ht;have ht':t<n*k:=by simpa using ht
   have hd:=Nat.div_add_mod t k;have hm:=Nat.mod_lt t h0;have hdl:t/k<n:=(Nat.div_lt_iff_lt_mul h0).2 ht';rw[get_flatK _ _ _ _ (by simpa using ht')];have hr:(Array.range n)[t/k]! = t/k:=by rw[K1 _ _ (by simpa using hdl)];simp
   obtain⟨C,hpv⟩:=E (t/k) (t % k) hm;obtain⟨u,T,L,_,_⟩:=l (t/k) (t % k) C hpv;have hixe:ix (t/k)=t/k:=zf hdl;constructor
   ·rw[za2 w _ _ N _ _ c1,hr,List.getElem!_eq_getElem?_getD,L];rw[hixe]at T;have:off*k+t=(off+t/k)*k+t % k:=by rw[qK,UL (t/k) k];omega
    rw[this,T];rfl
   ·simp[World.frozen?,c1]
  have hsw:=hW.swo I;have key:=hso.1 Nat V hek h1c (mw cf xs) hsw g' (G id).g (off*k) cap (Array.range n) w eg (by simpa using hcmp) hH hblk (by simpa using hn);have es1:(Array.range n).size=n:=by simp
  rw[es1]at key;rw[A];refine key.mono fun e w' hh=>?_
  obtain⟨rfl,m,D,rfl⟩:=hh;have hidx:pdq (ltOf (mw cf xs)) (Array.range n) 0 n (Lib.bitLen n) true true=ZJ cf xs:=by unfold ZJ;rw[H]
  rw[hidx];have hds:(ZJ cf xs).size=n:=by rw[KG hW I,H]
  have hsl:(Ws cf xs).length=n:=by rw[ud hW,H]
  have hpl:off+(Ws cf xs).length<=b.es.length:=by rw[hsl];exact X
  have hsg:∀i,i<n->(Ws cf xs)[i]?=some (WO xs (ZJ cf xs)[i]!):=fun i hin=>by unfold Ws;rw[zc (by omega),qf,gz,K1 _ i (by omega),vB (by omega)];rfl
  refine⟨_,S,G,rfl,?_,jM⟩;rw[Q];have sS:=kd.set (dr:=dr) hi hb o (putCells (fun v:Value=>v) (off*k) (flatK V k (ZJ cf xs)) N) (b.es.take off++Ws cf xs++b.es.drop (off+n)) (by simp[putCells,c2])
   (fun c hc=>by
    rw[qT]at hc;rcases zF.1 hc with hc|hc
    ·exact d.len o c (zfE hc)
    rcases zF.1 hc with hc|hc
    ·rw[A];exact B c ((bC hW).mem_iff.1 hc)
    ·exact d.len o c (List.mem_of_mem_drop hc))
   (by have:=Q8 b.es (Ws cf xs) off hpl;rw[hsl]at this;rw[this];exact d.fit o)
   (fun i j c C q W=>by
    have hspl:=vd b.es (Ws cf xs) off i hpl;rw[hsl]at hspl;rw[hspl]at q;rw[A];split at q
    ·rename_i hin;rw[hsg _ (by omega)]at q;injection q with q
     subst q;have J:j<k:=by have:=(zd.1 W).1;rw[B _ (ku I _)]at this;exact this
     obtain⟨u,T,L,q3,q4⟩:=l _ j C W;refine⟨u,?_,fun _=>q3,.c q3,q4⟩;obtain⟨i',rfl⟩:∃i',i=off+i':=⟨i-off,by omega⟩;have e1:off+i'-off=i':=by omega
     rw[e1]at L;have e2:(off+i')*k+j=off*k+(i'*k+j):=by rw[qK];omega
     have R:i'*k+j<n*k:=kL (by omega) J;have hcl:off*k+(i'*k+j)<N.size:=by rw[c2];have:=d.fit o;rw[A]at this;have h5:(off+n)*k<=b.es.length*k:=zP k X;rw[qK]at h5;omega
     rw[e2];unfold putCells;rw[Array.getElem?_mapIdx,vB hcl];simp only[zA,size_flatK,hds];rw[zf ⟨by omega,by omega⟩,show off*k+(i'*k+j)-off*k=i'*k+j by omega,get_flatK _ _ _ _ (by rw[hds];exact R)];have e3:(i'*k+j)/k=i':=by rw[UL,Nat.mul_add_div h0,Nat.div_eq_of_lt J];rfl
     have e4:(i'*k+j) % k=j:=by rw[UL,Nat.mul_add_mod,Nat.mod_eq_of_lt J]
     rw[e3,e4,List.getElem!_eq_getElem?_getD,L];rfl
    ·rename_i hin;obtain⟨u,T,L⟩:=c3 i j c C q W;refine⟨u,?_,L⟩;have J:j<k:=by have:=(zd.1 W).1;rw[d.len o c (zz q),A]at this;exact this
     unfold putCells;rw[Array.getElem?_mapIdx,T];simp only[zA,size_flatK,hds];rw[zc];rintro⟨a1,a2⟩;apply hin;constructor
     ·apply zhA.1;intro R;have:(i+1)*k<=off*k:=zP k R;rw[qK]at this;omega
     ·apply Nat.not_le.1;intro hle;have:(off+n)*k<=i*k:=zP k hle;rw[qK]at this;omega)
  rw[<-Wc V k w _ _ _ c1]at sS;exact sS.trans (kd.grown sS.inv (KH V k w (G id).g (off*k) m (ZJ cf xs) D))
 ·cases h
end
end Go.AM
namespace Go.Q
open Classical in
noncomputable def Oh (x y:zb):Int:=if h:∃a b:Cut,x=a.V/\y=b.V then wv (Classical.choose h) (Classical.choose (jq h))else 0
theorem Ye(a b:Cut):Oh a.V b.V=wv a b:=by have h:∃c d:Cut,a.V=c.V/\b.V=d.V:=⟨a,b,rfl,rfl⟩;unfold Oh;rw[zgA h];have e:=jq (jq h);exact congr (zu wv (Zl e.1).symm) (Zl e.2).symm
def q7(l:List Cut):List zb:=l.map Cut.V
theorem Oi(l:List Cut):K7 Oh (q7 l) where
 irrefl x d:=by obtain⟨a,_,rfl⟩:=qp.1 d;rw[Ye,wi.refl];exact zfF _
 trans x d y e z f:=by obtain⟨a,_,rfl⟩:=qp.1 d;obtain⟨b,_,rfl⟩:=qp.1 e;obtain⟨c,_,rfl⟩:=qp.1 f;rw[Ye,Ye,Ye];exact wi.trans
 ntrans x d y e z f:=by obtain⟨a,_,rfl⟩:=qp.1 d;obtain⟨b,_,rfl⟩:=qp.1 e;obtain⟨c,_,rfl⟩:=qp.1 f;rw[Ye,Ye,Ye];exact wi.ntrans
def S9(x:zb):Prop:=∃a:Cut,x=a.V/\a.v.small
theorem zbW:zaD prog 181 5 Oh S9:=by
 refine⟨fun args w=>?_,_,xF,fun x y _ _ c d=>?_⟩
 ·have h:prog.funcs[181]?=some f181:=func181;simp[callFunc,h,f181]
 ·obtain⟨a,rfl,e⟩:=c;obtain⟨b,rfl,f⟩:=d;rw[Ye];exact Wr a b _ _ e f
open Classical in
noncomputable def Fg (x:zb):Cut:=if h:∃a:Cut,x=a.V then Classical.choose h else qR
theorem Oj(a:Cut):Fg a.V=a:=by have h:∃c:Cut,a.V=c.V:=⟨a,rfl⟩;unfold Fg;rw[zgA h];exact(Zl (jq h)).symm
theorem VY(l:List Cut):(q7 l).map Fg=l:=by
 induction l with
 |nil=>rfl
 |cons a l b=>show Fg a.V::(q7 l).map Fg=_;rw[Oj,b]
theorem VZ(l:List Cut):∃s:List Cut,Ws Oh (q7 l)=q7 s/\s.Perm l/\s.Pairwise fun a b=>wv a b<=0:=by
 have Y:=bC (Oi l);have hs:=uc (Oi l);have c:∀(r:List zb),(∀x∈r,∃a:Cut,x=a.V)->∃s:List Cut,r=q7 s:=by
  intro r
  induction r with
  |nil=>intro _;exact⟨[],rfl⟩
  |cons x r d=>
   intro h;obtain⟨a,rfl⟩:=h x (by simp);obtain⟨s,rfl⟩:=d fun y f=>h y (by simp[f])
   exact⟨a::s,rfl⟩
 obtain⟨s,e⟩:=c (Ws Oh (q7 l)) fun x g=>by have:=Y.mem_iff.1 g;obtain⟨a,_,rfl⟩:=qp.1 this;exact⟨a,rfl⟩
 rw[e]at Y hs;refine⟨s,e,?_,?_⟩
 ·have:=Y.map Fg;rwa [VY,VY]at this
 ·rw[q7,List.pairwise_map]at hs;refine hs.imp fun{a b} h=>?_
  rw[Ye]at h;exact(wi.le a b).2 h
end Go.Q
namespace Go.Q
def Qu(out:List qN)(c:Cut):List qN:=match out.getLast? with
 |some s=>out.dropLast++[⟨s.lo,c,false⟩]
 |none=>out
def aT(a:Cut->Bool)(st:Bool×List qN)(c:Cut):Bool×List qN:=(a c,if(a c&&!st.1)=true then st.2++[w5 c]else if(!a c&&st.1)=true then Qu st.2 c else st.2)
theorem I3(a:Cut->Bool)(st:Bool×List qN)(c:Cut):aT a (aT a st c) c=aT a st c:=by unfold aT;cases a c<;>simp
def Vj(a:Cut->Bool)(l:List Cut)(st:Bool×List qN):Bool×List qN:=l.foldl (aT a) st
open Classical in
noncomputable def cQ:List Cut->List Cut
 |[]=>[]
 |a::l=>match cQ l with
  |[]=>[a]
  |b::r=>if a=b then b::r else a::b::r
theorem mz(c:Cut->Bool):∀(l:List Cut) (st:Bool×List qN),Vj c l st=Vj c (cQ l) st
 |[],st=>rfl
 |a::l,st=>by
  have d:=mz c l (aT c st a);show Vj c l (aT c st a)=_;rw[d];simp only[cQ];split
  ·rename_i e;rw[e];rfl
  ·rename_i b r e;rw[e];split
   ·rename_i h;subst h;show Vj c r (aT c (aT c st a) a)=Vj c r (aT c st a);rw[I3]
   ·rfl
theorem eD:∀(l:List Cut) (c:Cut),c∈cQ l↔c∈l
 |[],c=>by simp[cQ]
 |a::l,c=>by
  have d:=eD l c;simp only[cQ];split
  ·rename_i e;rw[e]at d;simp only[zv,ir,or_false];rw[<-d];simp
  ·rename_i b r e;rw[e]at d;split
   ·rename_i h;subst h;rw[zv (b:=a) (l:=l),<-d];simp
   ·rw[zv,zv (b:=a) (l:=l),d]
theorem cR:∀(l:List Cut) (_:∀a∈l,∀b∈l,wv a b=0->a=b),(l.Pairwise fun a b=>wv a b<=0)->(cQ l).Pairwise fun a b=>wv a b<0
 |[],_,_=>.nil
 |a::l,j,hs=>by
  obtain⟨m,n⟩:=yc.1 hs;have f:=cR l (fun x o y p=>j x (by simp[o]) y (by simp[p])) n;simp only[cQ];split
  ·simp
  ·rename_i b r e;rw[e]at f;split
   ·exact f
   ·rename_i g;refine yc.2 ⟨fun c i=>?_,f⟩;have k:b∈l:=(eD l b).1 (by rw[e];simp);have d:wv a b<0:=by
     rcases Yk (m b k)with h|h
     ·exact h
     ·exact absurd (j a (by simp) b (by simp[k]) h) g
    rcases zv.1 i with rfl|i
    ·exact d
    ·exact wi.trans d ((yc.1 f).1 c i)
theorem rQ:∀(x y:List Cut),(x.Pairwise fun a b=>wv a b<0)->(y.Pairwise fun a b=>wv a b<0)->(∀c,c∈x↔c∈y)->x=y
 |[],[],_,_,_=>rfl
 |[],b::y,_,_,h=>absurd ((h b).2 (by simp)) (by simp)
 |a::x,[],_,_,h=>absurd ((h a).1 (by simp)) (by simp)
 |a::x,b::y,l,m,h=>by
  obtain⟨j,n⟩:=yc.1 l;obtain⟨k,o⟩:=yc.1 m;have d:∀c:Cut,¬wv c c<0:=fun c=>by rw[wi.refl];omega
  have i:a=b:=by
   rcases zv.1 ((h a).1 (by simp))with e|p
   ·exact e
   ·rcases zv.1 ((h b).2 (by simp))with e|q
    ·exact e.symm
    ·exact absurd (wi.trans (j b q) (k a p)) (d a)
  subst i;rw[rQ x y n o fun c=>?_];constructor
  ·intro g;rcases zv.1 ((h c).1 (by simp[g]))with e|f
   ·subst e;exact absurd (j c g) (d c)
   ·exact f
  ·intro g;rcases zv.1 ((h c).2 (by simp[g]))with e|f
   ·subst e;exact absurd (k c g) (d c)
   ·exact f
end Go.Q
