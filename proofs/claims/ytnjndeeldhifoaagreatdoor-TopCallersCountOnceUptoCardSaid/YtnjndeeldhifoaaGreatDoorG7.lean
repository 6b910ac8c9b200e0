/- Lemmas. -/
import Derived.Shelf.SlSortCmp.InsertionK
import Derived.Sort.AssemblyPlain
import Derived.Shelf.SlSortCmp.WholeK
import Derived.Shelf.SlSortCmp.NoneTotal
import Derived.Test.YtnjndeeldhifoaaGreatDoorProg
import Derived.Test.YtnjndeeldhifoaaGreatDoorG6
set_option maxRecDepth 100000
set_option maxHeartbeats 4000000
open Go Proofs Proofs.YtnjndeeldhifoaaGreatDoor Proofs.Tryz RowKit AM SpanLaw Q Zz
namespace Go.AM
def Qc(a:List Sh)(F:zb->Option O):AM.Spec:=zg true [] fun args=>F (aU a args)
theorem om{C:Ctx}{pf:FuncId->Bool}{f:FuncId}{fn:Func}(c:AM.Good C pf)(d:Zy C pf f fn)(a:List Sh)(F:zb->Option O)
  (hF:∀args r,F args=some r->args.length<=fn.ntmps/\∃b,zt C fn args=some b/\wu b r):zf C.P f (Qc a F):=
 YF c d true [] _ fun args r h w S vs e=>by obtain⟨g,b,i,j⟩:=hF _ _ h;exact⟨aU a args,b,Wj e,g,i,j⟩
theorem FN{a:List Sh}{F:zb->Option O}{args:zb}{Y Y1:Hp}{Z:Nat}{ys:zb}{r:O}(b:zy Y args=some (ys,Y1))(c:F (aU a ys)=some r)(d:(r.flat=true\/args.all O.noOwn=true)->Y1=Y) :
  Qc a F args Y Z=some (r,Y1,Z):=by
 have e:yr [] ys=ys:=by cases ys<;>rfl
 unfold Qc zg;simp only[b,e,c];split
 ·rename_i h;rw[d h]
 ·simp
theorem tp(c:List Sh)(F:zb->Option O):Zb (Qc c F):=by
 intro args Y Z r e Z' h;unfold Qc zg at h;split at h
 ·rename_i ys Y1 d;split at h
  ·split at h
   ·injection h with h;injection h with _ h;injection h with a b;subst a;subst b;exact⟨zi _,fun id blk _ a _=>a⟩
   ·split at h
    ·injection h with h;injection h with _ h;injection h with a b;subst a;subst b;exact⟨zi _,fun id blk _ a b=>Y8 d a b⟩
    ·cases h
  ·cases h
 ·cases h
def vq(P:Program)(l:kW)(k:Nat)(D:List (Tmp×Tmp))(L:List Tmp)(b:List Nat):Ctx:=⟨P,lookup l,fun i=>if i=k then D else[],fun i=>if i=k then L else[],fun g=>b.contains g,fun _=>[],fun _=>none⟩
@[simp]theorem TY(P:Program)(l:kW)(k:Nat)(D:List (Tmp×Tmp))(L:List Tmp)(b:List Nat):(vq P l k D L b).P=P:=rfl
@[simp]theorem TZ(P:Program)(l:kW)(k:Nat)(D:List (Tmp×Tmp))(L:List Tmp)(b:List Nat)(Y:Hp)(Z g:Nat)(x y xs:zb):yR (vq P l k D L b) Y Z (some (.fn (.func g) x y)) xs=(lookup l g).bind fun s=>s (x++xs++y) Y Z:=by unfold yR vq;simp only;cases lookup l g<;>rfl
@[simp]theorem Ev(P:Program)(l:kW)(k:Nat)(D:List (Tmp×Tmp))(L:List Tmp)(b:List Nat)(i:Nat)(a:Array Oper)(d:Bool)(st:St)(K:Exit->St->Prop)(h:¬i=k):vU (vq P l k D L b) (.region i a d) st K=cH (vq P l k D L b) a a.toList st (Wg K):=
 Z7 _ i a d st K (by simp[vq,h]) (by simp[vq,h])
theorem xt{P:Program}{l:kW}{k:Nat}{D:List (Tmp×Tmp)}{L:List Tmp}{b:List Nat}{a:Array Oper}{d:Bool}{st:St}{K:Exit->St->Prop}(h:Zw D st)(c:xp L st):vU (vq P l k D L b) (.region k a d) st K=cH (vq P l k D L b) a a.toList st (Wg K):=
 Zl _ k a d st K (by simpa[vq]using h) (by simpa[vq]using c)
theorem CD{P:Program}{l:kW}{q:List Nat}{k:Nat}{D:List (Tmp×Tmp)}{L:List Tmp}{b:List Nat}(a:P.follows .mixedOrders=true)(h:YK True P q l)(c:cR b l):AM.Good (vq P l k D L b) (fun g=>q.contains g):=
 let g:=nR (k:=k) (L:=L) a h c
 ⟨g.spec,g.quiet,g.mixed,g.box,fun _ _ h=>by cases h⟩
end Go.AM
namespace Go.Q
def nb(a b c:Int):O:=.agg [int a,int b,int c]
noncomputable def tq:zb->Option O:=zS (α:=Int×Int×Int×List za) (fun a=>[nb a.1 a.2.1 a.2.2.1,.sl 1 (zZ a.2.2.2)]) (fun _=>True) (fun a=>.agg (⟨a.1,a.2.1,a.2.2.1,a.2.2.2⟩:yE).V)
theorem L2:∀a b:Int×Int×Int×List za,[nb a.1 a.2.1 a.2.2.1,.sl 1 (zZ a.2.2.2)]=[nb b.1 b.2.1 b.2.2.1,.sl 1 (zZ b.2.2.2)]->a=b:=by rintro⟨h,i,j,k⟩ ⟨l,m,n,o⟩ e;simp only[nb,zc,zs]at e;obtain⟨c,d⟩:=e;injection c with c;simp only[zc,zs]at c;obtain⟨c,f,g⟩:=c;injection d with _ d;rw[zT c,zT f,zT g,jd d]
theorem lF(a b c:Int)(p:List za):zt C0 f243 [nb a b c,.sl 1 (zZ p)]=some (.agg (⟨a,b,c,p⟩:yE).V):=by refine zl rfl ?_;simp[nb,yE.V,qg,qF,qU,f243]
theorem QZ:zf prog 243 (Qc [.a,.s 1 []] tq):=
 om (fn:=f243) y7 (qW func243) _ _ fun args r h=>by obtain⟨⟨a,b,c,p⟩,rfl,_,rfl⟩:=qd h;exact⟨by simp[f243],_,lF a b c p,wu.refl _⟩
theorem W9(a b c:Int)(p:List za)(y z:O)(Y Y1:Hp)(Z:Nat)(e:qe Y y=some (z,Y1))(d:n1 1 z=.sl 1 (zZ p))(f:y.noOwn=true->Y1=Y):Qc [.a,.s 1 []] tq [nb a b c,y] Y Z=some (.agg (⟨a,b,c,p⟩:yE).V,Y1,Z):=
 FN (ys:=[nb a b c,z]) (by
  have g:qe Y (nb a b c)=some (nb a b c,Y):=by simp[nb]
  simp only[zy,g,e]) (by
  have:(Sh.s 1 []).fix z=.sl 1 (zZ p):=by
   cases z with
   |sl m es=>simp only[n1]at d;simp only[Sh.fix];rw[<-d];congr 1;exact(zcR (fun c _=>by cases c<;>rfl)).trans (List.map_id _)
   |_=>exact d
  show tq [nb a b c,(Sh.s 1 []).fix z]=_;rw[this];exact qx (V:=fun a:Int×Int×Int×List za=>[nb a.1 a.2.1 a.2.2.1,.sl 1 (zZ a.2.2.2)]) (a:=(a,b,c,p)) L2 trivial) (by simpa[nb,yE.V]using f)
def yL:Cut:=⟨⟨0,0,0,[[48]]⟩,false⟩
noncomputable def Kl (r:O):zb->Option O:=zS (α:=Unit) (fun _=>[]) (fun _=>True) (fun _=>r)
theorem Ya(r:O)(Y:Hp)(Z:Nat):qH [] (Kl r) [] Y Z=some (r,Y,Z):=va (show zy Y []=some ([],Y)from rfl) (qx (V:=fun _:Unit=>[]) (a:=()) (fun _ _ _=>rfl) trivial) (.inr rfl)
theorem tt:zt C0 f217 []=some (.agg yL.V):=by refine zl rfl ?_;simp[yL,Cut.V,zZ,str,qg,qF,zu,zX,zv,qU,f217]
theorem al:zf prog 217 (qH [] (Kl (.agg yL.V))):=
 yN (fn:=f217) y7 (qW func217) _ _ fun args r h=>by obtain⟨_,rfl,_,rfl⟩:=qd h;exact⟨by simp[f217],_,tt,wu.refl _⟩
structure wG where
 lo:Cut
 hi:Cut
 ki:Bool
def wG.V(s:wG):zb:=s.lo.V++s.hi.V++[qO s.ki]
def WI:Cut:=⟨⟨0,0,0,[]⟩,false⟩
abbrev vr:List (Option Nat):=[none,none,none,some 1,none,none,none,none,some 1,none,none]
def jN(c:Cut):wG:=⟨c,WI,true⟩
def P8(a b:Cut):wG:=⟨a,b,false⟩
def qD(l:List wG):List zb:=l.map wG.V
def KE:O:=.sl 11 (qD [jN yL])
noncomputable abbrev Cev:Ctx:=zG prog [(217,qH [] (Kl (.agg yL.V)))]
theorem P9:Gd Cev:=zM mixed ⟨al,trivial⟩
theorem bb:∃a,zt Cev f183 []=some a/\wu a KE:=by refine WX (sh:=.s 11 vr) rfl ?_;simp[Ya,yL,Cut.V,zZ,str,qg,qF,zu,zX,zv,cS,KE,qD,jN,wG.V,WI,f183]
theorem Wo:zf prog 183 (qH [] (Kl KE)):=
 yN (fn:=f183) P9 (qW func183) _ _ fun args r h=>by obtain⟨_,rfl,_,rfl⟩:=qd h;obtain⟨a,b,c⟩:=bb;exact⟨by simp[f183],a,b,c⟩
theorem du{a b:Part}(h:a.V=b.V):a=b:=by obtain⟨i,j,k,l,m⟩:=a;obtain⟨n,o,p,q,r⟩:=b;simp only[Part.V,zc,zs]at h;obtain⟨d,e,f,g,c⟩:=h;injection c with _ c;rw[zT d,zT e,zT f,zT g,jd c]
def Part.ok(p:Part):Prop:=(0<=p.n0/\p.n0<=999999)/\(0<=p.n1/\p.n1<=999999)/\(0<=p.n2/\p.n2<=999999)/\(1<=p.has/\p.has<=3)/\vE p.pre
noncomputable def FPa (f:Part->O):zb->Option O:=zS (α:=Part) (fun p=>[.agg p.V]) Part.ok f
theorem oo(f:Part->O)(p:Part)(u:O)(Y:Hp)(Z:Nat)(h:p.ok)(c:(Sh.g Jc).fix u=.agg p.V)(d:qe Y u=some (u,Y))(i:u.noOwn=true):qH [.g Jc] (FPa f) [u] Y Z=some (f p,Y,Z):=
 va (show zy Y [u]=some ([u],Y) by simp only[zy,d]) (by show FPa f [(Sh.g Jc).fix u]=_;rw[c];exact qx (V:=fun p:Part=>[O.agg p.V]) (a:=p) (fun a b e=>by simp only[zc,zs]at e;injection e with e;exact du e) h) (.inr (by rw[wJ,i];rfl))
noncomputable def FPt (f:Part->O):zb->Option O:=zS (α:=Part) (fun p=>[.agg p.V]) (fun _=>True) f
theorem FO(f:Part->O)(p:Part)(Y:Hp)(Z:Nat):qH [.g Jc] (FPt f) [.agg p.V] Y Z=some (f p,Y,Z):=
 va (show zy Y [.agg p.V]=some ([.agg p.V],Y) by simp[Part.V]) (by show FPt f [(Sh.g Jc).fix (.agg p.V)]=_;rw[show(Sh.g Jc).fix (.agg p.V)=.agg p.V by simp[Part.V]];exact qx (V:=fun p:Part=>[O.agg p.V]) (a:=p) (fun a b e=>by simp only[zc,zs]at e;injection e with e;exact du e) trivial) (.inr (by simp[Part.V]))
def JV(p:Part):Cut:=⟨⟨p.n0,p.n1,p.n2,p.pre⟩,false⟩
noncomputable abbrev Clo:Ctx:=zG prog [(243,Qc [.a,.s 1 []] tq)]
theorem Ra:Gd Clo:=zM mixed ⟨QZ,trivial⟩
theorem FQ(p:Part):zt Clo f218 [.agg p.V]=some (.agg (JV p).V):=by
 obtain⟨a,b,c,d,e⟩:=p;refine zl rfl ?_;have f:=fun Y Z=>W9 a b c e (.sl 1 (zZ e)) (.sl 1 (zZ e)) Y Y Z (by simp) rfl (fun _=>rfl)
 simp[nb]at f;simp[Part.V,f,JV,Cut.V,yE.V,qg,qF,qU,f218]
theorem CE:zf prog 218 (qH [.g Jc] (FPt fun p=>.agg (JV p).V)):=
 yN (fn:=f218) Ra (qW func218) _ _ fun args r h=>by obtain⟨p,rfl,_,rfl⟩:=qd h;exact⟨by simp[f218],_,FQ p,wu.refl _⟩
def kS(p:Part):Nat->Cut
 | 0=>⟨⟨p.n0+1,0,0,[[48]]⟩,false⟩
 | 1=>⟨⟨p.n0,p.n1+1,0,[[48]]⟩,false⟩
 |_=>⟨⟨p.n0,p.n1,p.n2+1,[[48]]⟩,false⟩
def Yb(p:Part):Nat->Bool
 | 0=>decide (p.n0+1<=999999)
 | 1=>decide (p.n1+1<=999999)
 |_=>decide (p.n2+1<=999999)
def xu(p:Part)(i:Nat):O:=.q8 [.agg (kS p i).V,qO (Yb p i)]
noncomputable abbrev Crsd:Ctx:=vq prog [(243,Qc [.a,.s 1 []] tq)] 7 [(6,4),(28,4)] [4,6,28] [243]
theorem L3:Gd Crsd:=CD mixed ⟨QZ,by simp,trivial⟩ ⟨fun _=>tp _ _,trivial⟩
theorem Xz(st:St):Zw [] st:=fun _ h=>by cases h
theorem xW{a b:Tmp}{D:List (Tmp×Tmp)}{st:St}(h:iI st a b)(c:Zw D st):Zw ((a,b)::D) st:=fun p Y=>by
 rcases zC.1 Y with rfl|Y
 ·exact h
 ·exact c p Y
theorem dv(st:St):xp [] st:=fun _ h=>by cases h
theorem Wq{s:Tmp}{L:List Tmp}{st:St}{id i j:Nat}{blk:jV}(h:st.U s=.ref id i j)(b:id<st.Z)(c:st.Y id=some blk)(d:blk.arr=false)(f:xp L st)(hs:s<zB:=by decide):xp (s::L) st:=fun t a=>by
 rcases zC.1 a with rfl|a
 ·refine⟨⟨fun id' o n e=>(by rw[h]at e;cases e),fun id' i' j' e=>?_⟩,fun g=>absurd hs (Nat.not_lt.2 g)⟩;rw[h]at e;injection e with e _ _
  subst e;exact⟨b,blk,c,d⟩
 ·exact f t a
theorem dw{s:Tmp}{L:List Tmp}{st:St}{x:zb}(h:st.U s=.q8 x)(b:xp L st)(hs:s<zB:=by decide):xp (s::L) st:=fun t a=>by
 rcases zC.1 a with rfl|a
 ·exact⟨⟨fun id' o n e=>(by rw[h]at e;cases e),fun id' i' j' e=>(by rw[h]at e;cases e)⟩,fun c=>absurd hs (Nat.not_lt.2 c)⟩
 ·exact b t a
theorem XA{a b:Tmp}{st:St}{id i j id' i' j':Nat}{blk:jV}(d:st.U a=.ref id i j)(e:st.U b=.ref id' i' j')(f:id≠id')(g:st.Y id'=some blk)(h:blk.arr=false):iI st a b:=by
 intro k l m c;rw[d]at c;injection c with c _ _
 subst c;exact⟨id',i',j',blk,e,f,g,h⟩
theorem XB{a b:Tmp}{st:St}{x:zb}(d:st.U a=.q8 x):iI st a b:=by intro e f g c;rw[d]at c;cases c
theorem oq(p:Part)(i:Nat)(w:i<3)(Y:p.ok):∃j,zt Crsd f221 [.agg p.V,int i]=some j/\wu j (xu p i):=by
 obtain⟨a,b,c,d,e⟩:=p;obtain⟨⟨k,l⟩,⟨m,n⟩,⟨o,q⟩,_⟩:=Y;simp only at k l m n o q;refine kJ (sh:=.g v7) rfl ?_;have r:=wo (a+1);have t:=wo (b+1);have u:=wo (c+1);have f:∀(a b c:Int) (Y:Hp) (Z id:Nat),Y id=some ⟨9,1,true,[[str [48]]]⟩->Qc [.a,.s 1 []] tq [nb a b c,.own id 0 1] Y Z=some (.agg (⟨a,b,c,[[48]]⟩:yE).V,ql Y id none,Z):=fun a b c Y Z id v=>W9 a b c [[48]] (.own id 0 1) (.sl 1 [[str [48]]]) Y (ql Y id none) Z (by simp[v]) rfl (fun h=>by cases h)
 simp[nb,str]at f;rcases(by omega:i=0\/i=1\/i=2)with rfl|rfl|rfl
 ·simp[Part.V,r];rw[zO];simp;rw[zO];simp;rw[zO];simp;rw[xt (xW (XA (by simp;exact⟨rfl,rfl,rfl⟩) (by simp;exact⟨rfl,rfl,rfl⟩) (by omega) (by simp;rfl) rfl) (xW (XB (by simp;rfl)) (Xz _)))
   (Wq (by simp;exact⟨rfl,rfl,rfl⟩) (by simp) (by simp;rfl) rfl (Wq (by simp;exact⟨rfl,rfl,rfl⟩) (by simp) (by simp;rfl) rfl (dw (by simp;rfl) (dv _))))]
  simp[f,qg,qF,zu,zX,zv,qV,xu,kS,Yb,Cut.V,yE.V,f221]
 ·simp[Part.V,t];rw[zO];simp;rw[zO];simp;rw[xt (xW (XA (by simp;exact⟨rfl,rfl,rfl⟩) (by simp;exact⟨rfl,rfl,rfl⟩) (by omega) (by simp;rfl) rfl) (xW (XB (by simp;rfl)) (Xz _)))
   (Wq (by simp;exact⟨rfl,rfl,rfl⟩) (by simp) (by simp;rfl) rfl (Wq (by simp;exact⟨rfl,rfl,rfl⟩) (by simp) (by simp;rfl) rfl (dw (by simp;rfl) (dv _))))]
  simp[f,qg,qF,zu,zX,zv,qV,xu,kS,Yb,Cut.V,yE.V,f221]
 ·simp[Part.V,u];rw[zO];simp;rw[xt (xW (XA (by simp;exact⟨rfl,rfl,rfl⟩) (by simp;exact⟨rfl,rfl,rfl⟩) (by omega) (by simp;rfl) rfl) (xW (XB (by simp;rfl)) (Xz _)))
   (Wq (by simp;exact⟨rfl,rfl,rfl⟩) (by simp) (by simp;rfl) rfl (Wq (by simp;exact⟨rfl,rfl,rfl⟩) (by simp) (by simp;rfl) rfl (dw (by simp;rfl) (dv _))))]
  simp[f,qg,qF,zu,zX,zv,qV,xu,kS,Yb,Cut.V,yE.V,f221]
noncomputable def FPi (f:Part->Nat->O):zb->Option O:=zS (α:=Part×Nat) (fun a=>[.agg a.1.V,int a.2]) (fun a=>a.1.ok/\a.2<3) (fun a=>f a.1 a.2)
theorem Rb:∀a b:Part×Nat,[O.agg a.1.V,int a.2]=[O.agg b.1.V,int b.2]->a=b:=by rintro⟨h,d⟩ ⟨i,f⟩ e;simp only[zc,zs]at e;obtain⟨c,g⟩:=e;injection c with c;have:=zT g;rw[du c,show d=f by omega]
theorem ot(f:Part->Nat->O)(p:Part)(i:Nat)(u:O)(Y:Hp)(Z:Nat)(h:p.ok)(b:i<3)(c:(Sh.g Jc).fix u=.agg p.V)(d:qe Y u=some (u,Y))(e:u.noOwn=true):qH [.g Jc] (FPi f) [u,int i] Y Z=some (f p i,Y,Z):=
 va (show zy Y [u,int i]=some ([u,int i],Y) by simp only[zy,d];rfl) (by show FPi f [(Sh.g Jc).fix u,int i]=_;rw[c];exact qx (V:=fun a:Part×Nat=>[O.agg a.1.V,int a.2]) (a:=(p,i)) Rb ⟨h,b⟩) (.inr (by rw[wJ,e];rfl))
theorem Vn:zf prog 221 (qH [.g Jc] (FPi xu)):=
 yN (fn:=f221) L3 (qW func221) _ _ fun args r h=>by obtain⟨⟨p,i⟩,rfl,⟨a,b⟩,rfl⟩:=qd h;obtain⟨c,d,e⟩:=oq p i b a;exact⟨by simp[f221],c,d,e⟩
def QI(p:Part):Cut:=if p.has<3 then kS p (p.has-1).toNat else⟨⟨p.n0,p.n1,p.n2,p.pre⟩,true⟩
def dx(p:Part):Bool:=if p.has<3 then Yb p (p.has-1).toNat else true
def Vo(p:Part):O:=.q8 [.agg (QI p).V,qO (dx p)]
noncomputable abbrev Chi:Ctx:=zG prog [(243,Qc [.a,.s 1 []] tq),(221,qH [.g Jc] (FPi xu))]
theorem Rc:Gd Chi:=zM mixed ⟨QZ,Vn,trivial⟩
@[simp]theorem bL(p:Part)(Y:Hp):qe Y (.agg p.V)=some (.agg p.V,Y):=by simp[Part.V]
theorem CF(p:Part)(Y:p.ok):zt Chi f220 [.agg p.V]=some (Vo p):=by
 have a:=Y;obtain⟨_,_,_,⟨g,h⟩,_⟩:=Y;refine zl rfl ?_;have b:=fun Y Z=>ot xu p (p.has-1).toNat (.agg p.V) Y Z a (by omega) (by simp[Part.V]) (bL p Y) (by simp[Part.V])
 have e:(((p.has-1).toNat:Nat):Int)=p.has-1:=by omega
 have f:=wo (p.has-1);rw[e]at b;have c:=fun Y Z=>W9 p.n0 p.n1 p.n2 p.pre (.sl 1 (zZ p.pre)) (.sl 1 (zZ p.pre)) Y Y Z (by simp) rfl (fun _=>rfl)
 simp[nb]at c;simp only[Part.V]at b;by_cases d:p.has<3
 ·simp[Part.V,d,b,f,Vo,QI,dx,xu,Cut.V,qU,f220]
 ·simp[Part.V,d,c,Vo,QI,dx,Cut.V,yE.V,qg,qF,qU,f220]
theorem tv:zf prog 220 (qH [.g Jc] (FPa Vo)):=
 yN (fn:=f220) Rc (qW func220) _ _ fun args r h=>by obtain⟨p,rfl,a,rfl⟩:=qd h;exact⟨by simp[f220],_,CF p a,wu.refl _⟩
noncomputable def Ew (a b:Cut):List wG:=if 0<=xl a b then[]else[P8 a b]
noncomputable def dy (a b:Cut):O:=.sl 11 (qD (Ew a b))
noncomputable abbrev Cbt:Ctx:=zG prog [(223,qH [.g v7,.g v7] (FG fun v w=>int (xl v w)))]
theorem Re:Gd Cbt:=zM mixed ⟨kR,trivial⟩
theorem lG(x y:Cut)(c:x.v.small)(d:y.v.small):∃b,zt Cbt f219 [.agg x.V,.agg y.V]=some b/\wu b (dy x y):=by
 refine WX (sh:=.s 11 vr) rfl ?_;have a:=fun Y Z=>AA x y (.agg x.V) (.agg y.V) Y Z (by simp[Cut.V]) (by simp[Cut.V]) (by simp[Cut.V]) c d
 simp only[Cut.V]at a;by_cases h:0<=xl x y
 ·simp[Cut.V,a,h,cS,dy,Ew,qD,f219]
 ·simp[Cut.V,a,h,qg,qF,zu,zX,zv,cS,dy,Ew,qD,P8,wG.V,f219]
theorem fF:zf prog 219 (qH [.g v7,.g v7] (FG dy)):=
 yN (fn:=f219) Re (qW func219) _ _ fun args r h=>by obtain⟨⟨v,w⟩,rfl,⟨a,b⟩,rfl⟩:=qd h;obtain⟨c,d,e⟩:=lG v w a b;exact⟨by simp[f219],c,d,e⟩
structure vx where
 sign:List UInt8
 p:Part
 tu:Part
def vx.V(c:vx):zb:=[str c.sign,int c.p.n0,int c.p.n1,int c.p.n2,int c.p.has,.sl 1 (zZ c.p.pre),int c.tu.n0,int c.tu.n1,int c.tu.n2,int c.tu.has,.sl 1 (zZ c.tu.pre)]
abbrev lH:List (Option Nat):=[none,none,none,none,none,some 1,none,none,none,none,some 1]
theorem CG{a b:vx}(h:a.V=b.V):a=b:=by obtain⟨q,⟨r,s,t,u,v⟩,⟨w,x,y,z,e⟩⟩:=a;obtain⟨A,⟨B,C,D,E,F⟩,⟨G,H,I,J,f⟩⟩:=b;simp only[vx.V,zc,zs]at h;obtain⟨g,i,j,k,l,d,m,n,o,p,c⟩:=h;injection d with _ d;injection c with _ c;rw[qv g,zT i,zT j,zT k,zT l,jd d,zT m,zT n,zT o,zT p,jd c]
def ju:za:=[97,108,108]
def vx.ok(c:vx):Prop:=c.sign.length<=zw/\(c.sign=ju\/(c.p.ok/\(c.sign=[45]->c.tu.ok)))
def ZA(p:Part):Nat:=if 1<p.has/\p.n0=0 then(if 2<p.has/\p.n1=0 then 2 else 1)else 0
noncomputable def ZB (c:vx):List wG×Bool:=
 if c.sign=ju then([jN yL],true)
 else if c.sign=[62,61]then([jN (JV c.p)],true)
 else if c.sign=[60]then(Ew yL (JV c.p),true)
 else if c.sign=[62]then([jN (QI c.p)],dx c.p)
 else if c.sign=[60,61]then(Ew yL (QI c.p),dx c.p)
 else if c.sign=[45]then(Ew (JV c.p) (QI c.tu),dx c.tu)
 else if c.sign=[126]then(Ew (JV c.p) (kS c.p (min (c.p.has-1) 1).toNat),Yb c.p (min (c.p.has-1) 1).toNat)
 else if c.sign=[94]then(Ew (JV c.p) (kS c.p (ZA c.p)),Yb c.p (ZA c.p))
 else(Ew (JV c.p) (QI c.p),dx c.p)
noncomputable def Q0 (c:vx):O:=.q8 [.sl 11 (qD (ZB c).1),qO (ZB c).2]
def Rf(p:Part):O:=.agg (JV p).V
def FR:O:=.agg yL.V
noncomputable abbrev Cstt:Ctx:=zG prog [(218,qH [.g Jc] (FPt Rf)),(220,qH [.g Jc] (FPa Vo)),(221,qH [.g Jc] (FPi xu)),(217,qH [] (Kl FR)),(183,qH [] (Kl KE)),(219,qH [.g v7,.g v7] (FG dy))]
theorem L4:AM.Good Cstt (fun g=>[217,219].contains g):=qc mixed ⟨CE,by simp,tv,by simp,Vn,by simp,al,fun _=>vp _ _,Wo,by simp,fF,fun _=>vp _ _,trivial⟩
theorem FT:yL.v.small:=⟨by decide,fun p Y=>by simp[yL]at Y;subst Y;decide⟩
theorem Vp(p:Part)(i:Nat):(kS p i).v.small:=by
 have h:(kS p i).v.pre=[[48]]:=by unfold kS;split<;>rfl
 exact⟨by rw[h];decide,fun q a=>by rw[h]at a;simp at a;subst a;decide⟩
theorem JJ{p:Part}(h:vE p.pre):(JV p).v.small:=h
theorem KF{p:Part}(h:vE p.pre):(QI p).v.small:=by
 unfold QI;split
 ·exact Vp _ _
 ·exact h
theorem lI(c:Cut):(Sh.g v7).fix (.agg c.V)=.agg c.V:=by simp[Cut.V]
theorem FU(c:Cut)(Y:Hp):qe Y (.agg c.V)=some (.agg c.V,Y):=by simp[Cut.V]
theorem Vq(x y:Cut)(Y:Hp)(Z:Nat)(b:x.v.small)(c:y.v.small):qH [.g v7,.g v7] (FG dy) [.agg x.V,.agg y.V] Y Z=some (dy x y,Y,Z):=
 va (show zy Y [.agg x.V,.agg y.V]=some ([.agg x.V,.agg y.V],Y) by simp only[zy,FU]) (by show FG _ [(Sh.g v7).fix (.agg x.V),(Sh.g v7).fix (.agg y.V)]=_;rw[lI,lI];exact qx (V:=fun a:Cut×Cut=>[O.agg a.1.V,.agg a.2.V]) (a:=(x,y)) FH ⟨b,c⟩) (.inr (by simp[Cut.V]))
theorem dz(c:vx)(S:c.ok):∃r0,zt Cstt f184 [.agg c.V]=some r0/\wu r0 (Q0 c):=by
 obtain⟨h,p,T⟩:=c;obtain⟨_,S⟩:=S;simp only at S;refine kJ (sh:=.s 11 vr) rfl ?_;have e:=fun Y Z=>FO Rf p Y Z
 have J:∀(Y:Hp) (Z:Nat),qH [] (Kl FR) [] Y Z=some (.agg [int yL.v.a,int yL.v.b,int yL.v.c,.sl 1 (zZ yL.v.pre),qO yL.after],Y,Z):=fun Y Z=>Ya _ Y Z
 have X:∀(Y:Hp) (Z:Nat),qH [] (Kl KE) [] Y Z=some (.sl 11 (qD [jN yL]),Y,Z):=fun Y Z=>Ya _ Y Z
 simp only[Rf,Part.V,Cut.V]at e;by_cases K:h=ju
 ·subst K;simp[vx.V,e,X,ju,qV,Q0,ZB,qD,jN,wG.V,Cut.V,WI,f184]
 obtain⟨Y,ht⟩:=S.resolve_left K;have B:vE p.pre:=Y.2.2.2.2;have k:(h==[97,108,108])=false:=by simpa[ju]using K
 by_cases W:h=[62,61]
 ·subst W;simp[vx.V,e,k,qg,qF,zu,zX,zv,ju,qV,Q0,ZB,qD,jN,wG.V,Cut.V,WI,f184]
 have l:=jr W;have L:=fun Y Z=>Vq yL (JV p) Y Z FT (JJ B)
 have M:=fun Y Z=>Vq yL (QI p) Y Z FT (KF B)
 have G:=fun I Z=>oo Vo p (.agg p.V) I Z Y (by simp[Part.V]) (bL p I) (by simp[Part.V])
 simp only[dy,Vo,Part.V,Cut.V]at L M G;by_cases s2:h=[60]
 ·subst s2;simp[vx.V,e,J,L,k,l,ju,qV,Q0,ZB,qD,wG.V,Cut.V,f184]
 have m:=jr s2;by_cases s3:h=[62]
 ·subst s3;simp[vx.V,e,G,k,l,m,qg,qF,zu,zX,zv,ju,qV,Q0,ZB,qD,jN,wG.V,Cut.V,WI,f184]
 have q:=jr s3;by_cases s4:h=[60,61]
 ·subst s4;simp[vx.V,e,G,J,M,k,l,m,q,qg,qF,zu,zX,zv,ju,qV,Q0,ZB,qD,jN,wG.V,Cut.V,WI,f184]
 have r:=jr s4;by_cases s5:h=[45]
 ·subst s5;have N:=ht rfl;have P:=fun Y Z=>Vq (JV p) (QI T) Y Z (JJ B) (KF N.2.2.2.2)
  have Q:=fun I Z=>oo Vo T (.agg T.V) I Z N (by simp[Part.V]) (bL T I) (by simp[Part.V])
  simp only[dy,Vo,Part.V,Cut.V]at P Q;simp[vx.V,e,Q,P,k,l,m,q,r,qg,qF,zu,zX,zv,ju,qV,Q0,ZB,qD,jN,wG.V,Cut.V,WI,f184]
 have t:=jr s5;have u:=fun i (hi:i<3) I Z=>ot xu p i (.agg p.V) I Z Y hi (by simp[Part.V]) (bL p I) (by simp[Part.V])
 have w:=fun i Y Z=>Vq (JV p) (kS p i) Y Z (JJ B) (Vp p i)
 simp only[dy,xu,Part.V,Cut.V]at u w;have x:IntKind.i64.wrap (p.has-1)=p.has-1:=qE (by have:=Y.2.2.2.1;omega) (by have:=Y.2.2.2.1;omega);by_cases s6:h=[126]
 ·subst s6;have hm:(if 1<p.has-1 then 1 else p.has-1)=(((min (p.has-1) 1).toNat:Nat):Int):=by have:=Y.2.2.2.1;split<;>omega
  have d:=u (min (p.has-1) 1).toNat (by omega);rw[<-hm]at d;simp[vx.V,e,d,w,x,k,l,m,q,r,t,qg,qF,zu,zX,zv,ju,qV,Q0,ZB,qD,jN,wG.V,Cut.V,WI,f184]
 have y:=jr s6;by_cases s7:h=[94]
 ·subst s7;have hs3:(2:Int)<p.has->p.has=3:=by have:=Y.2.2.2.1;omega
  by_cases n:1<p.has
  ·have f:(0:Int)<p.has-1:=by omega
   by_cases C:p.n0=0
   ·have g:(p.n0==0)=true:=by simpa using C
    by_cases D:2<p.has
    ·have j:(1:Int)<p.has-1:=by omega
     have E:¬(2:Int)<p.has-1:=by have:=Y.2.2.2.1;omega
     by_cases H:p.n1=0
     ·have z:(p.n1==0)=true:=by simpa using H
      have o:ZA p=2:=by simp[ZA,n,f,D,j,E,C,H]
      have d:=u 2 (by omega);rw[show((2:Nat):Int)=2 from rfl]at d;simp[vx.V,e,x,k,l,m,q,r,t,y,n,f,D,j,E,g,z,ju];rw[zO];simp[vx.V,e,x,k,l,m,q,r,t,y,n,f,D,j,E,g,z];rw[zO];simp[vx.V,e,x,k,l,m,q,r,t,y,n,f,D,j,E,g,z];rw[zO];simp[vx.V,e,x,k,l,m,q,r,t,y,d,w,o,n,f,D,j,E,g,z,qg,qF,zu,zX,zv,ju,qV,Q0,ZB,qD,jN,wG.V,Cut.V,WI,f184]
     ·have A:=jr H;have o:ZA p=1:=by simp[ZA,n,f,D,j,C,H,A]
      have d:=u 1 (by omega);rw[show((1:Nat):Int)=1 from rfl]at d;simp[vx.V,e,x,k,l,m,q,r,t,y,n,f,D,j,g,A,ju];rw[zO];simp[vx.V,e,x,k,l,m,q,r,t,y,n,f,D,j,g,A];rw[zO];simp[vx.V,e,x,k,l,m,q,r,t,y,d,w,o,n,f,D,j,g,A,qg,qF,zu,zX,zv,ju,qV,Q0,ZB,qD,jN,wG.V,Cut.V,WI,f184]
    ·have j:¬(1:Int)<p.has-1:=by omega
     have o:ZA p=1:=by simp[ZA,n,f,D,j,C]
     have d:=u 1 (by omega);rw[show((1:Nat):Int)=1 from rfl]at d;simp[vx.V,e,x,k,l,m,q,r,t,y,n,f,D,j,g,ju];rw[zO];simp[vx.V,e,x,k,l,m,q,r,t,y,n,f,D,j,g];rw[zO];simp[vx.V,e,x,k,l,m,q,r,t,y,d,w,o,n,f,D,j,g,qg,qF,zu,zX,zv,ju,qV,Q0,ZB,qD,jN,wG.V,Cut.V,WI,f184]
   ·have F:=jr C;have o:ZA p=0:=by simp[ZA,n,f,C,F]
    have d:=u 0 (by omega);rw[show((0:Nat):Int)=0 from rfl]at d;simp[vx.V,e,x,k,l,m,q,r,t,y,n,f,F,ju];rw[zO];simp[vx.V,e,x,k,l,m,q,r,t,y,d,w,o,n,f,F,qg,qF,zu,zX,zv,ju,qV,Q0,ZB,qD,jN,wG.V,Cut.V,WI,f184]
  ·have f:¬(0:Int)<p.has-1:=by omega
   have o:ZA p=0:=by simp[ZA,n,f]
   have d:=u 0 (by omega);rw[show((0:Nat):Int)=0 from rfl]at d;simp[vx.V,e,x,k,l,m,q,r,t,y,n,f,ju];rw[zO];simp[vx.V,e,x,k,l,m,q,r,t,y,d,w,o,n,f,qg,qF,zu,zX,zv,ju,qV,Q0,ZB,qD,jN,wG.V,Cut.V,WI,f184]
 have e7:=jr s7;have R:=fun Y Z=>Vq (JV p) (QI p) Y Z (JJ B) (KF B)
 simp only[dy,Cut.V]at R;simp only[ju]at K;have e1':=W;simp[vx.V,e,G,R,k,l,m,q,r,t,y,e7,K,W,s2,s3,s4,s5,s6,s7,qg,qF,zu,zX,zv,ju,qV,Q0,ZB,qD,jN,wG.V,Cut.V,WI,f184]
noncomputable def FCm (f:vx->O):zb->Option O:=zS (α:=vx) (fun c=>[.agg c.V]) vx.ok f
theorem bd:zf prog 184 (qH [.g lH] (FCm Q0)):=
 yN (fn:=f184) L4 (qW func184) _ _ fun args r h=>by obtain⟨c,rfl,a,rfl⟩:=qd h;obtain⟨b,d,e⟩:=dz c a;exact⟨by simp[f184],b,d,e⟩
def wP:List za:=[[62,61],[60,61],[62],[60],[61],[126],[94]]
def wW:List za->za->za×za
 |[],s=>([],s)
 |g::l,s=>if g.isPrefixOf s=true then(g,s.drop g.length)else wW l s
def L5(s:za):O:=.q8 [str (wW wP s).1,str (wW wP s).2]
noncomputable abbrev Cop:Ctx:=zG prog [(242,zg false [] (xR LU fun _ _=>True))]
theorem Rh:Gd Cop:=zM mixed ⟨aY,trivial⟩
theorem fG(s:za)(h:s.length<=zw):zt Cop f215 [str s]=some (L5 s):=by
 refine zl rfl ?_;have l:∀Y Z,zu prog Y Z 49 7 [(0,str [62,61]),(1,str [60,61]),(2,str [62]),(3,str [60]),(4,str [61]),(5,str [126]),(6,str [94])]=some (.own Z 0 7,ql Y Z (some ⟨9,1,true,zZ wP⟩),Z+1):=fun Y Z=>by simp[zu,zX,zv,wP,str]
 simp[str]at l;simp[l];refine zP (fun k U Y Z=>U 0=str s/\U 8=.own 0 0 7/\U 9=int 7/\U 10=int k/\Y 0=some ⟨9,1,true,zZ wP⟩/\wW wP s=wW (wP.drop k) s) 7 ⟨by simp,by simp,by simp,by simp,by simp,by simp⟩ ?_;rintro k U Y Z r ⟨f,g,i,b,m,a⟩;by_cases c:k<7
 ·have e:k<wP.length:=c;have j:wP[k].length<=zw:=by
   have:∀q∈wP,q.length<=zw:=by decide
   exact this _ (zm e)
  have n:=fun Y Z=>Av s wP[k] Y Z h j
  have o:=qz k;have d:(k:Int)<7:=by omega
  rw[zd e]at a;simp only[wW]at a;by_cases Y:(wP[k]).isPrefixOf s=true
  ·rw[ze Y]at a;simp[f,g,i,b,m,d,c,e,n,Y,o,L5,a,qU,f215]
  ·rw[zj Y]at a;have p:(wP[k]).isPrefixOf s=false:=Bool.eq_false_iff.2 Y;simp[f,g,i,b,m,d,c,e,n,p,o];exact⟨by omega,a⟩
 ·obtain rfl:k=7:=by omega
  rw[show wP.drop 7=[]from rfl]at a;simp only[wW]at a;simp[f,g,i,b,L5,a,qU, f215]
theorem dA:zf prog 215 (zg false [] (PS L5)):=
 kL Rh func215 false [] fun l Y=>⟨by simp[f215],_,fG l Y,qa _⟩
def lJ(l:za):Bool:=l.isEmpty
theorem dB:zf prog 213 (zg false [] (FS lJ)):=
 kL y7 func213 false [] fun l Y=>⟨by simp[f213],_,zl rfl (by simp[qU,lJ,f213]),qa _⟩
def XC:Nat->List za->Int
 |_,[]=>-1
 |k,x::l=>if x=[]then k else XC (k+1) l
def bM:O:=.fn (.func 213) [] []
noncomputable def FIx:zb->Option O:=zS (α:=List za) (fun l=>[.sl 1 (zZ l),bM]) vE (fun l=>int (XC 0 l))
noncomputable abbrev Cixf:Ctx:=zG prog [(213,zg false [] (FS lJ))]
theorem L6:Gd Cixf:=zM mixed ⟨dB,trivial⟩
theorem bf(l:List za)(h:vE l):zt Cixf f132 [.sl 1 (zZ l),bM]=some (int (XC 0 l)):=by
 refine zl rfl ?_;obtain⟨o,e⟩:=h;unfold zw at o;simp[bM];refine zP (fun k U Y Z=>U 0=.sl 1 (zZ l)/\U 1=bM/\U 7=int l.length/\U 8=int k/\XC 0 l=XC k (l.drop k)) l.length ⟨by simp,by simp[bM],by simp,by simp,by simp⟩ ?_;rintro k U Y Z q ⟨f,g,i,j,b⟩;by_cases a:k<l.length
 ·have m:=qz k;have n:=fun p Z=>ke lJ l[k] p Z (e _ (zm a))
  rw[zd a]at b;simp only[XC]at b;by_cases d:l[k]=[]
  ·rw[ze d]at b;have c:lJ l[k]=true:=by simpa[lJ]using d
   simp[f,g,i,j,bM,a,n,c,m,b,qU,f132]
  ·rw[zj d]at b;have c:lJ l[k]=false:=by simpa[lJ]using d
   simp[f,g,i,j,bM,a,n,c,m];exact⟨a,b⟩
 ·obtain rfl:k=l.length:=by omega
  rw[zp]at b;simp only[XC]at b;simp[f,g,i,j,b,qU,f132]
theorem FW:∀a b:List za,[O.sl 1 (zZ a),bM]=[O.sl 1 (zZ b),bM]->a=b:=fun a b e=>by
 simp only[zc,zs]at e;injection e with _ e
 exact jd e
theorem XD:zf prog 132 (zg false [] FIx):=
 kL L6 func132 false [] fun l Y=>⟨by simp[f132],_,bf l Y,qa _⟩
theorem FY(l:List za)(Y:Hp)(Z id:Nat)(h:vE l)(b:Y id=some (Ky l)):zg false [] FIx [.own id 0 l.length,bM] Y Z=some (int (XC 0 l),Y,Z):=by
 have c:(zZ l).take l.length=zZ l:=q6 (by simp);refine wR (show zy Y [.own id 0 l.length,bM]=some ([.sl 1 (zZ l),bM],ql Y id none) by have:Y id=some ⟨9,1,true,zZ l⟩:=b;simp[bM,this,c]) (qx (V:=fun l:List za=>[O.sl 1 (zZ l),bM]) (a:=l) FW h) (.inl rfl)
def wa(l:List za):List za:=l.filter fun x=>!lJ x
theorem gP:∀(l:List za) (k:Nat),(XC k l=-1/\wa l=l)\/∃i,∃h:i<l.length,XC k l=((k+i:Nat):Int)/\lJ l[i]=true/\wa (l.take i)=l.take i
 |[],k=>.inl ⟨rfl,rfl⟩
 |x::l,k=>by
  by_cases a:x=[]
  ·exact .inr ⟨0,by simp,by simp[XC,a],by simp[lJ,a],by simp[wa]⟩
  ·have b:lJ x=false:=by simpa[lJ]using a
   rcases gP l (k+1)with⟨c,d⟩|⟨i,h,c,d,e⟩
   ·exact .inl ⟨by simp[XC,a,c],by simp only[wa,Yv,b];simpa[wa]using d⟩
   ·refine .inr ⟨i+1,by simpa using h,by simp only[XC,zj a,c];congr 1;omega,by simpa using d,?_⟩;simp only[wi,wa,Yv,b];simpa[wa]using e
theorem Yc{l:List za}{j:Nat}(h:j<l.length):wa (l.take (j+1))=if lJ l[j]=true then wa (l.take j)else wa (l.take j)++[l[j]]:=by rw[qo h];simp only[wa,J0,Yv,List.filter_nil];cases lJ l[j]<;>simp
theorem ao(a b:List za):zZ (a++b)=zZ a++zZ b:=by simp[zZ]
theorem CH{l:List za}{i:Nat}(h:i<l.length):zZ l=zZ (l.take i)++[str l[i]]::zZ (l.drop (i+1)):=by rw[<-JG,<-ao,<-zd h,Qy]
noncomputable abbrev Cdf:Ctx:=zG prog [(213,zg false [] (FS lJ)),(132,zg false [] FIx)]
theorem Ri:Gd Cdf:=zM mixed ⟨dB,XD,trivial⟩
theorem XE:zf prog 212 (qq Cdf f212):=w8 Ri func212
def DelQ(l:List za)(id:Nat)(Y:Hp)(Z:Nat)(x:O)(b:Hp)(Z':Nat):Prop:=x=.own id 0 (wa l).length/\Z'=Z/\(∃a,b id=some ⟨9,1,true,zZ (wa l)++a⟩)/\∀j,j≠id->b j=Y j
theorem tw(l:List za)(E:Hp)(Z0 id:Nat)(h:vE l)(F:E id=some (Ky l)):∃x R Z',qq Cdf f212 [.own id 0 l.length,bM] E Z0=some (x,R,Z')/\DelQ l id E Z0 x R Z':=by
 unfold qq;rw[ze (by simp[f212])];refine zY rfl ?_;have n:=FY l E Z0 id h F;obtain⟨hl,W⟩:=h;unfold zw at hl;simp only[bM]at n;have G:E id=some ⟨9,1,true,zZ l⟩:=F;rcases gP l 0 with⟨X,H⟩|⟨i,S,X,H,e3⟩
 ·rw[X]at n;simp[bM,n,DelQ,H,f212];exact⟨[],by simpa using G⟩
 ·rw[X]at n;have hi1:((i:Int)==-1)=false:=by simp
  have w:=qz i;simp[bM,n,hi1,w];refine zP (fun k U Y Z=>U 0=.own id 0 l.length/\U 1=bM/\U 5=int (wa (l.take (i+1+k))).length/\U 6=int ((i:Int)+1+k)/\Z=Z0/\(∀j,j≠id->Y j=E j) /\
    ∃a,Y id=some ⟨9,1,true,zZ (wa (l.take (i+1+k)))++a++zZ (l.drop (i+1+k))⟩/\(wa (l.take (i+1+k))).length+a.length=i+1+k/\0<a.length/\∀c∈a,c.length=1) (l.length-(i+1))
   ⟨by simp,by simp[bM],by simp[Yc S,H,e3];omega,by simp,rfl,fun _ _=>rfl,[[str l[i]]],by simp[Yc S,H,e3,G];exact CH S,by simp[Yc S,H,e3];omega,by simp,by simp⟩ ?_
  rintro k U Y Z hk ⟨h0,h1,I,h6,rfl,z,a,s,A,J,B⟩;obtain⟨j,hj⟩:=kC (i+1+k);have C:U 6=int j:=by rw[h6];congr 2;omega
  rw[hj]at I s A;by_cases g:j<l.length
  ·have hc:=fun R Z=>ke lJ l[j] R Z (W _ (zm g))
   have K:=qz j;have hww:=wo (((wa (l.take j)).length:Int)+1);have u:(zZ (wa (l.take j))++a++zZ (l.drop j))[j]?=some [str l[j]]:=by rw[qZ (by simp;omega),zd g,JG];rw[show j-(zZ (wa (l.take j))++a).length=0 by simp;omega];rfl
   have o:(zZ (wa (l.take j))++a++zZ (l.drop j)).length=l.length:=by simp;omega
   obtain⟨d,f⟩:=kC (zZ (wa (l.take j))++a++zZ (l.drop j));rw[f]at s u o;have p:∀h:j<d.length,d[j]=[str l[j]]:=fun h=>(zh.1 u).2
   have t:=Yc g;have L:i+1+(k+1)=j+1:=by omega
   have w:(wa (l.take j)).length<l.length:=by omega
   cases T:lJ l[j]
   ·rw[T,zj (by simp)]at t;obtain⟨y,b,rfl,D⟩:∃y b,a=[y]::b/\∀c∈b,c.length=1:=by
     cases a with
     |nil=>simp at J
     |cons x b=>
      have:=B x (by simp)
      match x,this with
      |[y],_=>exact⟨y,b,rfl,fun c hc=>B c (by simp[hc])⟩
    have hg3:∀h:(wa (l.take j)).length<d.length,d[(wa (l.take j)).length]=[y]:=fun h=>by
     have:d[(wa (l.take j)).length]?=some [y]:=by rw[<-f,qY,qZ (by simp)];simp
     exact(zh.1 this).2
    have M:d.set (wa (l.take j)).length [str l[j]]=zZ (wa (l.take j))++([str l[j]]::b++zZ (l.drop j)):=by rw[<-f,qY,List.set_append_right _ _ (by simp)];simp
    simp only[zU]at A;simp[h0,h1,I,C,bM,g,s,p,hc,T,K,hww,w,o,hg3,M,L,t];refine⟨by omega,by omega,fun q N=>by rw[zk _ _ _ _ N];exact z q N,b++[[str l[j]]],?_,by simp;omega,by simp,?_⟩
    ·rw[ao];simp;rw[zd g,JG]
    ·intro c hc;rcases qh.1 hc with hc|hc
     ·exact D c hc
     ·simp at hc;subst hc;rfl
   ·rw[T,ze rfl]at t;simp[h0,h1,I,C,bM,g,s,p,hc,T,K,L,t,o];refine⟨by omega,by omega,z,a++[[str l[j]]],?_,by simp;omega,by simp,?_⟩
    ·rw[<-f];simp;rw[zd g,JG]
    ·intro c hc;rcases qh.1 hc with hc|hc
     ·exact B c hc
     ·simp at hc;subst hc;rfl
  ·obtain rfl:j=l.length:=by omega
   rw[ja]at I s A;rw[zp,Fu,yh]at s;have Le:¬(l.length:Int)<l.length:=by omega
   have v:(wa l).length<=l.length:=by omega
   have m:l.length-(wa l).length=a.length:=by omega
   have hcl:Xd prog Y Z 49 (.own id (wa l).length a.length)=some (.q8 [],ql Y id (some ⟨9,1,true,zZ (wa l)++List.replicate a.length [str []]⟩),Z):=by
    have ht:(zZ (wa l)++a).take (wa l).length=zZ (wa l):=by rw[List.take_append_of_le_length (by simp),Ct]
    have hd:(zZ (wa l)++a).drop ((wa l).length+a.length)=[]:=V4 (by simp);simp[Xd,s,ht,hd,J,str]
   have hs1:∀Y:Hp,Y id=some ⟨9,1,true,zZ (wa l)++a⟩->yX prog Y 49 (.own id 0 l.length) (some (some (int (wa l).length))) none=some (.own id (wa l).length a.length):=fun Y F=>by
    have:¬l.length=(wa l).length:=by omega
    simp[yX,F,js,v,m,this];intro e;rw[e]at m⊢;simp at m;simp[m]
   have hs2:∀(Y:Hp) (r:List zb),Y id=some ⟨9,1,true,r⟩->yX prog Y 49 (.own id 0 l.length) none (some (some (int (wa l).length)))=some (.own id 0 (wa l).length):=fun Y r F=>by simp[yX,F,js,v]
   have P:=hs1 Y s;have Q:=hs2 (ql Y id (some ⟨9,1,true,zZ (wa l)++List.replicate a.length [str []]⟩)) _ (by simp;rfl);simp[h0,h1,I,C,bM,s,P,Q,hcl,f212];exact⟨rfl,rfl,⟨_,by simp;rfl⟩,fun q N=>by rw[zk _ _ _ _ N];exact z q N⟩
def ou:vx:=⟨ju,vB,vB⟩
def aq(a:za)(p:Part):vx:=⟨a,p,vB⟩
def ko(w:za)(l:List za):Option (vx×List za):=
 if(wW wP w).1=[]/\xh (wW wP w).2=true then some (ou,l)
 else if(wW wP w).1≠[]/\(wW wP w).2=[]/\l≠[]then(match l with
  |r::l'=>if(zK r).2=true then some (aq (wW wP w).1 (zK r).1,l')else none
  |[]=>none)
 else if(zK (wW wP w).2).2=true then some (aq (wW wP w).1 (zK (wW wP w).2).1,l)else none
def wT:Nat->List za->Option (List vx)
 | 0,_=>some []
 |_+1,[]=>some []
 |n+1,w::l=>match ko w l with
  |some (c,l')=>(wT n l').map (c::·)
  |none=>none
theorem FZ{w:za}{l l':List za}{c:vx}(h:ko w l=some (c,l')):l'.length<=l.length:=by
 unfold ko at h;split at h
 ·injection h with h;injection h with _ h;subst h;exact zi _
 ·split at h
  ·split at h
   ·split at h
    ·injection h with h;injection h with _ h;subst h;simp
    ·cases h
   ·cases h
  ·split at h
   ·injection h with h;injection h with _ h;subst h;exact zi _
   ·cases h
def Vr(t:za):List vx×Bool:=
 match wa (qy t [32])with
 |[a,b,c]=>if b=[45]then([⟨[45],(zK a).1,(zK c).1⟩],(zK a).2&&(zK c).2)else(match wT 3 [a,b,c]with
  |some l=>(l,!l.isEmpty)
  |none=>([],false))
 |ws=>match wT ws.length ws with
  |some l=>(l,!l.isEmpty)
  |none=>([],false)
def vI(l:List vx):List zb:=l.map vx.V
def lK(t:za):O:=.q8 [.sl 11 (vI (Vr t).1),qO (Vr t).2]
theorem lL:∀(a:List za) (s:za),(wW a s).2.length<=s.length
 |[],s=>zi _
 |g::l,s=>by
  simp only[wW];split
  ·simp
  ·exact lL l s
noncomputable abbrev Calt:Ctx:=zG prog [(178,km [] TP),(212,qq Cdf f212),(214,zg false [] (da y8)),(215,zg false [] (PS L5)),(216,zg false [] (FS xh))]
theorem L7:AM.Good Calt (fun g=>[216].contains g):=qc mixed ⟨Jb,by simp,XE,by simp,Vg,by simp,dA,by simp,cY,fun _=>zr _ _,trivial⟩
def Wr:O->Nat
 | .own _ _ n=>n
 |_=>0
def F0(b:List za)(c:List zb)(st:St):Prop:=∃f a l xs,a.length<=f/\xs.length+a.length<=b.length/\b.drop (b.length-a.length)=a/\(a=[]/\st.U 4=.sl 1 []\/st.U 4=.own 0 (b.length-a.length) a.length) /\
 wD st.Y st.Z 250 11 (st.U 9) xs/\(∀n,st.U 9≠.own 0 0 n)/\xs.map (Qv lH)=vI l/\1<=st.Z/\st.Y 0=some ⟨9,1,true,c⟩/\wT b.length b=(wT f a).map (l++·)
theorem sl1(Y:Hp)(a:List zb)(o n:Nat)(b:Y 0=some ⟨9,1,true,a⟩):yX prog Y 49 (.own 0 o (n+1)) (some (some (int 1))) none=some (if n=0 then .sl 1 []else .own 0 (o+1) n):=by simp[yX,b,js]
theorem vJ{b a}{f':Nat}{l':List za}{l:List vx}{c:vx}{xs:List zb}{d:zb}{st:St}{v4:O}(k:l'.length<=f')(r:xs.length+1+l'.length<=b.length)(f:b.drop (b.length-l'.length)=l')(m:st.U 4=v4)(g:l'=[]/\v4=.sl 1 []\/v4=.own 0 (b.length-l'.length) l'.length)
  (o:wD st.Y st.Z 250 11 (st.U 9) (xs++[d])) (h:∀n,st.U 9≠.own 0 0 n) (e:Qv lH d=c.V) (i:xs.map (Qv lH)=vI l) (j:1<=st.Z) (p:st.Y 0=some ⟨9,1,true,a⟩) (q:wT b.length b=(wT f' l').map ((l++[c])++·)):F0 b a st:=
 ⟨f',l',l++[c],xs++[d],k,by simp;omega,f,by rw[m];exact g,o,h,by simp[i,e,vI],j,p,q⟩
theorem ov(f:Nat):wT f []=some []:=by cases f<;>rfl
theorem XF(t:za)(ht:t.length+1<=zw):∃r0,zt Calt f182 [str t]=some r0/\wu r0 (lK t):=by
 refine kJ (sh:=.s 11 lH) rfl ?_;have hsp:=fun Y Z=>WZ t [32] Y Z (by omega) (by decide) (by decide)
 have hpl:∀p∈qy t [32],p.length+1<=zw:=fun p Y=>by have:=xT Y;omega
 have IC:vE (qy t [32]):=⟨by have:=Qb (s:=t) (sep:=[32]) (by simp);omega,fun p Y=>by have:=hpl p Y;omega⟩;obtain⟨x,Y1,Um,ID,hx,hnx,⟨pad,hb⟩,BE⟩:=tw (qy t [32]) (ql (fun _=>none) 0 (some ⟨9,1,true,zZ (qy t [32])⟩)) 1 0 IC (by simp);subst hx;subst hnx;obtain⟨g,hws⟩:=kC (wa (qy t [32]));have O5:∀p∈g,p.length+1<=zw:=fun p Y=>hpl p (by rw[<-hws]at Y;exact(kX.1 Y).1)
 rw[hws]at ID hb;simp only[bM]at ID;have E:g.length<=zw:=by
  have h1:=Sy (fun x=>!lJ x) (qy t [32]);have h2:=Qb (s:=t) (sep:=[32]) (by simp);have h3:g.length=(wa (qy t [32])).length:=by rw[hws]
  unfold wa at h3;omega
 have Lh:=fun(p:za) (Y:p.length+1<=zw) B Z=>Z2 y8 p B Z Y
 simp[hsp,ID];by_cases hc:∃a c,g=[a,[45],c]
 ·obtain⟨a,c,rfl⟩:=hc;have ha:=fun B Z=>Lh a (O5 a (by simp)) B Z
  have hcc:=fun B Z=>Lh c (O5 c (by simp)) B Z
  simp only[y8,Part.V]at ha hcc;have m:lK t=.q8 [.sl 11 (vI [⟨[45],(zK a).1,(zK c).1⟩]),qO ((zK a).2&&(zK c).2)]:=by simp only[lK,Vr,hws,qI]
  rw[m];have hn:∀k,0<k->Y1 k=none:=fun k hk=>by rw[BE k (by omega),zk _ _ _ _ (by omega)]
  simp[hb,ha,hcc,qg,qF,zu,zX,zv,qV,vI,vx.V,f182]
 ·have m:lK t=(match wT g.length g with
   |some l=>.q8 [.sl 11 (vI l),qO (!l.isEmpty)]
   |none=>.q8 [.sl 11 [],qO false]):=by
   have hR:Vr t=(match wT g.length g with
    |some l=>(l,!l.isEmpty)
    |none=>([],false)):=by
    unfold Vr;rw[hws]
    match g,hc with
    |[],_=>rfl
    |[_],_=>rfl
    |[_,_],_=>rfl
    |[a,b,c],hc=>
     have:¬b=[45]:=fun e=>hc ⟨a,c,by rw[e]⟩
     simp only[zj this];rfl
    |_::_::_::_::_,_=>rfl
   unfold lK;rw[hR];cases wT g.length g<;>rfl
  obtain⟨z,BF⟩:=kC (zZ g++pad);have hrl:g.length<=z.length:=by rw[<-BF];simp
  have hat:∀k (h:k<g.length) (h':k<z.length),z[k]=[str g[k]]:=fun k h h'=>by subst BF;rw[Ek (by simpa using h)];simp[zZ]
  rw[BF]at hb;clear BF;by_cases h3:g.length=3
  ·have h31:=hat 1 (by omega) (by omega);have hne:(g[1]==[45])=false:=by
    match g,h3,hc with
    |[a,b,c],_,hc=>simpa using fun e=>hc ⟨a,c,by rw[e]⟩
   have h3l:1<z.length:=by omega
   have h33:((g.length:Int)==3)=true:=by simp[h3]
   simp[hb,h33,h3,h31,hne,h3l];refine jI (F0 g z) (fun st=>Wr (st.U 4)) ⟨g.length,g,[],[],zi _,by simp,by simp,.inr (by simp;try omega),.inl ⟨by simp,rfl⟩,by simp,rfl,by simp,by simpa using hb,by simp⟩ ?_;clear ID BE hsp;rintro⟨U,Y,Z⟩ ⟨f,rest,l,xs,hf,EA,Ez,h4,S,SH,F,hnx,J,R⟩;simp only at h4 S SH hnx J;cases rest with
   |nil=>
    rw[ov]at R;simp only[zL,yh]at R;rw[R]at m;rw[m];have IE:xs.length=l.length:=by have:=zo List.length F;simpa[vI]using this
    have Lf:(decide ((0:Int)<(xs.length:Int)))=!l.isEmpty:=by rw[IE];cases l<;>simp
    have hb2:(decide (0<xs.length))=!l.isEmpty:=by rw[IE];cases l<;>simp
    have Yy:U 4=.sl 1 []\/U 4=.own 0 g.length 0:=by
     rcases h4 with⟨_,h4⟩|h4
     ·exact .inl h4
     ·exact .inr (by simpa using h4)
    rcases S with⟨h9,rfl⟩|⟨id,hid,h9,hb9⟩
    ·simp[vI]at F;subst F;rcases Yy with Yy|Yy<;>simp[Yy,h9,qV,vI,f182]
    ·rcases Yy with Yy|Yy<;>simp[Yy,h9,hb9,Lf,hb2,F,qV,f182]
   |cons w l'=>
    obtain⟨f',rfl⟩:∃f',f=f'+1:=⟨f-1,by simp at hf;omega⟩;simp only[zU]at hf EA Ez h4;obtain⟨o,ho⟩:=kC (g.length-(l'.length+1));rw[ho]at Ez h4;have Yy:U 4=.own 0 o (l'.length+1):=by
     rcases h4 with⟨h,_⟩|h
     ·cases h
     ·exact h
    have O6:o<g.length:=by omega
    have C:o<z.length:=by omega
    rw[zd O6]at Ez;injection Ez with hdw K
    have u:z[o]=[str w]:=by rw[hat o O6 C,hdw]
    have hww:w.length+1<=zw:=O5 w (by rw[<-hdw];exact zm O6);have D:=fun B Z'=>cZ L5 w B Z' (by omega) rfl
    simp only[L5]at D;have T:(wW wP w).2.length+1<=zw:=by have:=lL wP w;omega
    have y:=fun B Z'=>ke xh (wW wP w).2 B Z' (by omega)
    obtain⟨v4,hv4⟩:=kC (if l'.length=0 then O.sl 1 []else .own 0 (o+1) l'.length);have hs1:=fun B (hh:B 0=some _)=>sl1 B z o l'.length hh
    rw[hv4]at hs1;have n:=hs1 Y J;have W:o+1=g.length-l'.length:=by omega
    have A:l'=[]/\v4=.sl 1 []\/v4=.own 0 (g.length-l'.length) l'.length:=by
     rw[<-hv4,<-W];by_cases h:l'.length=0
     ·exact .inl ⟨qC.1 h,ze h⟩
     ·exact .inr (zj h)
    have X:Wr v4<l'.length+1:=by rcases A with⟨_,h⟩|h<;>rw[h]<;>simp[Wr]
    have hl4:YJ prog 49 v4=some (int l'.length):=by
     rcases A with⟨h1,h⟩|h
     ·subst h1;rw[h];simp
     ·rw[h];simp
    rw[W]at K;have se:=fun c S=>wD.jb (Y:=Y) (Z:=Z) (v:=U 9) (xs:=xs) (P:=prog) (t:=243) (c:=c) S Kb Kc Kd Ke rfl (by omega) (by unfold maxLen;unfold zw at E;omega) (by unfold zw at E;omega)
    by_cases hA:(wW wP w).1=[]/\xh (wW wP w).2=true
    ·have L:ko w l'=some (ou,l'):=by unfold ko;rw[ze hA]
     have i:wT g.length g=(wT f' l').map ((l++[ou])++·):=by rw[R];simp only[wT,L];cases wT f' l'<;>simp
     have IF:=se [str ju,int 0,int 0,int 0,int 0,.nil,int 0,int 0,int 0,int 0,.nil] S;obtain⟨hA1,hA2⟩:=hA;simp only[ju]at IF;simp[Yy,J,C,u,D,y,n,hA1,hA2,IF,qg,qF,zu,zX,zv];have n0:¬0=Z:=by omega
     have n1:¬0=Z+1:=by omega
     have n2:¬0=Z+2:=by omega
     have Q:=fun B=>yo S B 0 SH
     exact⟨vJ (v4:=v4) (c:=ou) (f':=f') (l':=l') (l:=l) (xs:=xs) (by omega) (by omega) K (by simp) A (by simpa using wD.after) (by simp<;>omega) rfl F (by simp) (by simp[Q,n0,n1,n2,J]) i,by simpa[Wr]using X⟩
    have n0:¬0=Z:=by omega
    have n1:¬0=Z+1:=by omega
    have n2:¬0=Z+2:=by omega
    have Q:=fun B=>yo S B 0 SH
    by_cases hE:(wW wP w).1=[]
    ·have G:((wW wP w).1==[])=true:=by simpa using hE
     have H:(wW wP w).1.isEmpty=true:=by simpa using hE
     have I:((wW wP w).1 != [])=false:=by simpa using hE
     have hOp:xh (wW wP w).2=false:=by
      cases h:xh (wW wP w).2
      ·rfl
      ·exact absurd ⟨hE,h⟩ hA
     have q:=fun B Z'=>Lh (wW wP w).2 T B Z'
     simp only[y8,Part.V]at q;cases d:(zK (wW wP w).2).2
     ·have L:ko w l'=none:=by unfold ko;rw[zj hA,zj (fun h=>h.1 hE),zj (by rw[d];simp)]
      have i:wT g.length g=none:=by rw[R];simp only[wT,L];rfl
      rw[i]at m;simp[Yy,J,C,u,D,y,n,G,H,I,hOp,q,d,qg,qF,m,vI,qV,f182]
     ·have L:ko w l'=some (aq (wW wP w).1 (zK (wW wP w).2).1,l'):=by unfold ko;rw[zj hA,zj (fun h=>h.1 hE),ze d]
      have i:wT g.length g=(wT f' l').map ((l++[aq (wW wP w).1 (zK (wW wP w).2).1])++·):=by rw[R];simp only[wT,L];cases wT f' l'<;>simp
      have j:=wD.jb (P:=prog) (t:=243) (c:=[str (wW wP w).1,int (zK (wW wP w).2).1.n0,int (zK (wW wP w).2).1.n1,int (zK (wW wP w).2).1.n2,int (zK (wW wP w).2).1.has,.sl 1 (zZ (zK (wW wP w).2).1.pre),int 0,int 0,int 0,int 0,.nil]) (S.more (some ⟨248,5,false,[(zK (wW wP w).2).1.V]⟩)) Kb Kc Kd Ke rfl (by omega) (by unfold maxLen;unfold zw at E;omega) (by unfold zw at E;omega);simp only[Part.V]at j;simp[Yy,J,C,u,D,y,n,G,H,I,hOp,q,d,j,qg,qF,zu,zX,zv];exact⟨vJ (v4:=v4) (c:=aq (wW wP w).1 (zK (wW wP w).2).1) (f':=f') (l':=l') (l:=l) (xs:=xs) (by omega) (by omega) K (by simp) A (by simpa using wD.after) (by simp<;>omega) rfl F (by simp) (by simp[Q,n0,n1,n2,J]) i,by simpa[Wr]using X⟩
    have G:=jr hE;have H:(wW wP w).1.isEmpty=false:=by simpa using hE
    have I:((wW wP w).1 != [])=true:=by simpa using hE
    by_cases hR:(wW wP w).2=[]
    ·have M:((wW wP w).2==[])=true:=by simpa using hR
     have N:(wW wP w).2.isEmpty=true:=by simpa using hR
     by_cases hL:l'=[]
     ·have hLz:l'.length=0:=by rw[hL];rfl
      have hLp:¬0<l'.length:=by omega
      have hLq:¬(0:Int)<(l'.length:Int):=by omega
      have q:=fun B Z'=>Lh (wW wP w).2 T B Z'
      simp only[y8,Part.V]at q;cases d:(zK (wW wP w).2).2
      ·have L:ko w l'=none:=by unfold ko;rw[zj hA,zj (fun h=>h.2.2 hL),zj (by rw[d];simp)]
       have i:wT g.length g=none:=by rw[R];simp only[wT,L];rfl
       rw[i]at m;simp[Yy,J,C,u,D,y,n,G,H,I,M,N,hl4,hLp,hLq,q,d,qg,qF,m,vI,qV,f182]
      ·have L:ko w l'=some (aq (wW wP w).1 (zK (wW wP w).2).1,l'):=by unfold ko;rw[zj hA,zj (fun h=>h.2.2 hL),ze d]
       have i:wT g.length g=(wT f' l').map ((l++[aq (wW wP w).1 (zK (wW wP w).2).1])++·):=by rw[R];simp only[wT,L];cases wT f' l'<;>simp
       have j:=wD.jb (P:=prog) (t:=243) (c:=[str (wW wP w).1,int (zK (wW wP w).2).1.n0,int (zK (wW wP w).2).1.n1,int (zK (wW wP w).2).1.n2,int (zK (wW wP w).2).1.has,.sl 1 (zZ (zK (wW wP w).2).1.pre),int 0,int 0,int 0,int 0,.nil]) (S.more (some ⟨248,5,false,[(zK (wW wP w).2).1.V]⟩)) Kb Kc Kd Ke rfl (by omega) (by unfold maxLen;unfold zw at E;omega) (by unfold zw at E;omega);simp only[Part.V]at j;simp[Yy,J,C,u,D,y,n,G,H,I,M,N,hl4,hLp,hLq,q,d,j,qg,qF,zu,zX,zv];exact⟨vJ (v4:=v4) (c:=aq (wW wP w).1 (zK (wW wP w).2).1) (f':=f') (l':=l') (l:=l) (xs:=xs) (by omega) (by omega) K (by simp) A (by simpa using wD.after) (by simp<;>omega) rfl F (by simp) (by simp[Q,n0,n1,n2,J]) i,by simpa[Wr]using X⟩
     ·obtain⟨r,l2,rfl⟩:∃r l2,l'=r::l2:=by
       cases l' with
       |nil=>exact absurd rfl hL
       |cons r l2=>exact⟨r,l2,rfl⟩
      have hv:v4=.own 0 (o+1) (l2.length+1):=by
       rcases A with⟨h,_⟩|h
       ·cases h
       ·rw[h,<-W];rfl
      subst hv;simp only[zU]at hf EA ho Yy n W K X;have Ac:o+1<g.length:=by omega
      have Ad:o+1<z.length:=by omega
      rw[<-W,zd Ac]at K;injection K with IG IH
      have sf:z[o+1]=[str r]:=by rw[hat (o+1) Ac Ad,IG]
      have ho2:o+1+1=g.length-l2.length:=by omega
      obtain⟨v5,hv5⟩:=kC (if l2.length=0 then O.sl 1 []else .own 0 (o+1+1) l2.length);have Ae:=sl1 Y z (o+1) l2.length J;rw[hv5]at Ae;have II:l2=[]/\v5=.sl 1 []\/v5=.own 0 (g.length-l2.length) l2.length:=by
       rw[<-hv5,<-ho2];by_cases h:l2.length=0
       ·exact .inl ⟨qC.1 h,ze h⟩
       ·exact .inr (zj h)
      have SI:Wr v5<l2.length+1+1:=by rcases II with⟨_,h⟩|h<;>rw[h]<;>simp[Wr];omega
      rw[ho2]at IH;have IJ:(0:Int)<(l2.length:Int)+1:=by omega
      have sg:(0:Int)<(l2.length:Int)+1+1:=by omega
      have q:=fun B Z'=>Lh r (O5 r (by rw[<-IG];exact zm Ac)) B Z'
      simp only[y8,Part.V]at q;cases d:(zK r).2
      ·have L:ko w (r::l2)=none:=by unfold ko;rw[zj hA,ze ⟨hE,hR,by simp⟩];simp only[d];rfl
       have i:wT g.length g=none:=by rw[R];simp only[wT,L];rfl
       rw[i]at m;simp[Yy,J,C,u,D,y,n,Ae,Ad,sf,G,H,I,M,N,IJ,sg,q,d,qg,qF,m,vI,qV,f182]
      ·have L:ko w (r::l2)=some (aq (wW wP w).1 (zK r).1,l2):=by unfold ko;rw[zj hA,ze ⟨hE,hR,by simp⟩];simp only[d,qI]
       have i:wT g.length g=(wT f' l2).map ((l++[aq (wW wP w).1 (zK r).1])++·):=by rw[R];simp only[wT,L];cases wT f' l2<;>simp
       have j:=wD.jb (P:=prog) (t:=243) (c:=[str (wW wP w).1,int (zK r).1.n0,int (zK r).1.n1,int (zK r).1.n2,int (zK r).1.has,.sl 1 (zZ (zK r).1.pre),int 0,int 0,int 0,int 0,.nil]) (S.more (some ⟨248,5,false,[(zK r).1.V]⟩)) Kb Kc Kd Ke rfl (by omega) (by unfold maxLen;unfold zw at E;omega) (by unfold zw at E;omega);simp only[Part.V]at j;simp[Yy,J,C,u,D,y,n,Ae,Ad,sf,G,H,I,M,N,IJ,sg,q,d,j,qg,qF,zu,zX,zv];exact⟨vJ (v4:=v5) (c:=aq (wW wP w).1 (zK r).1) (f':=f') (l':=l2) (l:=l) (xs:=xs) (by omega) (by omega) IH (by simp) II (by simpa using wD.after) (by simp<;>omega) rfl F (by simp) (by simp[Q,n0,n1,n2,J]) i,by simpa[Wr]using SI⟩
    ·have M:=jr hR;have N:(wW wP w).2.isEmpty=false:=by simpa using hR
     have q:=fun B Z'=>Lh (wW wP w).2 T B Z'
     simp only[y8,Part.V]at q;cases d:(zK (wW wP w).2).2
     ·have L:ko w l'=none:=by unfold ko;rw[zj hA,zj (fun h=>hR h.2.1),zj (by rw[d];simp)]
      have i:wT g.length g=none:=by rw[R];simp only[wT,L];rfl
      rw[i]at m;simp[Yy,J,C,u,D,y,n,G,H,I,M,N,q,d,qg,qF,m,vI,qV,f182]
     ·have L:ko w l'=some (aq (wW wP w).1 (zK (wW wP w).2).1,l'):=by unfold ko;rw[zj hA,zj (fun h=>hR h.2.1),ze d]
      have i:wT g.length g=(wT f' l').map ((l++[aq (wW wP w).1 (zK (wW wP w).2).1])++·):=by rw[R];simp only[wT,L];cases wT f' l'<;>simp
      have j:=wD.jb (P:=prog) (t:=243) (c:=[str (wW wP w).1,int (zK (wW wP w).2).1.n0,int (zK (wW wP w).2).1.n1,int (zK (wW wP w).2).1.n2,int (zK (wW wP w).2).1.has,.sl 1 (zZ (zK (wW wP w).2).1.pre),int 0,int 0,int 0,int 0,.nil]) (S.more (some ⟨248,5,false,[(zK (wW wP w).2).1.V]⟩)) Kb Kc Kd Ke rfl (by omega) (by unfold maxLen;unfold zw at E;omega) (by unfold zw at E;omega);simp only[Part.V]at j;simp[Yy,J,C,u,D,y,n,G,H,I,M,N,q,d,j,qg,qF,zu,zX,zv];exact⟨vJ (v4:=v4) (c:=aq (wW wP w).1 (zK (wW wP w).2).1) (f':=f') (l':=l') (l:=l) (xs:=xs) (by omega) (by omega) K (by simp) A (by simpa using wD.after) (by simp<;>omega) rfl F (by simp) (by simp[Q,n0,n1,n2,J]) i,by simpa[Wr]using X⟩
  ·have h33:((g.length:Int)==3)=false:=by simp;omega
   simp[hb,h33];refine jI (F0 g z) (fun st=>Wr (st.U 4)) ⟨g.length,g,[],[],zi _,by simp,by simp,.inr (by simp;try omega),.inl ⟨by simp,rfl⟩,by simp,rfl,by simp,by simpa using hb,by simp⟩ ?_;clear ID BE hsp;rintro⟨U,Y,Z⟩ ⟨f,rest,l,xs,hf,EA,Ez,h4,S,SH,F,hnx,J,R⟩;simp only at h4 S SH hnx J;cases rest with
   |nil=>
    rw[ov]at R;simp only[zL,yh]at R;rw[R]at m;rw[m];have IE:xs.length=l.length:=by have:=zo List.length F;simpa[vI]using this
    have Lf:(decide ((0:Int)<(xs.length:Int)))=!l.isEmpty:=by rw[IE];cases l<;>simp
    have hb2:(decide (0<xs.length))=!l.isEmpty:=by rw[IE];cases l<;>simp
    have Yy:U 4=.sl 1 []\/U 4=.own 0 g.length 0:=by
     rcases h4 with⟨_,h4⟩|h4
     ·exact .inl h4
     ·exact .inr (by simpa using h4)
    rcases S with⟨h9,rfl⟩|⟨id,hid,h9,hb9⟩
    ·simp[vI]at F;subst F;rcases Yy with Yy|Yy<;>simp[Yy,h9,qV,vI,f182]
    ·rcases Yy with Yy|Yy<;>simp[Yy,h9,hb9,Lf,hb2,F,qV,f182]
   |cons w l'=>
    obtain⟨f',rfl⟩:∃f',f=f'+1:=⟨f-1,by simp at hf;omega⟩;simp only[zU]at hf EA Ez h4;obtain⟨o,ho⟩:=kC (g.length-(l'.length+1));rw[ho]at Ez h4;have Yy:U 4=.own 0 o (l'.length+1):=by
     rcases h4 with⟨h,_⟩|h
     ·cases h
     ·exact h
    have O6:o<g.length:=by omega
    have C:o<z.length:=by omega
    rw[zd O6]at Ez;injection Ez with hdw K
    have u:z[o]=[str w]:=by rw[hat o O6 C,hdw]
    have hww:w.length+1<=zw:=O5 w (by rw[<-hdw];exact zm O6);have D:=fun B Z'=>cZ L5 w B Z' (by omega) rfl
    simp only[L5]at D;have T:(wW wP w).2.length+1<=zw:=by have:=lL wP w;omega
    have y:=fun B Z'=>ke xh (wW wP w).2 B Z' (by omega)
    obtain⟨v4,hv4⟩:=kC (if l'.length=0 then O.sl 1 []else .own 0 (o+1) l'.length);have hs1:=fun B (hh:B 0=some _)=>sl1 B z o l'.length hh
    rw[hv4]at hs1;have n:=hs1 Y J;have W:o+1=g.length-l'.length:=by omega
    have A:l'=[]/\v4=.sl 1 []\/v4=.own 0 (g.length-l'.length) l'.length:=by
     rw[<-hv4,<-W];by_cases h:l'.length=0
     ·exact .inl ⟨qC.1 h,ze h⟩
     ·exact .inr (zj h)
    have X:Wr v4<l'.length+1:=by rcases A with⟨_,h⟩|h<;>rw[h]<;>simp[Wr]
    have hl4:YJ prog 49 v4=some (int l'.length):=by
     rcases A with⟨h1,h⟩|h
     ·subst h1;rw[h];simp
     ·rw[h];simp
    rw[W]at K;have se:=fun c S=>wD.jb (Y:=Y) (Z:=Z) (v:=U 9) (xs:=xs) (P:=prog) (t:=243) (c:=c) S Kb Kc Kd Ke rfl (by omega) (by unfold maxLen;unfold zw at E;omega) (by unfold zw at E;omega)
    by_cases hA:(wW wP w).1=[]/\xh (wW wP w).2=true
    ·have L:ko w l'=some (ou,l'):=by unfold ko;rw[ze hA]
     have i:wT g.length g=(wT f' l').map ((l++[ou])++·):=by rw[R];simp only[wT,L];cases wT f' l'<;>simp
     have IF:=se [str ju,int 0,int 0,int 0,int 0,.nil,int 0,int 0,int 0,int 0,.nil] S;obtain⟨hA1,hA2⟩:=hA;simp only[ju]at IF;simp[Yy,J,C,u,D,y,n,hA1,hA2,IF,qg,qF,zu,zX,zv];have n0:¬0=Z:=by omega
     have n1:¬0=Z+1:=by omega
     have n2:¬0=Z+2:=by omega
     have Q:=fun B=>yo S B 0 SH
     exact⟨vJ (v4:=v4) (c:=ou) (f':=f') (l':=l') (l:=l) (xs:=xs) (by omega) (by omega) K (by simp) A (by simpa using wD.after) (by simp<;>omega) rfl F (by simp) (by simp[Q,n0,n1,n2,J]) i,by simpa[Wr]using X⟩
    have n0:¬0=Z:=by omega
    have n1:¬0=Z+1:=by omega
    have n2:¬0=Z+2:=by omega
    have Q:=fun B=>yo S B 0 SH
    by_cases hE:(wW wP w).1=[]
    ·have G:((wW wP w).1==[])=true:=by simpa using hE
     have H:(wW wP w).1.isEmpty=true:=by simpa using hE
     have I:((wW wP w).1 != [])=false:=by simpa using hE
     have hOp:xh (wW wP w).2=false:=by
      cases h:xh (wW wP w).2
      ·rfl
      ·exact absurd ⟨hE,h⟩ hA
     have q:=fun B Z'=>Lh (wW wP w).2 T B Z'
     simp only[y8,Part.V]at q;cases d:(zK (wW wP w).2).2
     ·have L:ko w l'=none:=by unfold ko;rw[zj hA,zj (fun h=>h.1 hE),zj (by rw[d];simp)]
      have i:wT g.length g=none:=by rw[R];simp only[wT,L];rfl
      rw[i]at m;simp[Yy,J,C,u,D,y,n,G,H,I,hOp,q,d,qg,qF,m,vI,qV,f182]
     ·have L:ko w l'=some (aq (wW wP w).1 (zK (wW wP w).2).1,l'):=by unfold ko;rw[zj hA,zj (fun h=>h.1 hE),ze d]
      have i:wT g.length g=(wT f' l').map ((l++[aq (wW wP w).1 (zK (wW wP w).2).1])++·):=by rw[R];simp only[wT,L];cases wT f' l'<;>simp
      have j:=wD.jb (P:=prog) (t:=243) (c:=[str (wW wP w).1,int (zK (wW wP w).2).1.n0,int (zK (wW wP w).2).1.n1,int (zK (wW wP w).2).1.n2,int (zK (wW wP w).2).1.has,.sl 1 (zZ (zK (wW wP w).2).1.pre),int 0,int 0,int 0,int 0,.nil]) (S.more (some ⟨248,5,false,[(zK (wW wP w).2).1.V]⟩)) Kb Kc Kd Ke rfl (by omega) (by unfold maxLen;unfold zw at E;omega) (by unfold zw at E;omega);simp only[Part.V]at j;simp[Yy,J,C,u,D,y,n,G,H,I,hOp,q,d,j,qg,qF,zu,zX,zv];exact⟨vJ (v4:=v4) (c:=aq (wW wP w).1 (zK (wW wP w).2).1) (f':=f') (l':=l') (l:=l) (xs:=xs) (by omega) (by omega) K (by simp) A (by simpa using wD.after) (by simp<;>omega) rfl F (by simp) (by simp[Q,n0,n1,n2,J]) i,by simpa[Wr]using X⟩
    have G:=jr hE;have H:(wW wP w).1.isEmpty=false:=by simpa using hE
    have I:((wW wP w).1 != [])=true:=by simpa using hE
    by_cases hR:(wW wP w).2=[]
    ·have M:((wW wP w).2==[])=true:=by simpa using hR
     have N:(wW wP w).2.isEmpty=true:=by simpa using hR
     by_cases hL:l'=[]
     ·have hLz:l'.length=0:=by rw[hL];rfl
      have hLp:¬0<l'.length:=by omega
      have hLq:¬(0:Int)<(l'.length:Int):=by omega
      have q:=fun B Z'=>Lh (wW wP w).2 T B Z'
      simp only[y8,Part.V]at q;cases d:(zK (wW wP w).2).2
      ·have L:ko w l'=none:=by unfold ko;rw[zj hA,zj (fun h=>h.2.2 hL),zj (by rw[d];simp)]
       have i:wT g.length g=none:=by rw[R];simp only[wT,L];rfl
       rw[i]at m;simp[Yy,J,C,u,D,y,n,G,H,I,M,N,hl4,hLp,hLq,q,d,qg,qF,m,vI,qV,f182]
      ·have L:ko w l'=some (aq (wW wP w).1 (zK (wW wP w).2).1,l'):=by unfold ko;rw[zj hA,zj (fun h=>h.2.2 hL),ze d]
       have i:wT g.length g=(wT f' l').map ((l++[aq (wW wP w).1 (zK (wW wP w).2).1])++·):=by rw[R];simp only[wT,L];cases wT f' l'<;>simp
       have j:=wD.jb (P:=prog) (t:=243) (c:=[str (wW wP w).1,int (zK (wW wP w).2).1.n0,int (zK (wW wP w).2).1.n1,int (zK (wW wP w).2).1.n2,int (zK (wW wP w).2).1.has,.sl 1 (zZ (zK (wW wP w).2).1.pre),int 0,int 0,int 0,int 0,.nil]) (S.more (some ⟨248,5,false,[(zK (wW wP w).2).1.V]⟩)) Kb Kc Kd Ke rfl (by omega) (by unfold maxLen;unfold zw at E;omega) (by unfold zw at E;omega);simp only[Part.V]at j;simp[Yy,J,C,u,D,y,n,G,H,I,M,N,hl4,hLp,hLq,q,d,j,qg,qF,zu,zX,zv];exact⟨vJ (v4:=v4) (c:=aq (wW wP w).1 (zK (wW wP w).2).1) (f':=f') (l':=l') (l:=l) (xs:=xs) (by omega) (by omega) K (by simp) A (by simpa using wD.after) (by simp<;>omega) rfl F (by simp) (by simp[Q,n0,n1,n2,J]) i,by simpa[Wr]using X⟩
     ·obtain⟨r,l2,rfl⟩:∃r l2,l'=r::l2:=by
       cases l' with
       |nil=>exact absurd rfl hL
       |cons r l2=>exact⟨r,l2,rfl⟩
      have hv:v4=.own 0 (o+1) (l2.length+1):=by
       rcases A with⟨h,_⟩|h
       ·cases h
       ·rw[h,<-W];rfl
      subst hv;simp only[zU]at hf EA ho Yy n W K X;have Ac:o+1<g.length:=by omega
      have Ad:o+1<z.length:=by omega
      rw[<-W,zd Ac]at K;injection K with IG IH
      have sf:z[o+1]=[str r]:=by rw[hat (o+1) Ac Ad,IG]
      have ho2:o+1+1=g.length-l2.length:=by omega
      obtain⟨v5,hv5⟩:=kC (if l2.length=0 then O.sl 1 []else .own 0 (o+1+1) l2.length);have Ae:=sl1 Y z (o+1) l2.length J;rw[hv5]at Ae;have II:l2=[]/\v5=.sl 1 []\/v5=.own 0 (g.length-l2.length) l2.length:=by
       rw[<-hv5,<-ho2];by_cases h:l2.length=0
       ·exact .inl ⟨qC.1 h,ze h⟩
       ·exact .inr (zj h)
      have SI:Wr v5<l2.length+1+1:=by rcases II with⟨_,h⟩|h<;>rw[h]<;>simp[Wr];omega
      rw[ho2]at IH;have IJ:(0:Int)<(l2.length:Int)+1:=by omega
      have sg:(0:Int)<(l2.length:Int)+1+1:=by omega
      have q:=fun B Z'=>Lh r (O5 r (by rw[<-IG];exact zm Ac)) B Z'
      simp only[y8,Part.V]at q;cases d:(zK r).2
      ·have L:ko w (r::l2)=none:=by unfold ko;rw[zj hA,ze ⟨hE,hR,by simp⟩];simp only[d];rfl
       have i:wT g.length g=none:=by rw[R];simp only[wT,L];rfl
       rw[i]at m;simp[Yy,J,C,u,D,y,n,Ae,Ad,sf,G,H,I,M,N,IJ,sg,q,d,qg,qF,m,vI,qV,f182]
      ·have L:ko w (r::l2)=some (aq (wW wP w).1 (zK r).1,l2):=by unfold ko;rw[zj hA,ze ⟨hE,hR,by simp⟩];simp only[d,qI]
       have i:wT g.length g=(wT f' l2).map ((l++[aq (wW wP w).1 (zK r).1])++·):=by rw[R];simp only[wT,L];cases wT f' l2<;>simp
       have j:=wD.jb (P:=prog) (t:=243) (c:=[str (wW wP w).1,int (zK r).1.n0,int (zK r).1.n1,int (zK r).1.n2,int (zK r).1.has,.sl 1 (zZ (zK r).1.pre),int 0,int 0,int 0,int 0,.nil]) (S.more (some ⟨248,5,false,[(zK r).1.V]⟩)) Kb Kc Kd Ke rfl (by omega) (by unfold maxLen;unfold zw at E;omega) (by unfold zw at E;omega);simp only[Part.V]at j;simp[Yy,J,C,u,D,y,n,Ae,Ad,sf,G,H,I,M,N,IJ,sg,q,d,j,qg,qF,zu,zX,zv];exact⟨vJ (v4:=v5) (c:=aq (wW wP w).1 (zK r).1) (f':=f') (l':=l2) (l:=l) (xs:=xs) (by omega) (by omega) IH (by simp) II (by simpa using wD.after) (by simp<;>omega) rfl F (by simp) (by simp[Q,n0,n1,n2,J]) i,by simpa[Wr]using SI⟩
    ·have M:=jr hR;have N:(wW wP w).2.isEmpty=false:=by simpa using hR
     have q:=fun B Z'=>Lh (wW wP w).2 T B Z'
     simp only[y8,Part.V]at q;cases d:(zK (wW wP w).2).2
     ·have L:ko w l'=none:=by unfold ko;rw[zj hA,zj (fun h=>hR h.2.1),zj (by rw[d];simp)]
      have i:wT g.length g=none:=by rw[R];simp only[wT,L];rfl
      rw[i]at m;simp[Yy,J,C,u,D,y,n,G,H,I,M,N,q,d,qg,qF,m,vI,qV,f182]
     ·have L:ko w l'=some (aq (wW wP w).1 (zK (wW wP w).2).1,l'):=by unfold ko;rw[zj hA,zj (fun h=>hR h.2.1),ze d]
      have i:wT g.length g=(wT f' l').map ((l++[aq (wW wP w).1 (zK (wW wP w).2).1])++·):=by rw[R];simp only[wT,L];cases wT f' l'<;>simp
      have j:=wD.jb (P:=prog) (t:=243) (c:=[str (wW wP w).1,int (zK (wW wP w).2).1.n0,int (zK (wW wP w).2).1.n1,int (zK (wW wP w).2).1.n2,int (zK (wW wP w).2).1.has,.sl 1 (zZ (zK (wW wP w).2).1.pre),int 0,int 0,int 0,int 0,.nil]) (S.more (some ⟨248,5,false,[(zK (wW wP w).2).1.V]⟩)) Kb Kc Kd Ke rfl (by omega) (by unfold maxLen;unfold zw at E;omega) (by unfold zw at E;omega);simp only[Part.V]at j;simp[Yy,J,C,u,D,y,n,G,H,I,M,N,q,d,j,qg,qF,zu,zX,zv];exact⟨vJ (v4:=v4) (c:=aq (wW wP w).1 (zK (wW wP w).2).1) (f':=f') (l':=l') (l:=l) (xs:=xs) (by omega) (by omega) K (by simp) A (by simpa using wD.after) (by simp<;>omega) rfl F (by simp) (by simp[Q,n0,n1,n2,J]) i,by simpa[Wr]using X⟩
theorem Vs:zf prog 182 (zg false [] (da lK)):=
 YF (fn:=f182) L7 (qW func182) false [] _ fun args r h w S vs a=>by obtain⟨l,rfl,Y,rfl⟩:=qd h;obtain⟨b,c,d⟩:=XF l Y;exact⟨_,b,a,by simp[f182],c,d⟩
noncomputable def tx (s:wG) (c:Cut):Bool:=decide (xl s.lo c<=0)&&(s.ki||decide (xl c s.hi<0))
def wG.small(s:wG):Prop:=s.lo.v.small/\s.hi.v.small
theorem Jh(x y:Cut)(Y:Hp)(Z:Nat)(a:x.v.small)(b:y.v.small):qH [.g v7,.g v7] (FG fun v w=>int (xl v w)) [.agg x.V,.agg y.V] Y Z=some (int (xl x y),Y,Z):=AA x y (.agg x.V) (.agg y.V) Y Z (lI x) (lI y) (by simp only[zy,FU]) a b
noncomputable abbrev AE:Ctx:=zG prog [(223,qH [.g v7,.g v7] (FG fun v w=>int (xl v w)))]
theorem F1:AM.Good AE (fun g=>[223].contains g):=qc mixed ⟨kR,fun _=>vp _ _,trivial⟩
theorem tz:zf prog 245 (qq AE f245):=w8 F1 func245
theorem F2(s:wG)(c:Cut)(hs:s.small)(a:c.v.small)(Y:Hp)(Z id:Nat)(hid:id<Z)(b:Y id=some ⟨256,5,false,[c.V]⟩) :
  qq AE f245 [.agg s.V,.ref id 0 0] Y Z=some (qO (tx s c),ql Y Z (some ⟨258,11,false,[s.V]⟩),Z+1):=by
 unfold qq;rw[ze (by simp[f245])];refine wx rfl ?_;have d:=fun Y Z=>Jh s.lo c Y Z hs.1 a
 have e:=fun Y Z=>Jh c s.hi Y Z a hs.2
 have f:¬id=Z:=by omega
 simp only[Cut.V]at d e b;by_cases g:xl s.lo c<=0<;>cases h:s.ki <;>
  simp[wG.V,Cut.V,d,e,b,f,g,h,tx,f245]
noncomputable def XG (c:Cut):Nat->List wG->Int
 |_,[]=>-1
 |k,s::l=>if tx s c=true then k else XG c (k+1) l
theorem ow(c:Cut):∀(l:List wG) (k:Nat),decide (0<=XG c k l)=l.any (tx · c)
 |[],k=>by simp[XG]
 |s::l,k=>by
  by_cases h:tx s c=true
  ·have e:XG c k (s::l)=k:=by simp only[XG,ze h]
   rw[e,xF,h];simp
  ·have e:XG c k (s::l)=XG c (k+1) l:=by simp only[XG,zj h]
   rw[e,ow c l (k+1),xF,Bool.eq_false_iff.2 h];rfl
noncomputable abbrev L8:Ctx:=zG prog [(245,qq AE f245)]
theorem L9:Gd L8:=zM mixed ⟨tz,trivial⟩
theorem CI:zf prog 227 (qq L8 f227):=w8 L9 func227
def I8(id:Nat):O:=.fn (.func 245) [] [.ref id 0 0]
def dC(r:O)(Y:Hp)(Z:Nat)(x:O)(a:Hp)(Z':Nat):Prop:=x=r/\Z<=Z'/\∀j,j<Z->a j=Y j
theorem Ma(l:List wG)(c:Cut)(y:l.length<=zw)(hs:∀s∈l,s.small)(z:c.v.small)(i:Hp)(Z0 id:Nat)(hid:id<Z0)(A:i id=some ⟨256,5,false,[c.V]⟩) :
  ∃x u Z',qq L8 f227 [.sl 11 (qD l),I8 id] i Z0=some (x,u,Z')/\dC (int (XG c 0 l)) i Z0 x u Z':=by
 unfold qq;rw[ze (by simp[f227])];refine zY rfl ?_;unfold zw at y;have f:(qD l).length=l.length:=by simp[qD]
 simp[I8,f];refine zP (fun k U Y Z=>U 0=.sl 11 (qD l)/\U 1=I8 id/\U 7=int l.length/\U 8=int k/\Z0<=Z/\(∀j,j<Z0->Y j=i j)/\XG c 0 l=XG c k (l.drop k)) l.length ⟨by simp,by simp[I8],by simp,by simp,zi _,fun _ _=>rfl,by simp⟩ ?_;rintro k U Y Z B ⟨n,o,p,q,r,d,e⟩;by_cases b:k<l.length
 ·have w:=qz k;have a:=F2 l[k] c (hs _ (zm b)) z Y Z id (by omega) (by rw[d id hid];exact A);have g:∀h:k<(qD l).length,(qD l)[k]=l[k].V:=fun h=>by simp[qD]
  simp only[wG.V,Cut.V,q7,yW]at a g;rw[zd b]at e;simp only[XG]at e;cases m:tx l[k] c
  ·rw[m,zj (by simp)]at e;rw[m]at a;simp[n,o,p,q,I8,b,f,g,a,w];exact⟨b,by omega,fun j t=>by rw[zk _ _ _ _ (by omega)];exact d j t,e⟩
  ·rw[m,ze rfl]at e;rw[m]at a;simp[n,o,p,q,I8,b,f,g,a,w,f227];exact⟨by rw[e],by omega,fun j t=>by rw[zk _ _ _ _ (by omega)];exact d j t⟩
 ·obtain rfl:k=l.length:=by omega
  rw[zp]at e;simp only[XG]at e;simp[n,o,p,q,f227];exact⟨by rw[e],r,d⟩
noncomputable abbrev Mb:Ctx:=zG prog [(227,qq L8 f227)]
theorem Mc:Gd Mb:=zM mixed ⟨CI,trivial⟩
theorem CJ:zf prog 190 (qq Mb f190):=w8 Mc func190
noncomputable def Yd (l:List wG) (c:Cut):Bool:=l.any (tx · c)
theorem Md(l:List wG)(c:Cut)(e:l.length<=zw)(hs:∀s∈l,s.small)(f:c.v.small)(a:Hp)(Z0 id:Nat)(hid:id<Z0)(g:a id=some ⟨256,5,false,[c.V]⟩) :
  ∃x b Z',qq Mb f190 [.sl 11 (qD l),I8 id] a Z0=some (x,b,Z')/\dC (qO (Yd l c)) a Z0 x b Z':=by
 unfold qq;rw[ze (by simp[f190])];refine zY rfl ?_;obtain⟨x,b,Z',d,h,i,j⟩:=Ma l c e hs f a Z0 id hid g;subst h;have k:=ow c l 0;simp only[I8]at d;simp[I8,d,k,dC,Yd,i,f190];exact j
noncomputable abbrev Ccov:Ctx:=zG prog [(190,qq Mb f190)]
theorem Me:Gd Ccov:=zM mixed ⟨CJ,trivial⟩
def yQ(l:List wG):Prop:=l.length<=zw/\∀s∈l,s.small
theorem dD{a b:wG}(h:a.V=b.V):a=b:=by obtain⟨⟨⟨s,t,u,v⟩,w⟩,⟨⟨x,y,z,A⟩,g⟩,i⟩:=a;obtain⟨⟨⟨B,C,D,E⟩,F⟩,⟨⟨G,H,I,J⟩,j⟩,k⟩:=b;simp only[wG.V,Cut.V,q7,yW,zc,zs]at h;obtain⟨l,m,n,c,o,p,q,r,d,e,f⟩:=h;injection c with _ c;injection d with _ d;rw[zT l,zT m,zT n,jd c,Z1 o,zT p,zT q,zT r,jd d,Z1 e,Z1 f]
theorem Qd{a b:List wG}(h:qD a=qD b):a=b:=yF (fun _ _ e=>dD e) h
noncomputable def FRC (f:List wG->Cut->O):zb->Option O:=zS (α:=List wG×Cut) (fun a=>[.sl 11 (qD a.1),.agg a.2.V]) (fun a=>yQ a.1/\a.2.v.small) (fun a=>f a.1 a.2)
theorem Rj:∀a b:List wG×Cut,[O.sl 11 (qD a.1),.agg a.2.V]=[O.sl 11 (qD b.1),.agg b.2.V]->a=b:=by rintro⟨f,g⟩ ⟨h,i⟩ e;simp only[zc,zs]at e;obtain⟨c,d⟩:=e;injection c with _ c;injection d with d;rw[Qd c,xi d]
theorem ox(l:List wG)(c:Cut)(a:yQ l)(d:c.v.small):zt Ccov f224 [.sl 11 (qD l),.agg c.V]=some (qO (Yd l c)):=by refine zl rfl ?_;obtain⟨x,f,Z',b,e,g,h⟩:=Md l c a.1 a.2 d (ql (fun _=>none) 0 (some ⟨256,5,false,[c.V]⟩)) 1 0 (by omega) (by simp);subst e;simp only[I8,Cut.V]at b;simp[Cut.V,b,qU,f224]
theorem lM:zf prog 224 (qH [.s 11 vr,.g v7] (FRC fun l c=>qO (Yd l c))):=
 yN (fn:=f224) Me (qW func224) _ _ fun args r h=>by obtain⟨⟨l,c⟩,rfl,⟨a,b⟩,rfl⟩:=qd h;exact⟨by simp[f224],_,ox l c a b,wu.refl _⟩
structure TO {α:Type} (c:α->α->Int):Prop where
 refl:∀x,c x x=0
 flip:∀x y,c x y<0↔0<c y x
 tr:∀x y z,c x y<=0->c y z<=0->c x z<=0
theorem TO.le{α:Type}{c:α->α->Int}(h:TO c)(x y:α):c x y<=0↔0<=c y x:=by have:=h.flip y x;omega
theorem TO.eq{α:Type}{c:α->α->Int}(h:TO c)(x y:α):c x y=0↔c y x=0:=by have a:=h.flip y x;have b:=h.flip x y;omega
theorem TO.trans{α:Type}{c:α->α->Int}(h:TO c){x y z:α}(e:c x y<0)(b:c y z<0):c x z<0:=by
 have d:=h.tr x y z (by omega) (by omega);rcases Int.lt_or_eq_of_le d with a|a
 ·exact a
 ·have f:=(h.eq x z).1 a;have g:=h.tr z x y (by omega) (by omega);have:=(h.flip y z).1 b;omega
theorem TO.ntrans{α:Type}{c:α->α->Int}(h:TO c){x y z:α}(a:0<=c x y)(b:0<=c y z):0<=c x z:=
 (h.le z x).1 (h.tr z y x ((h.le z y).2 b) ((h.le y x).2 a))
theorem TO.pull{α a:Type}{c:a->a->Int}(h:TO c)(f:α->a):TO fun x y=>c (f x) (f y):=⟨fun _=>h.refl _,fun _ _=>h.flip _ _,fun _ _ _=>h.tr _ _ _⟩
def Qe{α:Type}(c d:α->α->Int)(x y:α):Int:=if c x y=0 then d x y else c x y
theorem TO.lex{α:Type}{c d:α->α->Int}(f:TO c)(hd:TO d):TO (Qe c d) where
 refl x:=by simp[Qe,f.refl,hd.refl]
 flip x y:=by
  unfold Qe;have g:=f.flip x y;have i:=f.flip y x;have l:=hd.flip x y;by_cases h:c x y=0
  ·rw[ze h,ze ((f.eq x y).1 h)];exact l
  ·rw[zj h,zj (fun e=>h ((f.eq x y).2 e))];exact g
 tr x y z:=by
  unfold Qe;intro g i;by_cases a:c x y=0<;>by_cases b:c y z=0
  ·rw[ze a]at g;rw[ze b]at i;have j:=f.tr x y z (by omega) (by omega);have k:=f.tr z y x (by have:=(f.eq y z).1 b;omega) (by have:=(f.eq x y).1 a;omega);have m:=(f.le z x).1 k;rw[ze (by omega)];exact hd.tr x y z g i
  ·rw[zj b]at i;have j:=f.tr x y z (by omega) i;by_cases e:c x z=0
   ·exfalso;have k:=f.tr z x y (by have:=(f.eq x z).1 e;omega) (by omega);have:=(f.flip y z).1 (by omega);omega
   ·rw[zj e];exact j
  ·rw[zj a]at g;have j:=f.tr x y z g (by omega);by_cases e:c x z=0
   ·exfalso;have k:=f.tr y z x (by omega) (by have:=(f.eq x z).1 e;omega);have:=(f.flip x y).1 (by omega);omega
   ·rw[zj e];exact j
  ·rw[zj a]at g;rw[zj b]at i;have:=f.trans (x:=x) (y:=y) (z:=z) (by omega) (by omega);rw[zj (by omega)];omega
theorem AF{α:Type}{c:α->α->Int}(h:TO c):TO (jj c) where
 refl l:=by
  induction l with
  |nil=>rfl
  |cons x l f=>simp[jj,h.refl,f]
 flip a b:=by
  induction a generalizing b with
  |nil=>cases b<;>simp[jj]
  |cons x a f=>
   cases b with
   |nil=>simp[jj]
   |cons y b=>
    simp only[jj];by_cases e:c x y=0
    ·rw[ze e,ze ((h.eq x y).1 e)];exact f b
    ·rw[zj e,zj (fun m=>e ((h.eq x y).2 m))];exact h.flip x y
 tr a b d:=by
  induction a generalizing b d with
  |nil=>cases d<;>simp[jj]
  |cons x a f=>
   cases b with
   |nil=>simp[jj]
   |cons y b=>
    cases d with
    |nil=>simp[jj]
    |cons z d=>
     simp only[jj];intro g i;by_cases p:c x y=0<;>by_cases q:c y z=0
     ·rw[ze p]at g;rw[ze q]at i;have j:=h.tr x y z (by omega) (by omega);have k:=h.tr z y x (by have:=(h.eq y z).1 q;omega) (by have:=(h.eq x y).1 p;omega);have n:=(h.le z x).1 k;rw[ze (by omega)];exact f b d g i
     ·rw[zj q]at i;have j:=h.tr x y z (by omega) i;by_cases e:c x z=0
      ·exfalso;have k:=h.tr z x y (by have:=(h.eq x z).1 e;omega) (by omega);have:=(h.flip y z).1 (by omega);omega
      ·rw[zj e];exact j
     ·rw[zj p]at g;have j:=h.tr x y z g (by omega);by_cases e:c x z=0
      ·exfalso;have k:=h.tr y z x (by omega) (by have:=(h.eq x z).1 e;omega);have:=(h.flip x y).1 (by omega);omega
      ·rw[zj e];exact j
     ·rw[zj p]at g;rw[zj q]at i;have:=h.trans (x:=x) (y:=y) (z:=z) (by omega) (by omega);rw[zj (by omega)];omega
theorem QR:TO yj:=⟨fun x=>by simp[yj],fun x y=>by unfold yj;split<;>split<;>(try split)<;>omega,fun x y z=>by unfold yj;repeat' split<;>omega⟩
theorem oy:∀a b:za,wX a b=jj (fun x y:UInt8=>yj x.toNat y.toNat) a b
 |[],[]=>rfl
 |[],_::_=>rfl
 |_::_,[]=>rfl
 |x::a,y::b=>by
  have f:=oy a b;simp only[jj];unfold wX at f⊢;simp only[Lib.compareBytes];rcases Nat.lt_trichotomy x.toNat y.toNat with h|h|h
  ·have c:x<y:=h;have e:yj x.toNat y.toNat=-1:=by unfold yj;rw[ze (by omega)]
   simp[c,e]
  ·have e:yj x.toNat y.toNat=0:=by unfold yj;rw[zj (by omega),zj (by omega)]
   have c:¬x<y:=by show¬x.toNat<y.toNat;omega
   have d:¬y<x:=by show¬y.toNat<x.toNat;omega
   simp[c,d,e,f]
  ·have c:¬x<y:=by show¬x.toNat<y.toNat;omega
   have d:y<x:=h;have e:yj x.toNat y.toNat=1:=by unfold yj;rw[zj (by omega),ze (by omega)]
   simp[c,d,e]
theorem QS:TO wX:=by
 have:wX=jj (fun x y:UInt8=>yj x.toNat y.toNat):=by funext a b;exact oy a b
 rw[this];exact AF (QR.pull fun x:UInt8=>(x.toNat:Int))
noncomputable def XH (a:za):Int×Int×za×za:=if Ki a=true then(0,(Lib.trimLeftB a 48).length,Lib.trimLeftB a 48,[])else(1,0,[],a)
theorem oz(a b:za):yG a b=Qe (fun x y=>yj x.1 y.1) (Qe (fun x y=>yj x.2.1 y.2.1) (Qe (fun x y=>wX x.2.2.1 y.2.2.1) fun x y=>wX x.2.2.2 y.2.2.2)) (XH a) (XH b):=by
 unfold yG XH Qe;have r:=QS.refl [];have e:yj 0 0=0:=rfl;have f:yj 1 1=0:=rfl;by_cases c:Ki a=true<;>by_cases d:Ki b=true
 ·simp only[c,d,qI,e,r,fD]
 ·simp[c,d,yj]
 ·simp[c,d,yj]
 ·simp[c,d,e,f,r]
theorem tA:TO yG:=by
 have:yG=fun a b=>Qe (fun x y=>yj x.1 y.1) (Qe (fun x y=>yj x.2.1 y.2.1) (Qe (fun x y=>wX x.2.2.1 y.2.2.1) fun x y=>wX x.2.2.2 y.2.2.2)) (XH a) (XH b):=by funext a b;exact oz a b
 rw[this];exact TO.pull (TO.lex (QR.pull fun x:Int×Int×za×za=>x.1) (TO.lex (QR.pull fun x:Int×Int×za×za=>x.2.1) (TO.lex (QS.pull fun x:Int×Int×za×za=>x.2.2.1) (QS.pull fun x:Int×Int×za×za=>x.2.2.2)))) XH
def Vt(v:yE):Int:=if v.pre.length=0 then 1 else 0
theorem F4(v w:yE):Wn v w=Qe (fun x y=>yj x.a y.a) (Qe (fun x y=>yj x.b y.b) (Qe (fun x y=>yj x.c y.c) (Qe (fun x y=>yj (Vt x) (Vt y)) fun x y=>jj yG x.pre y.pre))) v w:=by
 unfold Wn Qe;by_cases d:yj v.a w.a=0
 ·by_cases e:yj v.b w.b=0
  ·by_cases f:yj v.c w.c=0
   ·simp only[fD,d,e,f,qI];by_cases p:v.pre.length=0<;>by_cases q:w.pre.length=0
    ·have g:v.pre=[]:=qC.1 p;have h:w.pre=[]:=qC.1 q;simp[Vt,p,q,yj,g,h,jj]
    ·simp[Vt,p,q,yj]
    ·simp[Vt,p,q,yj]
    ·simp[Vt,p,q,yj]
   ·simp[fD,d,e,f]
  ·simp[fD,d,e]
 ·simp[fD,d]
theorem N4:TO Wn:=by
 have:Wn=Qe (fun x y=>yj x.a y.a) (Qe (fun x y=>yj x.b y.b) (Qe (fun x y=>yj x.c y.c) (Qe (fun x y=>yj (Vt x) (Vt y)) fun x y=>jj yG x.pre y.pre))):=by funext a b;exact F4 a b
 rw[this];exact TO.lex (QR.pull fun x:yE=>x.a) (TO.lex (QR.pull fun x:yE=>x.b) (TO.lex (QR.pull fun x:yE=>x.c) (TO.lex (QR.pull Vt) ((AF tA).pull fun x:yE=>x.pre))))
def CK(c:Cut):Int:=if c.after=true then 1 else 0
theorem F5(a b:Cut):xl a b=Qe (fun x y=>Wn x.v y.v) (fun x y=>yj (CK x) (CK y)) a b:=by
 unfold xl Qe;by_cases h:Wn a.v b.v=0
 ·simp only[h,qI];cases c:a.after<;>cases d:b.after<;>simp[CK,c,d,yj]
 ·simp[h]
theorem b7:TO xl:=by
 have:xl=Qe (fun x y=>Wn x.v y.v) (fun x y=>yj (CK x) (CK y)):=by funext a b;exact F5 a b
 rw[this];exact TO.lex (N4.pull fun x:Cut=>x.v) (QR.pull CK)
end Go.Q
namespace Go.AM
open Go.RowKit Go.Sort Go.Proofs
variable{dr:Prop}
def ZC(xs:List zb)(i:Nat):zb:=xs.getD (if i<xs.length then i else 0) []
theorem jv{xs:List zb}(h:xs≠[])(i:Nat):ZC xs i∈xs:=by
 have b:0<xs.length:=zcS.2 h;have a:(if i<xs.length then i else 0)<xs.length:=by split<;>assumption
 unfold ZC;rw[WE,zn a];exact zm _
theorem F6{xs:List zb}{i:Nat}(h:i<xs.length):ZC xs i=xs[i]:=by unfold ZC;rw[ze h,WE,zn h];rfl
def dE(cf:zb->zb->Int)(xs:List zb)(i j:Nat):Int:=cf (ZC xs i) (ZC xs j)
def vO(cf:zb->zb->Int)(xs:List zb):Array Nat:=pdq (ltOf (dE cf xs)) (Array.range xs.length) 0 xs.length (Lib.bitLen xs.length) true true
def xv(cf:zb->zb->Int)(xs:List zb):List zb:=if xs.length=0 then[]else(vO cf xs).toList.map (ZC xs)
structure Q9 (cf:List O->List O->Int) (xs:List (List O)):Prop where
 irrefl:∀x∈xs,0<=cf x x
 trans:∀x∈xs,∀y∈xs,∀z∈xs,cf x y<0->cf y z<0->cf x z<0
 ntrans:∀x∈xs,∀y∈xs,∀z∈xs,0<=cf x y->0<=cf y z->0<=cf x z
section
variable{cf:zb->zb->Int}{xs:List zb}
theorem AG{i j:Nat}(h:ltOf (dE cf xs) i j=true):cf (ZC xs i) (ZC xs j)<0:=yK h
theorem dF{i j:Nat}(h:ltOf (dE cf xs) i j=false):0<=cf (ZC xs i) (ZC xs j):=Int.not_lt.1 (of_decide_eq_false h)
theorem F7{i j:Nat}(h:cf (ZC xs i) (ZC xs j)<0):ltOf (dE cf xs) i j=true:=Zv h
theorem AH{i j:Nat}(h:0<=cf (ZC xs i) (ZC xs j)):ltOf (dE cf xs) i j=false:=Qo (Int.not_lt.2 h)
theorem Q9.swo(h:Q9 cf xs)(a:xs≠[]):SWO (ltOf (dE cf xs)) where
 irrefl i:=AH (h.irrefl _ (jv a i))
 trans i j k b c:=F7 (h.trans _ (jv a i) _ (jv a j) _ (jv a k) (AG b) (AG c))
 ntrans i j k b c:=AH (h.ntrans _ (jv a i) _ (jv a j) _ (jv a k) (dF b) (dF c))
theorem Ye(h:Q9 cf xs)(a:xs≠[]):PermIn 0 xs.length (Array.range xs.length) (vO cf xs)/\SortedIn (ltOf (dE cf xs)) 0 xs.length (vO cf xs):=
 pdq_sorts (ltOf (dE cf xs)) (h.swo a) (Array.range xs.length) 0 xs.length (Lib.bitLen xs.length) true true (ka _) (by simp) (Or.inl rfl)
theorem Yf(h:Q9 cf xs)(a:xs≠[]):(vO cf xs).size=xs.length:=by have:=(Ye h a).1.1;simpa using this
theorem Yg(h:Q9 cf xs):(xv cf xs).Perm xs:=by
 unfold xv;split
 ·rename_i a;have:xs=[]:=qC.1 a;subst this;exact .refl _
 ·rename_i a;have c:xs≠[]:=by rintro rfl;simp at a
  obtain⟨k,_,d⟩:=(Ye h c).1;have hs:=Yf h c;have f:(vO cf xs).extract 0 xs.length=vO cf xs:=by rw[<-hs];simp
  have g:(Array.range xs.length).extract 0 xs.length=Array.range xs.length:=by
   conv=>lhs;rw[show xs.length=(Array.range xs.length).size by simp]
   simp
  rw[f,g]at d;have e:=d.map (ZC xs);have j:(Array.range xs.length).toList.map (ZC xs)=xs:=by
   apply List.ext_getElem
   ·simp
   ·intro i l b;simp[F6 b]
  rw[j]at e;exact e
theorem Vu(h:Q9 cf xs):(xv cf xs).Pairwise (fun x y=>0<=cf y x):=by
 unfold xv;split
 ·exact List.Pairwise.nil
 ·rename_i f;have c:xs≠[]:=by rintro rfl;simp at f
  have hs:=Yf h c;have g:=(Ye h c).2;rw[List.pairwise_map,Aa];intro i j d a b;have e:=g i j (ka _) b (by simp at a;omega);simp at d a;rw[mP _ i d,mP _ j a]at e;simpa using dF e
theorem Vv(h:Q9 cf xs):(xv cf xs).length=xs.length:=(Yg h).length_eq
end
def tB(P:Program)(f k:Nat):Prop:=
 (∀(α:Type) [Inhabited α] (V:α->List Value) (_:∀x,(V x).length=k) (_:∀x,∀v∈V x,v.oneCell'=true) (cf:α->α->Int) (_:SWO (ltOf cf)) (g:Nat) (blk off cap:Nat) (d:Array α) (w:World)
  (_:∀args w,(callFunc g args).run P w=.ok (.enter g args) w) (_:CmpLays P g #[] V k cf blk off d.size w) (_:HoldsK V k w blk off d) (_:blk<w.heap.size) (_:d.size<4611686018427387904),
  Calls P f #[.slice (some ⟨blk,off,none⟩) d.size cap,.func (.func g) #[] #[]] w fun e a=>
   e=.returned (.tuple #[])/\∃n b,a=sortWorldK V k w blk off n (pdq (ltOf cf) d 0 d.size (Lib.bitLen d.size) true true) b) /\
 ∀(p:Option Addr) (cap:Nat) (c:Value) (w:World),Calls P f #[.slice p 0 cap,c] w fun e a=>e=.returned (.tuple #[])/\a=w
def F8(P:Program)(g k:Nat)(cf:zb->zb->Int)(dom:zb->Prop):Prop:=
 (∀args w,(callFunc g args).run P w=.ok (.enter g args) w)/\∃a,zf P g a/\∀x y,x.length=k->y.length=k->dom x->dom y->a [.agg x,.agg y] (fun _=>none) 0=some (.v (.int .i64 (cf x y)),fun _=>none,0)
open Classical in
noncomputable def Km (k:Nat) (g:Nat) (cf:zb->zb->Int) (dom:zb->Prop):AM.Spec:=fun args Y Z=>
 match args with
 |[.nil,.fn _ _ _]=>some (.q8 [],Y,Z)
 |[.own id off n,.fn (.func a) [] []]=>if n=0 then some (.q8 [],Y,Z)else match Y id with
  |some b=>if a=g/\b.arr=true/\b.s=k/\off+n<=b.es.length/\n<4611686018427387904/\Q9 cf ((b.es.drop off).take n)/\∀x∈(b.es.drop off).take n,dom x then
    some (.q8 [],ql Y id (some ⟨b.e,b.s,b.arr,b.es.take off++xv cf ((b.es.drop off).take n)++b.es.drop (off+n)⟩),Z)else none
  |none=>none
 |_=>none
theorem tC{W a:World}(h:Fr True W (fun _=>False) a):∃q d,a=grow (W.drewN q) d:=by
 refine⟨a.drawn-W.drawn,a.heap.extract W.heap.size a.heap.size,?_⟩;obtain⟨b,f,e,p,c⟩:=a;obtain⟨g,j,k,o,l,m⟩:=h;simp only at g j k o l m;unfold grow World.drewN;simp only[World.mk.injEq];refine⟨?_,j,by have:=l trivial;omega,g,k⟩;apply Array.ext_getElem?;intro i;by_cases n:i<W.heap.size
 ·rw[m i n (fun h=>h),WG n]
 ·rw[Array.getElem?_append_right (by omega),Array.getElem?_extract];by_cases r:i<b.size
  ·rw[ze (by omega)];congr 1;omega
  ·rw[zj (by omega),Array.getElem?_eq_none (by omega)]
theorem j6.grown{P:Program}{Y:Hp}{Z:Nat}{S:Nat->Prop}{G:Nat->GI}{w d:World}(h:Inv P w S G Y Z)(c:Fr dr w (fun _=>False) d):j6 dr P Y Z S G w Y Z S G d:=by
 have e:∀b,b<w.heap.size->d.heap[b]?=w.heap[b]?:=fun b a=>c.block b a (fun h=>h)
 refine⟨⟨fun b a=>wA (h.st b a) c.size,h.top,fun id b a=>?_,h.apart,h.inj,h.bF.mono fun b a=>⟨a,e b (h.st b a)⟩⟩,zi _,fun _ _=>rfl,fun _ a=>a,fun _ a=>.inl a,fun id b a=>.inl ⟨id,b,a,rfl⟩,⟨c.os,c.tape,c.output,c.size,c.drawn,fun k g _=>c.block k g (fun h=>h)⟩⟩;have f:=h.live id b a;exact f.mono (fun b a=>⟨a,e b (h.st b a)⟩) (zi _) (fun _ _=>rfl) (e _ f.lt)
theorem Yh{α:Type}[Inhabited α](V:α->List Value)(k:Nat)(w:World)(blk off m:Nat)(d:Array α)(a:Array Obj):Fr dr (putRowK V k w blk off d) (fun _=>False) (sortWorldK V k w blk off m d a):=by
 refine⟨rfl,rfl,rfl,?_,fun _=>?_,fun b c _=>?_⟩
 ·show _<=(_++a).size;rw[Array.size_append];exact Nat.le_add_right _ _
 ·exact Nat.le_add_right _ _
 ·exact WG c
theorem Ze{α:Type}[Inhabited α](V:α->List Value)(k:Nat)(w:World)(blk off:Nat)(d:Array α){a:Array Value}{e:TypeId}(h:w.heap[blk]?=some (.cells a e (0,0))) :
  putRowK V k w blk off d=w.setRow blk (putCells (fun v:Value=>v) off (flatK V k d) a):=by
 unfold putRowK putRow mapBlock World.setRow;congr 1;apply Array.ext_getElem?;intro i;simp only[vR];by_cases b:blk=i
 ·subst b;simp only[qI,h,zL,onCells];rfl
 ·simp[b]
section
variable{P:Program}{f k g:Nat}{cf:zb->zb->Int}{dom:zb->Prop}
theorem ar(h0:0<k)(hfn:∃fn,P.funcs[f]?=some fn/\(fn.name== "runtime.NumGoroutine")=false/\fn.body.isNone=false)(hso:tB P f k)(hco:F8 P g k cf dom):kF dr P f (Km k g cf dom):=by
 refine⟨hfn,?_⟩;intro args Y Z r Y' Z' h w S G vs T hz;unfold Km at h;split at h
 ·injection h with h;injection h with e1 h;injection h with e2 e3;subst e1;subst e2;subst e3;obtain⟨u,us,rfl,hu,z⟩:=hz.jy;obtain⟨v,us,rfl,hv,z⟩:=z.jy;obtain rfl:=z.Qs;obtain rfl:=hu.vS;refine(hso.2 none 0 v w).mono fun e w' hh=>?_
  obtain⟨rfl,rfl⟩:=hh;exact⟨_,_,_,rfl,.refl T,yY⟩
 ·rename_i id off n g';obtain⟨u,us,rfl,hu,z⟩:=hz.jy;obtain⟨v,us,rfl,hv,z⟩:=z.jy;obtain rfl:=z.Qs;have o:=hu.xB;obtain⟨cap,g1,g2,g3,g4,rfl⟩:=hu.vT;split at h
  ·rename_i hn0;subst hn0;injection h with h
   injection h with e1 h;injection h with e2 e3;subst e1;subst e2;subst e3;refine(hso.2 _ cap v w).mono fun e w' hh=>?_
   obtain⟨rfl,rfl⟩:=hh;exact⟨_,_,_,rfl,.refl T,yY⟩
  rename_i hn0;split at h
  case h_2=>cases h
  rename_i b hb;split at h
  case isFalse=>cases h
  rename_i hc;obtain⟨rfl,harr,hbk,hfit,hn,hW,M⟩:=hc;injection h with h
  injection h with e1 h;injection h with e2 e3;subst e1;subst e2;subst e3;have d:=T.live id b hb;obtain⟨us,ts,rfl,hus,hts,_,_⟩:=hv.mT;obtain rfl:us=#[]:=Array.eq_empty_of_size_eq_zero (by simpa using hus.symm);obtain rfl:ts=#[]:=Array.eq_empty_of_size_eq_zero (by simpa using hts.symm);have A:(G id).s=k:=by rw[<-d.bs];exact hbk
  obtain⟨N,c1,c2,c3⟩:=d.row o;rw[A]at c3 g4;obtain⟨xs,Q⟩:=kC ((b.es.drop off).take n);rw[Q]at hW M;have H:xs.length=n:=by rw[<-Q];simp;omega
  have I:xs≠[]:=by rintro rfl;simp at H;omega
  have B:∀x∈xs,x.length=k:=fun x I=>by rw[<-A];rw[<-Q]at I;exact d.len o x (List.mem_of_mem_drop (List.mem_of_mem_take I))
  have hxg:∀i,i<n->xs[i]?=b.es[off+i]?:=fun i T=>by rw[<-Q,wM,ze T,wB]
  let ix:Nat->Nat:=fun i=>if i<n then i else 0
  have hix:∀i,ix i<n:=fun i=>by show(if i<n then i else 0)<n;split<;>omega
  have hel:∀i,xs[ix i]?=some (ZC xs i):=fun i=>by
   unfold ZC;rw[WE];show xs[if i<n then i else 0]?=_;have:(if i<n then i else 0)<xs.length:=by rw[H];exact hix i
   rw[H,zn this];rfl
  let V:Nat->List Value:=fun i=>(List.range k).map fun j=>(N[(off+ix i)*k+j]?).getD undef
  have hek:∀x,(V x).length=k:=fun x=>by simp[V]
  have l:∀i j C,(ZC xs i)[j]?=some C->∃u,N[(off+ix i)*k+j]?=some u/\(V i)[j]?=some u/\q9 w S C u/\u.oneCell'=true:=fun i j C hj=>by
   have J:j<k:=by have:=(zh.1 hj).1;rw[B _ (jv I i)]at this;exact this
   obtain⟨u,W,L⟩:=c3 (off+ix i) j (ZC xs i) C (by rw[<-hxg _ (hix i)];exact hel i) hj;rw[harr]at L;refine⟨u,W,?_,L.1 rfl,L.2.2⟩;simp[V,J,W]
  have E:∀i j,j<k->∃C,(ZC xs i)[j]?=some C:=fun i j hj=>by
   have:j<(ZC xs i).length:=by rw[B _ (jv I i)];exact hj
   exact⟨_,zn this⟩
  have h1c:∀x,∀v∈V x,v.oneCell'=true:=fun x v hv=>by obtain⟨j,hj,rfl⟩:=zN.1 hv;obtain⟨C,hpv⟩:=E x j (jl.1 hj);obtain⟨u,W,_,_,q4⟩:=l x j C hpv;rw[W];exact q4
  have hblk:(G id).g<w.heap.size:=d.lt;have F:∀m D (p:Array Nat) K,S K->(sortWorldK V k w (G id).g (off*k) m p D).heap[K]?=w.heap[K]?:=fun m D p K a=>by
   have R:K<(putRowK V k w (G id).g (off*k) p).heap.size:=by rw[Ze V k w _ _ p c1,size_setRow];exact T.st K a
   rw[(Yh (dr:=True) V k w (G id).g (off*k) m p D).block K R (fun h=>h),Ze V k w _ _ p c1];exact setRow_other _ _ _ _ fun e=>T.apart id b hb (e ▸ a)
  have zbz:∀m D (p:Array Nat),w.heap.size<=(sortWorldK V k w (G id).g (off*k) m p D).heap.size:=fun m D p=>by have:=(Yh (dr:=True) V k w (G id).g (off*k) m p D).size;rw[Ze V k w _ _ p c1,size_setRow]at this;exact this
  obtain⟨eg,spec,hsp,IK⟩:=hco;have hcmp:CmpLays P g' #[] V k (dE cf xs) (G id).g (off*k) n w:=by
   intro m D p Un x y;have hagg:∀x,q9 (sortWorldK V k w (G id).g (off*k) m p D) S (.agg (ZC xs x)) (.agg (V x).toArray):=fun x=>by
    refine .agg (by simp[hek,B _ (jv I x)]) fun j C u hj hu=>?_
    obtain⟨u',_,L,q3,_⟩:=l x j C hj;have:u=u':=by simpa[L]using hu.symm
    subst this;exact q3.mono fun K a=>⟨a,F m D p K a⟩
   have:=hsp.2 _ _ _ _ _ _ (IK _ _ (B _ (jv I x)) (B _ (jv I y)) (M _ (jv I x)) (M _ (jv I y))) (sortWorldK V k w (G id).g (off*k) m p D) S G [.agg (V x).toArray,.agg (V y).toArray]
    ⟨fun K a=>wA (T.st K a) (zbz m D p),fun _ _ h=>(nomatch h),fun _ _ h=>(nomatch h),fun _ _ h=>(nomatch h),fun _ _ _ _ h=>(nomatch h),T.bF.mono fun K a=>⟨a,F m D p K a⟩⟩ (.cons (.c (hagg x)) (.cons (.c (hagg y)) .nil))
   refine this.mono fun e w' hh=>?_
   obtain⟨v,S',G',rfl,st,hv⟩:=hh;obtain⟨rfl,_⟩:=hv.wF;refine⟨rfl,tC ⟨st.fr.os,st.fr.tape,st.fr.output,st.fr.size,st.fr.drawn,fun k hk _=>st.fr.block k hk ?_⟩⟩;rintro⟨_,_,h,_⟩;cases h
  have hH:HoldsK V k w (G id).g (off*k) (Array.range n):=by
   intro t ht;have ht':t<n*k:=by simpa using ht
   have hd:=Nat.div_add_mod t k;have hm:=Nat.mod_lt t h0;have hdl:t/k<n:=(Nat.div_lt_iff_lt_mul h0).2 ht';rw[get_flatK _ _ _ _ (by simpa using ht')];have hr:(Array.range n)[t/k]! = t/k:=by rw[mP _ _ (by simpa using hdl)];simp
   obtain⟨C,hpv⟩:=E (t/k) (t % k) hm;obtain⟨u,W,L,_,_⟩:=l (t/k) (t % k) C hpv;have hixe:ix (t/k)=t/k:=ze hdl;constructor
   ·rw[cell_of_row w _ _ N _ _ c1,hr,List.getElem!_eq_getElem?_getD,L];rw[hixe]at W;have:off*k+t=(off+t/k)*k+t % k:=by rw[wI,Nat.mul_comm (t/k) k];omega
    rw[this,W];rfl
   ·simp[World.frozen?,c1]
  have hsw:=hW.swo I;have key:=hso.1 Nat V hek h1c (dE cf xs) hsw g' (G id).g (off*k) cap (Array.range n) w eg (by simpa using hcmp) hH hblk (by simpa using hn);have es1:(Array.range n).size=n:=by simp
  rw[es1]at key;rw[A];refine key.mono fun e w' hh=>?_
  obtain⟨rfl,m,D,rfl⟩:=hh;have hidx:pdq (ltOf (dE cf xs)) (Array.range n) 0 n (Lib.bitLen n) true true=vO cf xs:=by unfold vO;rw[H]
  rw[hidx];have hds:(vO cf xs).size=n:=by rw[Yf hW I,H]
  have O4:(xv cf xs).length=n:=by rw[Vv hW,H]
  have hpl:off+(xv cf xs).length<=b.es.length:=by rw[O4];exact hfit
  have hsg:∀i,i<n->(xv cf xs)[i]?=some (ZC xs (vO cf xs)[i]!):=fun i hin=>by unfold xv;rw[zj (by omega),qn,aQ,mP _ i (by omega),xm (by omega)];rfl
  refine⟨_,S,G,rfl,?_,yY⟩;rw[Q];have rZ:=j6.set (dr:=dr) T hb o (putCells (fun v:Value=>v) (off*k) (flatK V k (vO cf xs)) N) (b.es.take off++xv cf xs++b.es.drop (off+n)) (by simp[putCells,c2])
   (fun c hc=>by
    rw[qY]at hc;rcases qh.1 hc with hc|hc
    ·exact d.len o c (List.mem_of_mem_take hc)
    rcases qh.1 hc with hc|hc
    ·rw[A];exact B c ((Yg hW).mem_iff.1 hc)
    ·exact d.len o c (List.mem_of_mem_drop hc))
   (by have:=Za b.es (xv cf xs) off hpl;rw[O4]at this;rw[this];exact d.fit o)
   (fun i j c C q X=>by
    have hspl:=xO b.es (xv cf xs) off i hpl;rw[O4]at hspl;rw[hspl]at q;rw[A];split at q
    ·rename_i hin;rw[hsg _ (by omega)]at q;injection q with q
     subst q;have J:j<k:=by have:=(zh.1 X).1;rw[B _ (jv I _)]at this;exact this
     obtain⟨u,W,L,q3,q4⟩:=l _ j C X;refine⟨u,?_,fun _=>q3,.c q3,q4⟩;obtain⟨i',rfl⟩:∃i',i=off+i':=⟨i-off,by omega⟩;have e1:off+i'-off=i':=by omega
     rw[e1]at L;have e2:(off+i')*k+j=off*k+(i'*k+j):=by rw[wI];omega
     have R:i'*k+j<n*k:=QB (by omega) J;have hcl:off*k+(i'*k+j)<N.size:=by rw[c2];have:=d.fit o;rw[A]at this;have h5:(off+n)*k<=b.es.length*k:=qt k hfit;rw[wI]at h5;omega
     rw[e2];unfold putCells;rw[Array.getElem?_mapIdx,xm hcl];simp only[zL,size_flatK,hds];rw[ze ⟨by omega,by omega⟩,show off*k+(i'*k+j)-off*k=i'*k+j by omega,get_flatK _ _ _ _ (by rw[hds];exact R)];have e3:(i'*k+j)/k=i':=by rw[Nat.mul_comm,Nat.mul_add_div h0,Nat.div_eq_of_lt J];rfl
     have e4:(i'*k+j) % k=j:=by rw[Nat.mul_comm,Nat.mul_add_mod,Nat.mod_eq_of_lt J]
     rw[e3,e4,List.getElem!_eq_getElem?_getD,L];rfl
    ·rename_i hin;obtain⟨u,W,L⟩:=c3 i j c C q X;refine⟨u,?_,L⟩;have J:j<k:=by have:=(zh.1 X).1;rw[d.len o c (zD q),A]at this;exact this
     unfold putCells;rw[Array.getElem?_mapIdx,W];simp only[zL,size_flatK,hds];rw[zj];rintro⟨a1,a2⟩;apply hin;constructor
     ·apply Nat.not_lt.1;intro R;have:(i+1)*k<=off*k:=qt k R;rw[wI]at this;omega
     ·apply Nat.not_le.1;intro hle;have:(off+n)*k<=i*k:=qt k hle;rw[wI]at this;omega)
  rw[<-Ze V k w _ _ _ c1]at rZ;exact rZ.trans (j6.grown rZ.inv (Yh V k w (G id).g (off*k) m (vO cf xs) D))
 ·cases h
end
end Go.AM
namespace Go.Q
open Classical in
noncomputable def F9 (x y:zb):Int:=if h:∃a b:Cut,x=a.V/\y=b.V then xl (Classical.choose h) (Classical.choose (yD h))else 0
theorem ZT(a b:Cut):F9 a.V b.V=xl a b:=by have h:∃c d:Cut,a.V=c.V/\b.V=d.V:=⟨a,b,rfl,rfl⟩;unfold F9;rw[zcl h];have e:=yD (yD h);exact congr (zo xl (xi e.1).symm) (xi e.2).symm
def yU(l:List Cut):List zb:=l.map Cut.V
theorem Ga(l:List Cut):Q9 F9 (yU l) where
 irrefl x d:=by obtain⟨a,_,rfl⟩:=zN.1 d;rw[ZT,b7.refl];exact Int.le_refl _
 trans x d y e z f:=by obtain⟨a,_,rfl⟩:=zN.1 d;obtain⟨b,_,rfl⟩:=zN.1 e;obtain⟨c,_,rfl⟩:=zN.1 f;rw[ZT,ZT,ZT];exact b7.trans
 ntrans x d y e z f:=by obtain⟨a,_,rfl⟩:=zN.1 d;obtain⟨b,_,rfl⟩:=zN.1 e;obtain⟨c,_,rfl⟩:=zN.1 f;rw[ZT,ZT,ZT];exact b7.ntrans
def Mf(x:zb):Prop:=∃a:Cut,x=a.V/\a.v.small
theorem Rk:F8 prog 223 5 F9 Mf:=by
 refine⟨fun args w=>?_,_,kR,fun x y _ _ c d=>?_⟩
 ·have h:prog.funcs[223]?=some f223:=func223;simp[callFunc,h,f223]
 ·obtain⟨a,rfl,e⟩:=c;obtain⟨b,rfl,f⟩:=d;rw[ZT];exact Jh a b _ _ e f
open Classical in
noncomputable def tD (x:zb):Cut:=if h:∃a:Cut,x=a.V then Classical.choose h else yL
theorem Gb(a:Cut):tD a.V=a:=by have h:∃c:Cut,a.V=c.V:=⟨a,rfl⟩;unfold tD;rw[zcl h];exact(xi (yD h)).symm
theorem Vw(l:List Cut):(yU l).map tD=l:=by
 induction l with
 |nil=>rfl
 |cons a l b=>show tD a.V::(yU l).map tD=_;rw[Gb,b]
theorem au(l:List Cut):∃s:List Cut,xv F9 (yU l)=yU s/\s.Perm l/\s.Pairwise fun a b=>xl a b<=0:=by
 have Y:=Yg (Ga l);have hs:=Vu (Ga l);have c:∀(r:List zb),(∀x∈r,∃a:Cut,x=a.V)->∃s:List Cut,r=yU s:=by
  intro r
  induction r with
  |nil=>intro _;exact⟨[],rfl⟩
  |cons x r d=>
   intro h;obtain⟨a,rfl⟩:=h x (by simp);obtain⟨s,rfl⟩:=d fun y f=>h y (by simp[f])
   exact⟨a::s,rfl⟩
 obtain⟨s,e⟩:=c (xv F9 (yU l)) fun x g=>by have:=Y.mem_iff.1 g;obtain⟨a,_,rfl⟩:=zN.1 this;exact⟨a,rfl⟩
 rw[e]at Y hs;refine⟨s,e,?_,?_⟩
 ·have:=Y.map tD;rwa [Vw,Vw]at this
 ·rw[yU,List.pairwise_map]at hs;refine hs.imp fun{a b} h=>?_
  rw[ZT]at h;exact(b7.le a b).2 h
end Go.Q
namespace Go.Q
def QJ(out:List wG)(c:Cut):List wG:=match out.getLast? with
 |some s=>out.dropLast++[⟨s.lo,c,false⟩]
 |none=>out
def CL(a:Cut->Bool)(st:Bool×List wG)(c:Cut):Bool×List wG:=(a c,if(a c&&!st.1)=true then st.2++[jN c]else if(!a c&&st.1)=true then QJ st.2 c else st.2)
def nc(a:Cut->Bool)(l:List Cut)(st:Bool×List wG):Bool×List wG:=l.foldl (CL a) st
def w7:List wG->List Cut
 |[]=>[]
 |s::l=>(if s.ki=true then[s.lo]else[s.lo,s.hi])++w7 l
theorem Q1(a b:List wG):w7 (a++b)=w7 a++w7 b:=by
 induction a with
 |nil=>rfl
 |cons s a c=>simp only[q7,w7,c,qY]
theorem Qf(a:List wG):(w7 a).length<=2*a.length:=by
 induction a with
 |nil=>simp[w7]
 |cons s a b=>simp only[w7,yy,zU];split<;>simp<;>omega
theorem KG{Q:Cut->Prop}{a:List wG}(h:∀s∈a,Q s.lo/\Q s.hi):∀c∈w7 a,Q c:=by
 induction a with
 |nil=>intro c hc;cases hc
 |cons s a d=>
  intro c hc;obtain⟨b,e⟩:=h s (by simp);simp only[w7,qh]at hc;rcases hc with hc|hc
  ·split at hc
   ·rw[we]at hc;rw[hc];exact b
   ·simp only[zC,List.not_mem_nil,or_false]at hc;rcases hc with rfl|rfl
    ·exact b
    ·exact e
  ·exact d (fun x f=>h x (by simp[f])) c hc
noncomputable def Q2 (l:List Cut):List Cut:=(xv F9 (yU l)).map tD
theorem tE(l:List Cut):xv F9 (yU l)=yU (Q2 l):=by obtain⟨s,h,_⟩:=au l;unfold Q2;rw[h,Vw]
theorem Zo(l:List Cut):(Q2 l).Perm l:=by obtain⟨s,h,a,_⟩:=au l;unfold Q2;rw[h,Vw];exact a
noncomputable def Ws (f:Bool->Bool->Bool) (a b:List wG):List wG:=(nc (fun c=>f (Yd a c) (Yd b c)) (Q2 (w7 a++w7 b)) (false,[])).2
theorem oA(out:List wG)(c:Cut):(QJ out c).length=out.length:=by
 unfold QJ;split
 ·rename_i s h;have:out≠[]:=by rintro rfl;cases h
  have:=zcS.2 this;simp;omega
 ·rfl
theorem AJ(a:Cut->Bool):∀(l:List Cut) (st:Bool×List wG),2*(nc a l st).2.length+(if st.1=true then 1 else 0)<=2*st.2.length+l.length+(if(nc a l st).1=true then 1 else 0)
 |[],st=>by show 2*st.2.length+(if st.1=true then 1 else 0)<=2*st.2.length+0+(if st.1=true then 1 else 0);omega
 |c::l,st=>by
  have b:=AJ a l (CL a st c);have e:nc a (c::l) st=nc a l (CL a st c):=rfl;rw[e];have hs:2*(CL a st c).2.length+(if st.1=true then 1 else 0)<=2*st.2.length+1+(if(CL a st c).1=true then 1 else 0):=by obtain⟨o,out⟩:=st;unfold CL;cases a c<;>cases o<;>simp[oA]<;>omega
  simp only[zU];omega
theorem XI(f:Bool->Bool->Bool)(a b:List wG):(Ws f a b).length<=a.length+b.length:=by have h:=AJ (fun c=>f (Yd a c) (Yd b c)) (Q2 (w7 a++w7 b)) (false,[]);have d:=(Zo (w7 a++w7 b)).length_eq;have e:=Qf a;have g:=Qf b;rw[yy]at d;unfold Ws;simp only[zE,wE,O1]at h;split at h<;>omega
theorem oB{Q:Cut->Prop}{out:List wG}{c:Cut}(h:∀s∈out,Q s.lo/\Q s.hi)(b:Q c):∀s∈QJ out c,Q s.lo/\Q s.hi:=by
 unfold QJ;split
 ·rename_i s hs;intro x a;rcases qh.1 a with a|a
  ·exact h x (List.dropLast_subset _ a)
  ·rw[we]at a;rw[a];exact⟨(h s (List.mem_of_getLast? hs)).1,b⟩
 ·exact h
theorem AK{Q:Cut->Prop}(b:Q WI)(a:Cut->Bool):∀(l:List Cut) (st:Bool×List wG),(∀c∈l,Q c)->(∀s∈st.2,Q s.lo/\Q s.hi)->∀s∈(nc a l st).2,Q s.lo/\Q s.hi
 |[],st,_,h=>h
 |c::l,st,d,h=>by
  refine AK b a l (CL a st c) (fun x f=>d x (by simp[f])) ?_;have e:=d c (by simp);unfold CL;dsimp only;split
  ·intro s hs;rcases qh.1 hs with hs|hs
   ·exact h s hs
   ·rw[we]at hs;rw[hs];exact⟨e,b⟩
  ·split
   ·exact oB h e
   ·exact h
theorem CM{Q:Cut->Prop}(d:Q WI)(f:Bool->Bool->Bool){a b:List wG}(e:∀s∈a,Q s.lo/\Q s.hi)(g:∀s∈b,Q s.lo/\Q s.hi):∀s∈Ws f a b,Q s.lo/\Q s.hi:=
 AK d _ _ _ (fun c i=>by
  have:=(Zo _).mem_iff.1 i;rcases qh.1 this with h|h
  ·exact KG e c h
  ·exact KG g c h) (fun s hs=>by cases hs)
end Go.Q
namespace Go.AM
variable{dr:Prop}
def dG(p:List (Option Nat))(b:jV):jV:=⟨b.e,b.s,b.arr,b.es.map (Qv p)⟩
theorem kr.fixed{P:Program}{w:World}{S:Nat->Prop}{G:Nat->GI}{Z:Nat}{k:GI}{b:jV}(h:kr P w S G Z k b)(f:0<k.s)(q:b.arr=true)(p:List (Option Nat)):kr P w S G Z k (dG p b):=by
 refine kr.kh f h.bs ⟨h.size f,fun c r=>?_,by simpa[dG]using h.fit f,?_⟩
 ·obtain⟨a,d,rfl⟩:=zN.1 r;rw[kv];exact h.len f a d
 ·obtain⟨l,t,v,x⟩:=h.row f;refine⟨l,t,v,fun i j c B e m=>?_⟩;simp only[dG,qn]at e;obtain⟨a,d,rfl⟩:∃a,b.es[i]?=some a/\Qv p a=c:=by
   cases n:b.es[i]? with
   |none=>rw[n]at e;cases e
   |some a=>rw[n]at e;injection e with e;exact⟨a,rfl,e⟩
  have g:j<a.length:=by have:=(zh.1 m).1;rwa [kv]at this
  obtain⟨u,y,z,_,A⟩:=x i j a a[j] d (zn g);have o:=(vo p a).get (zn g) m _ _ _ (z q);exact⟨u,y,fun _=>o,.c o,A⟩
theorem j6.fixed{P:Program}{Y:Hp}{Z:Nat}{S:Nat->Prop}{G:Nat->GI}{w:World}{Y2:Hp}{g:Nat}{m:Nat->Prop}{j:Nat->GI}{n:World}(k:j6 dr P Y Z S G w Y2 g m j n)
  {id:Nat} {b:jV} (o:Y2 id=some b) (r:b.arr=true) (t:0<(j id).s) (p:List (Option Nat)):j6 dr P Y Z S G w (ql Y2 id (some (dG p b))) g m j n:=by
 have d:∀k c,ql Y2 id (some (dG p b)) k=some c->∃f,Y2 k=some f:=fun k c q=>by
  by_cases e:k=id
  ·subst e;exact⟨b,o⟩
  ·rw[qu _ _ _ _ e]at q;exact⟨c,q⟩
 refine⟨⟨k.inv.st,fun i c a=>?_,fun i c a=>?_,fun i c a=>?_,fun i i' c u a l v=>?_,k.inv.bF⟩,k.up,k.loc,k.keep,k.from_,fun i c a=>?_,k.fr⟩
 ·obtain⟨f,h⟩:=d i c a;exact k.inv.top i f h
 ·by_cases e:i=id
  ·subst e;rw[wQ]at a;injection a with a
   subst a;exact(k.inv.live i b o).fixed t r p
  ·rw[qu _ _ _ _ e]at a;exact k.inv.live i c a
 ·obtain⟨f,h⟩:=d i c a;exact k.inv.apart i f h
 ·obtain⟨f,h⟩:=d i c a;obtain⟨x,y⟩:=d i' u l;exact k.inv.inj i i' f x h y v
 ·obtain⟨f,h⟩:=d i c a;exact k.own i f h
def JK(a:List Sh)(F:zb->Option (Option jV)):AM.Spec:=km [] fun args=>F (aU a args)
def Gc(p:List (Option Nat))(r:Option jV)(x:O)(Y:Hp)(_:Nat):Prop:=match r with
 |none=>x=.nil
 |some b=>∃id a,x=.own id 0 a.es.length/\Y id=some a/\a.arr=true/\b=dG p a
section
variable{C:Ctx}{pf:FuncId->Bool}{f:FuncId}{fn:Func}{code:Code}
theorem fH(W:kV dr C pf)(l:Zy C pf f fn)(z:List Sh)(p:List (Option Nat))(F:zb->Option (Option jV))(hF:∀args r,F args=some r->args.length<=fn.ntmps/\∃x Y Z,jG C fn args (fun _=>none) 0=some (x,Y,Z)/\Gc p r x Y Z) :
  kF dr C.P f (JK z F):=by
 obtain⟨_,l⟩:=l;refine⟨⟨fn,l.func,l.name,by rw[l.body];rfl⟩,?_⟩;intro args Y Z r Y' Z' h w S G vs hi hz;unfold JK km at h;split at h
 ·rename_i aZ Y1 A;obtain⟨S1,g,t,_⟩:=yZ (dr:=dr) hi A hz;have j:∀id b,Y1 id=some b->Y1 id=some b/\¬False:=fun id b h=>⟨h,fun h=>h⟩
  split at h
  ·rename_i m;obtain⟨B,x,E,H,n,d⟩:=hF _ none m;injection h with h
   injection h with I h;injection h with J K;subst I;subst J;subst K;simp only[Gc]at d;subst d;refine(xQ W l n B g.inv.st g.inv.bF (Wj (Zm t))).mono fun e w' L=>?_
   obtain⟨v,S',G',M,N,a,Q,o,q,_⟩:=L;have R:=Xl (dr:=dr) (D:=fun _=>False) (Y2:=Y1) g.inv j (fun _ h=>h.elim) N a o (fun b T=>(q b T).imp (fun h=>h) .inr);have:=Q.vS;subst this;exact⟨_,_,_,M,g.trans R,.c .nil⟩
  ·rename_i b m;obtain⟨B,x,E,H,n,d⟩:=hF _ (some b) m;injection h with h
   injection h with I h;injection h with J K;subst I;subst J;subst K;obtain⟨id,s,rfl,hid,k,rfl⟩:=d;refine(xQ W l n B g.inv.st g.inv.bF (Wj (Zm t))).mono fun e w' L=>?_
   obtain⟨v,S',G',M,N,a,Q,o,q,u⟩:=L;have R:=nK (dr:=dr) (D:=fun _=>False) (Y2:=Y1) g.inv j (fun _ h=>h.elim) N a o (fun b T=>(q b T).imp (fun h=>h) .inr) hid k (.inr (u id s hid));have y:=nL (Z:=Z) (G:=G) Q;have X:=R.fixed (id:=Z) (by simp) k y.xB p;rw[show ql (ql Y1 Z (some s)) Z (some (dG p s))=ql Y1 Z (some (dG p s)) by funext i;unfold ql;split<;>rfl]at X;refine⟨_,_,_,M,g.trans X,?_⟩;rw[show(dG p s).es.length=s.es.length by simp[dG]];exact y
  ·cases h
 ·cases h
end
end Go.AM
namespace Go.Proofs
open Go.Shelf
def Tryz.Eo:Go.Shelf.Ren:=⟨fun|6=>222|15=>72|14=>244|28=>120|29=>121|20=>262|21=>263|22=>264|23=>265|24=>266|25=>267|26=>268|27=>269|46=>277|47=>157|48=>158|49=>278|50=>279|57=>283|n=>n,fun|22=>290|24=>256|25=>293|3=>3|39=>152|0=>0|53=>193|55=>134|4=>4|46=>187|45=>186|50=>54|5=>5|9=>9|66=>219|70=>223|76=>264|77=>126|n=>n,fun|n=>n⟩
theorem Tryz.O7:Go.Proofs.SlLaysF0.n6 prog Tryz.Eo:={
 mixed:=by kernel_rfl
 f6:=⟨f222.name,by decide,func222.trans (zo some (by kernel_rfl))⟩
 f14:=⟨f244.name,by decide,func244.trans (zo some (by kernel_rfl))⟩
 f15:=func72.trans (zo some (by kernel_rfl))
 f20:=⟨f262.name,by decide,func262.trans (zo some (by kernel_rfl))⟩
 f21:=⟨f263.name,by decide,func263.trans (zo some (by kernel_rfl))⟩
 f22:=⟨f264.name,by decide,func264.trans (zo some (by kernel_rfl))⟩
 f23:=⟨f265.name,by decide,func265.trans (zo some (by kernel_rfl))⟩
 f24:=⟨f266.name,by decide,func266.trans (zo some (by kernel_rfl))⟩
 f25:=⟨f267.name,by decide,func267.trans (zo some (by kernel_rfl))⟩
 f26:=⟨f268.name,by decide,func268.trans (zo some (by kernel_rfl))⟩
 f27:=⟨f269.name,by decide,func269.trans (zo some (by kernel_rfl))⟩
 f28:=func120.trans (zo some (by kernel_rfl))
 f29:=func121.trans (zo some (by kernel_rfl))
 f46:=⟨f277.name,by decide,func277.trans (zo some (by kernel_rfl))⟩
 f47:=func157.trans (zo some (by kernel_rfl))
 f48:=func158.trans (zo some (by kernel_rfl))
 f49:=⟨f278.name,by decide,func278.trans (zo some (by kernel_rfl))⟩
 f50:=⟨f279.name,by decide,func279.trans (zo some (by kernel_rfl))⟩
 f57:=⟨f283.name,by decide,func283.trans (zo some (by kernel_rfl))⟩
 t0:=underlying0
 a0:=isAgg0
 z0:=sizeOf0
 v0:=zeroValue0
 t3:=underlying3
 a3:=isAgg3
 z3:=sizeOf3
 v3:=zeroValue3
 t4:=underlying4
 a4:=isAgg4
 z4:=sizeOf4
 v4:=zeroValue4
 t5:=underlying5
 a5:=isAgg5
 z5:=sizeOf5
 v5:=zeroValue5
 t9:=underlying9
 a9:=isAgg9
 z9:=sizeOf9
 v9:=zeroValue9
 t22:=underlying290
 a22:=isAgg290
 z22:=sizeOf290
 v22:=zeroValue290
 t25:=underlying293
 a25:=isAgg293
 z25:=sizeOf293
 v25:=zeroValue293
 t39:=underlying152
 a39:=isAgg152
 z39:=sizeOf152
 v39:=zeroValue152
 t45:=underlying186
 a45:=isAgg186
 z45:=sizeOf186
 v45:=zeroValue186
 t46:=underlying187
 a46:=isAgg187
 z46:=sizeOf187
 v46:=zeroValue187
 t50:=underlying54
 a50:=isAgg54
 z50:=sizeOf54
 v50:=zeroValue54
 t53:=underlying193
 a53:=isAgg193
 z53:=sizeOf193
 v53:=zeroValue193
 t55:=underlying134
 a55:=isAgg134
 z55:=sizeOf134
 v55:=zeroValue134
 t66:=underlying219
 a66:=isAgg219
 z66:=sizeOf219
 v66:=zeroValue219
 t70:=underlying223
 a70:=isAgg223
 z70:=sizeOf223
 v70:=zeroValue223
 t76:=underlying264
 a76:=isAgg264
 z76:=sizeOf264
 v76:=zeroValue264
 t77:=underlying126
 a77:=isAgg126
 z77:=sizeOf126
 v77:=zeroValue126}
theorem Tryz.IL:tB prog 222 5:=⟨fun _ _ V e f h i g blk off cap d w j a k b c=>AnyQ.slices_SortFunc_eq Tryz.O7 5 isAgg256 sizeOf256 V e f h i g #[] blk off cap d w j a k b c,
 fun p cap l w=>AnyF.slices_SortFunc_none Tryz.O7 p cap l w⟩
end Go.Proofs
namespace Go.Q
theorem dH:zf prog 222 (Km 5 223 F9 Mf):=
 ar (by decide) ⟨_,func222,by kernel_rfl,by kernel_rfl⟩ Tryz.IL Rk
noncomputable def FBB (f:Bool->Bool->Bool):zb->Option O:=zS (α:=Bool×Bool) (fun a=>[qO a.1,qO a.2]) (fun _=>True) (fun a=>qO (f a.1 a.2))
theorem oC(f:Bool->Bool->Bool)(a b:Bool)(Y:Hp)(Z:Nat):zg false [] (FBB f) [qO a,qO b] Y Z=some (qO (f a b),Y,Z):=
 Zc (a,b) _ _ rfl (fun x y e=>by obtain⟨c,d⟩:=x;obtain⟨g,h⟩:=y;simp only[zc,zs]at e;rw[Z1 e.1,Z1 e.2]) trivial (.inl rfl)
theorem oD:zf prog 186 (zg false [] (FBB and)):=
 kL y7 func186 false [] fun⟨a,b⟩ _=>⟨by simp[f186],_,zl rfl (by cases a<;>simp[qU,f186]),qa _⟩
theorem tF:zf prog 187 (zg false [] (FBB or)):=
 kL y7 func187 false [] fun⟨a,b⟩ _=>⟨by simp[f187],_,zl rfl (by cases a<;>simp[qU,f187]),qa _⟩
theorem fI{Y:Hp}{Z:Nat}{v:O}{l:List Cut}(h:wD Y Z 256 5 v (yU l))(hs:∀c∈l,c.v.small)(m:l.length<4611686018427387904) :
  ∃b,Km 5 223 F9 Mf [v,.fn (.func 223) [] []] Y Z=some (.q8 [],b,Z)/\wD b Z 256 5 v (yU (Q2 l))/\∀j,(∀n,v≠.own j 0 n)->b j=Y j:=by
 have a:(yU (Q2 l)).length=(yU l).length:=by have:=(Zo l).length_eq;simpa[yU]using this
 rcases h with⟨rfl,o⟩|⟨id,g,rfl,d⟩
 ·refine⟨Y,rfl,.inl ⟨rfl,?_⟩,fun _ _=>rfl⟩;rw[o]at a;exact qC.1 a
 ·by_cases f:(yU l).length=0
  ·refine⟨Y,by simp only[Km,ze f],?_,fun _ _=>rfl⟩;have i:yU l=[]:=qC.1 f;rw[i]at a d;have p:=qC.1 a;rw[i,p];exact .inr ⟨id,g,rfl,d⟩
  ·refine⟨ql Y id (some ⟨256,5,true,yU (Q2 l)⟩),?_,.inr ⟨id,g,by rw[a],by simp⟩,fun j q=>zk _ _ _ _ fun e=>q (yU l).length (by subst e;rfl)⟩;unfold Km;simp only[zj f,d];rw[ze ⟨rfl,rfl,rfl,by simp,by simpa[yU]using m,by simpa using Ga l,fun x k=>by simp only[wZ,ja]at k;obtain⟨c,r,rfl⟩:=zN.1 k;exact⟨c,rfl,hs c r⟩⟩]
   simp[tE]
theorem CN{c:zb}{s:wG}(h:Qv vr c=s.V):∃d k l m n o e,c=[int s.lo.v.a,int s.lo.v.b,int s.lo.v.c,d,qO s.lo.after,k,l,m,n,o,e]/\n1 1 d=.sl 1 (zZ s.lo.v.pre)/\d.wz=true:=by
 have f:=kv vr c;rw[h]at f;simp[wG.V,Cut.V]at f
 match c,f with
 |[B,C,D,i,E,p,q,r,t,u,g],_=>simp[wG.V,Cut.V]at h;obtain⟨w,x,y,j,z,F,G,H,I,J,A⟩:=h;subst w;subst x;subst y;subst z;refine⟨i,p,q,r,t,u,g,rfl,j,?_⟩;cases i<;>first|rfl|(simp[n1]at j)
theorem oE{out:List wG}{m:Nat}(b:m<out.length)(h:out.length=m+1)(c:Cut):QJ out c=out.set m ⟨out[m].lo,c,false⟩:=by
 unfold QJ;have a:out≠[]:=by rintro rfl;simp at b
 rw[List.getLast?_eq_some_getLast a];have d:out.getLast a=out[m]:=by rw[List.getLast_eq_getElem];congr 1;omega
 simp only[d];apply List.ext_getElem
 ·simp;omega
 ·intro i f g;rw[List.getElem_set];split
  ·rename_i e;subst e;rw[List.getElem_append_right (by simp;omega)];simp
  ·rw[Ek (by simp at f⊢;omega)];simp
theorem Ge(a:Cut->Bool)(st:Bool×List wG)(c:Cut)(h:st.1=true->st.2≠[]):(CL a st c).1=true->(CL a st c).2≠[]:=by obtain⟨o,out⟩:=st;unfold CL;cases a c<;>cases o<;>simp at h⊢<;>assumption
theorem oF(l:List wG)(c:Cut)(Y:Hp)(Z:Nat)(b:yQ l)(d:c.v.small):qH [.s 11 vr,.g v7] (FRC fun l c=>qO (Yd l c)) [.sl 11 (qD l),.agg c.V] Y Z=some (qO (Yd l c),Y,Z):=
 va (show zy Y [.sl 11 (qD l),.agg c.V]=some ([.sl 11 (qD l),.agg c.V],Y) by simp[Cut.V]) (by
  have e:(Sh.s 11 vr).fix (.sl 11 (qD l))=.sl 11 (qD l):=by simp only[Sh.IB,qD,List.map_map];congr 1
  have f:(Sh.g v7).fix (.agg c.V)=.agg c.V:=by simp[Cut.V]
  show FRC _ [(Sh.s 11 vr).fix (.sl 11 (qD l)),(Sh.g v7).fix (.agg c.V)]=_;rw[e,f];exact qx (V:=fun a:List wG×Cut=>[O.sl 11 (qD a.1),.agg a.2.V]) (a:=(l,c)) Rj ⟨b,d⟩) (.inl rfl)
noncomputable abbrev Rl:Ctx:=zG prog [(222,Km 5 223 F9 Mf),(224,qH [.s 11 vr,.g v7] (FRC fun l c=>qO (Yd l c))),
 (186,zg false [] (FBB and)),(187,zg false [] (FBB or))]
theorem Mg:AM.Good Rl (fun g=>[224].contains g):=qc mixed ⟨dH,by simp,lM,fun _=>vp _ _,oD,by simp,tF,by simp,trivial⟩
theorem CO{l:List wG}{k:Nat}(h:k<l.length):w7 (l.take (k+1))=w7 (l.take k)++(if l[k].ki=true then[l[k].lo]else[l[k].lo,l[k].hi]):=by rw[qo h,Q1];simp[w7]
theorem Gf(a:Cut->Bool){l:List Cut}{k:Nat}(h:k<l.length)(st:Bool×List wG):nc a (l.take (k+1)) st=CL a (nc a (l.take k) st) l[k]:=by unfold nc;rw[qo h,Bx];rfl
theorem CP(a b:List Cut):yU (a++b)=yU a++yU b:=by simp[yU]
noncomputable def Ji (f:Bool->Bool->Bool) (a b:List wG):Option jV:=if Ws f a b=[]then none else some ⟨258,11,true,qD (Ws f a b)⟩
theorem CQ(i o n:Nat)(Y:Hp):Z9 (.own i o n) Y=ql Y i none:=rfl
theorem Gg{Y:Hp}{Z e s:Nat}{v:O}{xs:List zb}(h:wD Y Z e s v xs){j:Nat}(a:Z<=j):∀n,v≠.own j 0 n:=by
 rcases h with⟨rfl,_⟩|⟨id,b,rfl,_⟩
 ·intro n e;cases e
 ·intro n e;injection e with e;omega
theorem Vx(f:Bool->Bool->Bool)(hv:O)(IK:∀x y Y Z,yR Rl Y Z (some hv) [qO x,qO y]=some (qO (f x y),Y,Z))(a b:List wG)(ha:yQ a)(hb:yQ b) :
  ∃x Y Z,jG Rl f185 [.sl 11 (qD a),.sl 11 (qD b),hv] (fun _=>none) 0=some (x,Y,Z)/\Gc vr (Ji f a b) x Y Z:=by
 refine zY rfl ?_;have hsa:=ha;have hsb:=hb;obtain⟨ha1,ha2⟩:=ha;obtain⟨Lf,hb2⟩:=hb;unfold zw at ha1 Lf;obtain⟨ls,hls⟩:∃ls:List (List wG),[a,b]=ls:=⟨_,rfl⟩;obtain⟨rows,S⟩:∃rows:List zb,[[O.sl 11 (qD a)],[.sl 11 (qD b)]]=rows:=⟨_,rfl⟩;have K:∀i,i<2->∃l:List wG,(w7 (ls.take (i+1)).flatten=w7 (ls.take i).flatten++w7 l)/\rows[i]?=some [O.sl 11 (qD l)]/\l.length<=2097152/\(∀s∈l,s.small)/\(w7 (ls.take i).flatten).length<=4194304:=by
  intro i hi;rw[<-hls,<-S];rcases(by omega:i=0\/i=1)with rfl|rfl
  ·exact⟨a,by simp[w7],rfl,ha1,ha2,by simp[w7]⟩
  ·exact⟨b,by simp[Q1],rfl,Lf,hb2,by have:=Qf a;simp;omega⟩
 simp[zu,zX,zv,S];refine zP (fun i U Y Z=>U 0=.sl 11 (qD a)/\U 1=.sl 11 (qD b)/\U 2=hv/\U 19=.own 0 0 2/\U 20=int 2/\U 21=int i/\1<=Z/\Y 0=some ⟨215,1,true,rows⟩/\(∀n,U 7≠.own 0 0 n)/\wD Y Z 256 5 (U 7) (yU (w7 (ls.take i).flatten))) 2
  ⟨by simp,by simp,by simp,by simp,by simp,by simp,by simp,by simp,by simp,.inl ⟨by simp,by simp[w7,yU]⟩⟩ ?_
 rintro i U Y Z hi ⟨E,F,G,u,w,z,T,b0,L,A⟩;by_cases hlt:i<2
 ·obtain⟨l,hl,hr,hll,hls2,hcl⟩:=K i hlt;obtain⟨hr1,hr2⟩:=zh.1 hr;have hw:=qz i;have p:(qD l).length=l.length:=by simp[qD]
  have hltI:(i:Int)<2:=by omega
  simp[E,F,G,u,w,z,hltI,hlt,b0,hr1,hr2,p];refine zP (fun k U Y Z=>U 0=.sl 11 (qD a)/\U 1=.sl 11 (qD b)/\U 2=hv/\U 19=.own 0 0 2/\U 20=int 2/\U 21=int i/\1<=Z/\Y 0=some ⟨215,1,true,rows⟩/\(∀n,U 7≠.own 0 0 n)/\wD Y Z 256 5 (U 7) (yU (w7 (ls.take i).flatten++w7 (l.take k))) /\
   U 25=.sl 11 (qD l)/\U 26=int l.length/\U 27=int k) l.length
   ⟨by simp[E],by simp[F],by simp[G],by simp[u],by simp[w],by simp[z],T,b0,by simpa using L,by simpa[w7]using A,by simp,by simp,by simp⟩ ?_
  clear E F G u w z T b0 L A hi U Y Z;rintro k U Y Z hk ⟨E,F,G,u,w,z,T,b0,L,A,Li,Uo,h27⟩;by_cases j:k<l.length
  ·have H:=qz k;have r:∀h:k<(qD l).length,(qD l)[k]=l[k].V:=fun h=>by simp[qD]
   have hcn:=Qf (l.take k);rw[bD]at hcn;have hct:=CO j;obtain⟨xs,g⟩:=kC (yU (w7 (ls.take i).flatten++w7 (l.take k)));have B:xs.length<=8388608+2:=by rw[<-g];simp[yU];omega
   rw[g]at A;have hE:yU (w7 (ls.take i).flatten++w7 (l.take (k+1)))=xs++(if l[k].ki=true then[l[k].lo]else[l[k].lo,l[k].hi]).map Cut.V:=by rw[hct,<-qY,CP,g];rfl
   have hkn:=fun Y'=>yo A Y' Z (Gg A (zi _))
   have hk0:=fun Y'=>yo A Y' 0 L
   obtain⟨s,hs⟩:=kC (l[k]);rw[hs]at hct r hE;have q:=wD.jb (P:=prog) (t:=290) (c:=s.lo.V) (A.more (some ⟨258,11,false,[s.V]⟩)) Fm Ow Ox Oy rfl (by omega) (by unfold maxLen;omega) (by omega);have W:=wD.after (Y:=ql Y Z (some ⟨258,11,false,[s.V]⟩)) (Z:=Z+1) (e:=256) (s:=5) (v:=U 7) (xs:=xs) (c:=s.lo.V) (tmp:=some ⟨256,5,true,[s.lo.V]⟩);have C:=wD.jb (P:=prog) (t:=290) (c:=s.hi.V) W Fm Ow Ox Oy rfl (by omega) (by simp;unfold maxLen;omega) (by simp;omega);rw[show(xs++[s.lo.V]).length=xs.length+1 by simp,qY,show[s.lo.V]++[s.hi.V]=[s.lo.V,s.hi.V]from rfl]at C;have X:=wD.after (Y:=ql (Z9 (U 7) (ql (ql Y Z (some ⟨258,11,false,[s.V]⟩)) (Z+1) (some ⟨256,5,true,[s.lo.V]⟩))) (Z+1+1) (some ⟨256,5,true,xs++[s.lo.V]⟩)) (Z:=Z+1+2) (e:=256) (s:=5) (v:=.own (Z+1+1) 0 (xs.length+1)) (xs:=xs++[s.lo.V]) (c:=s.hi.V) (tmp:=some ⟨256,5,true,[s.hi.V]⟩);rw[show(xs++[s.lo.V]).length=xs.length+1 by simp,qY,show[s.lo.V]++[s.hi.V]=[s.lo.V,s.hi.V]from rfl]at X;simp only[wG.V,Cut.V,q7,yW]at q C W X r;have m1:¬Z=Z+1+1:=by omega
   have m2:¬Z=Z+1+2:=by omega
   have m3:¬Z=Z+1+2+1:=by omega
   have n1:¬0=Z:=by omega
   have n2:¬0=Z+1:=by omega
   have n3:¬0=Z+2:=by omega
   have n4:¬0=Z+3:=by omega
   have n5:¬0=Z+4:=by omega
   cases M:s.ki
   ·rw[M]at hct;rw[M]at q C W X r;simp[E,F,G,u,w,z,Li,Uo,h27,j,p,r,q,C,hkn,H,m1,m2,m3,zu,zX,zv];refine⟨by omega,?_,?_⟩
    ·simp[CQ,hk0,b0,n1]
    ·rw[hE,M];simp only[zE,wE,z6,NW,Cut.V];exact X
   ·rw[M]at hct;rw[M]at q C W X r;simp[E,F,G,u,w,z,Li,Uo,h27,j,p,r,q,hkn,H,m1,m2,m3,zu,zX,zv];refine⟨by omega,?_,?_⟩
    ·simp[hk0,b0,n1]
    ·rw[hE,M];simp only[qI,z6,NW,Cut.V];exact W
  ·obtain rfl:k=l.length:=by omega
   rw[ja,<-hl]at A;simp[E,F,G,u,w,z,Li,Uo,h27,hw];exact⟨by omega,T,b0,L,A⟩
 ·obtain rfl:i=2:=by omega
  have hls3:(ls.take 2).flatten=a++b:=by rw[<-hls];simp
  rw[hls3]at A;have IC:∀c∈w7 (a++b),c.v.small:=KG (Q:=fun c=>c.v.small) fun s hs=>by
   rcases qh.1 hs with h|h
   ·exact ha2 s h
   ·exact hb2 s h
  have hcl:=Qf (a++b);rw[yy]at hcl;obtain⟨Y',I,hO',hfr'⟩:=fI A IC (by omega);obtain⟨v,hv7⟩:=kC (U 7);obtain⟨cs,SC⟩:=kC (Q2 (w7 (a++b)));have hcsl:cs.length<=8388608:=by rw[<-SC,(Zo _).length_eq];omega
  have hcsm:∀c∈cs,c.v.small:=fun c hc=>IC c ((Zo _).mem_iff.1 (by rw[SC];exact hc))
  have N5:Ws f a b=(nc (fun c=>f (Yd a c) (Yd b c)) cs (false,[])).2:=by rw[<-SC,Q1];rfl
  obtain⟨is,his⟩:∃is:Cut->Bool,(fun c=>f (Yd a c) (Yd b c))=is:=⟨_,rfl⟩;have hisc:∀c,f (Yd a c) (Yd b c)=is c:=fun c=>by rw[<-his]
  rw[his]at N5;rw[hv7]at I hO';rw[SC]at hO';clear A SC IC K hls3;have hlen:=hO'.len Fm;have p:(yU cs).length=cs.length:=by simp[yU]
  rw[p]at hlen;simp[E,F,G,u,w,z,hv7,I,hlen];refine zP (fun k U Y Z=>U 0=.sl 11 (qD a)/\U 1=.sl 11 (qD b)/\U 2=hv/\U 48=v/\U 49=int cs.length/\U 50=int k/\wD Y Z 256 5 v (yU cs)/\∃xs,wD Y Z 258 11 (U 12) xs/\xs.map (Qv vr)=qD (nc is (cs.take k) (false,[])).2 /\
    U 13=qO (nc is (cs.take k) (false,[])).1/\(∀id n m,v=.own id 0 n->U 12≠.own id 0 m)/\((nc is (cs.take k) (false,[])).1=true->(nc is (cs.take k) (false,[])).2≠[])/\xs.length<=k/\(xs=[]->U 12=.nil)) cs.length
   ⟨by simp[E],by simp[F],by simp[G],by simp,by simp,by simp,hO',[],.inl ⟨by simp,rfl⟩,by simp[nc,qD],by simp[nc],by simp,by simp[nc],by simp,by simp⟩ ?_
  clear E F G u w z T b0 L hO' hi U Y Z hlt I hlen hfr' hv7 Y';rintro k U Y Z hk ⟨E,F,G,h48,h49,h50,A,xs,hX,g,N,se,N6,SJ,hxn⟩;by_cases j:k<cs.length
  ·have H:=qz k;obtain⟨id,hid,rfl,hh⟩:=A.at_ (by rw[p];omega);have o:=Gf is j (false,[]);obtain⟨st,hst0⟩:=kC (nc is (cs.take k) (false,[]));obtain⟨c,hc⟩:=kC (cs[k]);rw[hc,hst0]at o;rw[hst0]at g N N6;have SK:=Ge is st c N6;have D:c.v.small:=hcsm c (by rw[<-hc];exact zm j);have r:∀h:k<(yU cs).length,(yU cs)[k]=c.V:=fun h=>by simp[yU,hc]
   have hca:=fun Y Z=>oF a c Y Z hsa D
   have SL:=fun Y Z=>oF b c Y Z hsb D
   have d:=fun Y Z=>IK (Yd a c) (Yd b c) Y Z
   rw[hisc c]at d;simp only[Cut.V]at hca SL r;have m0:¬id=Z:=by omega
   have m1:¬id=Z+1:=by omega
   have m2:¬id=Z+1+1:=by omega
   rw[p]at A;have hki:=fun Y'=>yo hX Y' id (fun n=>se id _ n rfl)
   have hswS:CL is st c=(is c,if(is c&&!st.1)=true then st.2++[jN c]else if(!is c&&st.1)=true then QJ st.2 c else st.2):=rfl;rw[hswS]at o;rw[hswS]at SK;simp only at SK;obtain⟨op,out⟩:=st;simp only at g N N6 SK;cases hb:is c<;>cases op
   ·rw[hb]at d o;simp at o;simp[E,F,G,h48,h49,h50,p,j,hh,r,hca,SL,d,N,H,m0,o];exact⟨by omega,A.more _,xs,hX.more _,g,fun i n m e _=>se i _ m (by rw[e]),by omega,hxn⟩
   ·rw[hb]at d o;simp at o;have hne:=N6 rfl;obtain⟨m,hm⟩:∃m,out.length=m+1:=⟨out.length-1,by have:=zcS.2 hne;omega⟩;have B:xs.length=m+1:=by have:=zo List.length g;simp[qD]at this;omega
    obtain⟨R,hid2,J,hh2⟩:=hX.at_ (by omega);have O8:¬R=id:=fun e=>se id _ _ rfl (by rw[J,e])
    have zbA:¬id=R:=fun e=>O8 e.symm
    have p0:¬R=Z:=by omega
    rw[B]at J;have hlm:m<xs.length:=by omega
    have hlo:m<out.length:=by omega
    have hrm:Qv vr xs[m]=out[m].V:=by
     have e1:(xs.map (Qv vr))[m]?=(qD out)[m]?:=by rw[g]
     simp only[qn,zn hlm,qD,zn hlo,zL,wb]at e1;exact e1
    obtain⟨x3,x5,x6,x7,x8,x9,x10,K,hn3,zbB⟩:=CN hrm;have wm:=wo (m:Int);have wm1:IntKind.i64.wrap ((m:Int)+1-1)=(m:Int):=by rw[qE (by omega) (by omega)];omega
    simp[E,F,G,h48,h49,h50,p,j,hh,r,hca,SL,d,N,H,m0,o,J,hh2,p0,wm,wm1,hlm,K,zbB,yi];refine⟨by omega,.inr ⟨id,by omega,by rw[p],by simp[zbA,m0,hh]⟩,xs.set m [int out[m].lo.v.a,int out[m].lo.v.b,int out[m].lo.v.c,x3,qO out[m].lo.after,int c.v.a,int c.v.b,int c.v.c,.sl 1 (zZ c.v.pre),qO c.after,qO false],.inr ⟨R,by omega,by simp[B],by simp⟩,?_,fun i n k' e _ e2=>absurd (e2.trans e.symm) O8,by simp;omega,fun e=>by have:=zo List.length e;rw[gk,B]at this;cases this⟩;rw[List.map_set,g,oE hlo hm c,qD,qD,List.map_set];simp[hn3,wG.V,Cut.V]
   ·rw[hb]at d o;simp at o;have q:=wD.jb (P:=prog) (t:=215) (c:=[int c.v.a,int c.v.b,int c.v.c,.sl 1 (zZ c.v.pre),qO c.after,int 0,int 0,int 0,.nil,qO false,qO true]) (hX.more (some ⟨256,5,false,[c.V]⟩)) zaw zaA zaB zaC rfl (by omega) (by unfold maxLen;omega) (by omega);simp only[Cut.V]at q;simp[E,F,G,h48,h49,h50,p,j,hh,r,hca,SL,d,N,H,m0,o,q,qg,qF,zu,zX,zv];refine⟨by omega,.inr ⟨id,by omega,by rw[p],by simp[hki,hh,m0,m1,m2]⟩,xs++[[int c.v.a,int c.v.b,int c.v.c,.sl 1 (zZ c.v.pre),qO c.after,int 0,int 0,int 0,.nil,qO false,qO true]],by simpa using wD.after,?_,fun i n m e _ e2=>by omega,by simp;omega⟩;rw[JU,g];simp[qD,jN,wG.V,Cut.V,WI,zZ]
   ·rw[hb]at d o;simp at o;simp[E,F,G,h48,h49,h50,p,j,hh,r,hca,SL,d,N,H,m0,o];exact⟨by omega,A.more _,xs,hX.more _,g,fun i n m e _=>se i _ m (by rw[e]),N6 rfl,by omega,hxn⟩
  ·obtain rfl:k=cs.length:=by omega
   rw[ja]at g;rw[<-N5]at g;have B:xs.length=(Ws f a b).length:=by have:=zo List.length g;simpa[qD]using this
   simp[E,F,G,h48,h49,h50,f185];unfold Ji;rcases hX with⟨J,rfl⟩|⟨R,hid2,J,hh2⟩
   ·rw[ze (qC.1 B.symm)];exact J
   ·by_cases hz:Ws f a b=[]
    ·rw[ze hz];rw[hz]at B;exact hxn (qC.1 B)
    ·rw[zj hz];refine⟨R,_,J,hh2,rfl,?_⟩;simp only[dG,g]
theorem dI(l:List wG):(Sh.s 11 vr).fix (.sl 11 (qD l))=.sl 11 (qD l):=by simp only[Sh.IB,qD,List.map_map];congr 1
noncomputable def oG:zb->Option (Option jV):=fun args=>
 match zS (α:=List wG×List wG) (fun a=>[.sl 11 (qD a.1),.sl 11 (qD a.2),.fn (.func 186) [] []]) (fun a=>yQ a.1/\yQ a.2) (fun a=>Ji and a.1 a.2) args with
 |some r=>some r
 |none=>zS (α:=List wG×List wG) (fun a=>[.sl 11 (qD a.1),.sl 11 (qD a.2),.fn (.func 187) [] []]) (fun a=>yQ a.1/\yQ a.2) (fun a=>Ji or a.1 a.2) args
theorem AL(g:O):∀a b:List wG×List wG,[O.sl 11 (qD a.1),.sl 11 (qD a.2),g]=[.sl 11 (qD b.1),.sl 11 (qD b.2),g]->a=b:=by rintro⟨f,h⟩ ⟨i,j⟩ e;simp only[zc,zs]at e;obtain⟨c,d⟩:=e;injection c with _ c;injection d with _ d;rw[Qd c,Qd d]
theorem fJ:zf prog 185 (JK [.s 11 vr,.s 11 vr] oG):=
 fH (fn:=f185) Mg (qW func185) _ vr _ fun args r h=>by
  unfold oG at h;split at h
  ·rename_i f e;injection h with h;subst h
   obtain⟨⟨a,b⟩,rfl,⟨c,d⟩,rfl⟩:=qd e;exact⟨by simp[f185],Vx and _ (fun x y Y Z=>by simp[oC]) a b c d⟩
  ·obtain⟨⟨a,b⟩,rfl,⟨c,d⟩,rfl⟩:=qd h;exact⟨by simp[f185],Vx or _ (fun x y Y Z=>by simp[oC]) a b c d⟩
theorem oH(args:zb)(r:Option jV)(h:KA 9 1 args=some r):args.length<=f246.ntmps/\∃x Y Z,jG C0 f246 args (fun _=>none) 0=some (x,Y,Z)/\cN r x Y Z:=by
 unfold KA at h;split at h
 ·injection h with h;subst h;exact⟨by simp[f246],zY rfl (by simp[ZM,Xc,f246,cN])⟩
 ·injection h with h;subst h;exact⟨by simp[f246],zY rfl (by simp[ZM,Xc,f246,cN,zu,kA,AM.view,maxLen,zX,zv])⟩
 ·rename_i es;split at h
  ·rename_i d;obtain⟨rfl,a,b⟩:=d;injection h with h;subst h
   cases es with
   |nil=>exact absurd rfl a
   |cons c es=>
    unfold zw at b;simp at b;have e:es.length+1<=maxLen:=by unfold maxLen;omega
    have f:(es.length+1)*16<=140737488355328:=by omega
    refine⟨by simp[f246],zY rfl ?_⟩;simp[ZM,Xc,f246,cN,zu,kA,AM.view,zX,zv,e,f]
  ·cases h
 ·cases h
theorem lN:zf prog 246 (km [] (KA 9 1)):=
 WV (fn:=f246) (code:=_) y7 ⟨func246,by kernel_rfl,rfl,by kernel_rfl⟩ [] _ oH
def T0(v:yE):O:=.agg v.V
def idS(s:wG):O:=.agg s.V
noncomputable def T1 (f:yE->O):zb->Option O:=zS (α:=yE) (fun v=>[.agg v.V]) (fun v=>v.pre.length<=zw) f
theorem oI(f:yE->O)(v:yE)(Y:Hp)(Z:Nat)(h:v.pre.length<=zw):qH [.g Zn] (T1 f) [.agg v.V] Y Z=some (f v,Y,Z):=
 va (show zy Y [.agg v.V]=some ([.agg v.V],Y) by simp[yE.V]) (by
  have c:(Sh.g Zn).fix (.agg v.V)=.agg v.V:=by simp[yE.V]
  show T1 f [(Sh.g Zn).fix (.agg v.V)]=_;rw[c];exact qx (V:=fun v:yE=>[O.agg v.V]) (a:=v) (fun a b e=>by simp only[zc,zs]at e;injection e with e;exact Wl e) h) (.inr (by simp[yE.V]))
noncomputable abbrev Ccpv:Ctx:=zG prog [(246,km [] (KA 9 1))]
theorem Mh:Gd Ccpv:=zM mixed ⟨lN,trivial⟩
theorem XJ(v:yE)(y:O)(f:Ab 1 (zZ v.pre) y)(h:v.pre.length<=zw):∃i,zt Ccpv f225 [.agg [int v.a,int v.b,int v.c,y]]=some i/\wu i (.agg v.V):=by
 obtain⟨a,b,c,p⟩:=v;refine WX (sh:=.g Zn) rfl ?_;simp only at h f;generalize e:zZ p=T at f;have d:T.length<=zw:=by rw[<-e];simpa[zZ]using h
 cases f with
 |nil=>simp[km,yr,KA,cS,yE.V,e,f225]
 |em=>simp[km,yr,KA,cS,yE.V,e,f225]
 |sl=>rename_i j es;simp only[zU]at d;simp[km,yr,KA,cS,yE.V,e,d,f225]
theorem Vy:zf prog 225 (qH [.g Zn] (T1 T0)):=
 YF (fn:=f225) Mh (qW func225) false [] _ fun args r h w S vs c=>by obtain⟨v,e,d,rfl⟩:=qd h;have a:=Wj (hs:=[.g Zn]) c;rw[e]at a;obtain⟨u,f,i⟩:=WR a;subst f;obtain⟨y,k,b⟩:=nQ i (j:=3) (s:=1) (es:=zZ v.pre) (by simp[yE.V]);obtain⟨l,m,n⟩:=XJ v y k d;exact⟨_,l,.cons b .nil,by simp[f225],by simpa[yE.V]using m,n⟩
noncomputable def FSt (f:wG->O):zb->Option O:=zS (α:=wG) (fun s=>[.agg s.V]) wG.small f
theorem Gh(f:wG->O)(s:wG)(u:O)(Y:Hp)(Z:Nat)(h:s.small)(c:(Sh.g vr).fix u=.agg s.V)(d:qe Y u=some (u,Y))(i:u.noOwn=true):qH [.g vr] (FSt f) [u] Y Z=some (f s,Y,Z):=
 va (show zy Y [u]=some ([u],Y) by simp only[zy,d]) (by show FSt f [(Sh.g vr).fix u]=_;rw[c];exact qx (V:=fun v:wG=>[O.agg v.V]) (a:=s) (fun a b e=>by simp only[zc,zs]at e;injection e with e;exact dD e) h) (.inr (by rw[wJ,i];rfl))
noncomputable abbrev Ccps:Ctx:=zG prog [(225,qH [.g Zn] (T1 T0))]
theorem Mi:AM.Good Ccps (fun g=>[225].contains g):=qc mixed ⟨Vy,fun _=>vp _ _,trivial⟩
theorem XK(s:wG)(hs:s.small):zt Ccps f188 [.agg s.V]=some (.agg s.V):=by
 refine zl rfl ?_;have d:∀Y Z,qH [.g Zn] (T1 T0) [.agg [int s.lo.v.a,int s.lo.v.b,int s.lo.v.c,.sl 1 (zZ s.lo.v.pre)]] Y Z=some (.agg [int s.lo.v.a,int s.lo.v.b,int s.lo.v.c,.sl 1 (zZ s.lo.v.pre)],Y,Z):=fun Y Z=>oI T0 s.lo.v Y Z hs.1.1
 have e:∀Y Z,qH [.g Zn] (T1 T0) [.agg [int s.hi.v.a,int s.hi.v.b,int s.hi.v.c,.sl 1 (zZ s.hi.v.pre)]] Y Z=some (.agg [int s.hi.v.a,int s.hi.v.b,int s.hi.v.c,.sl 1 (zZ s.hi.v.pre)],Y,Z):=fun Y Z=>oI T0 s.hi.v Y Z hs.2.1
 simp[wG.V,Cut.V,d,e,qU,f188,yi]
theorem Vz:zf prog 188 (qH [.g vr] (FSt idS)):=
 yN (fn:=f188) Mi (qW func188) _ _ fun args r h=>by obtain⟨s,rfl,a,rfl⟩:=qd h;exact⟨by simp[f188],_,XK s a,wu.refl _⟩
end Go.Q
